/- Laws on single operations. -/
import Derived.Test.YtndjoodgimomiaaDoorFw5
namespace Cr
open Go Go.RowKit

theorem addr_add (b o j : Nat) : (⟨b, o, none⟩ : Addr).add j = ⟨b, o + j, none⟩ := by unfold Addr.add; split <;> simp_all

section
variable {P : Program} {w : World} {ro : RO}

theorem rp_vals {ps : List PV} {off : Nat} {v : Value} (h : PRep ro w (.rp ps off) v) : ∃ b o xs, v = .pointer (some ⟨b, o + off, none⟩) ∧ PReps ro w ps xs ∧ (∀ x ∈ xs, x.oneCell' = true) ∧
    ∀ (j : Nat) u, xs[j]? = some u → ro b (o + j) ∧ w.cell? ⟨b, o + j, none⟩ = some u := by
  cases h with
  | rp _ _ b o f hro h1 hrep =>
    have hget : ∀ (j : Nat) u, ((List.range ps.length).map f)[j]? = some u → ∃ p, ps[j]? = some p ∧ u = f j := by
      intro j u hj
      have hj' : j < ps.length := by
        have := (List.getElem?_eq_some_iff.1 hj).1; simpa using this
      simp [hj'] at hj
      exact ⟨ps[j], List.getElem?_eq_getElem hj', hj.symm⟩
    refine ⟨b, o, (List.range ps.length).map f, rfl, ⟨by simp, ?_⟩, ?_, ?_⟩
    · intro i p x hp hx
      obtain ⟨q, hq, rfl⟩ := hget i x hx
      exact hrep i p hp
    · intro x hx
      obtain ⟨j, hj⟩ := List.getElem?_of_mem hx
      obtain ⟨q, hq, rfl⟩ := hget j x hj
      exact h1 j q hq
    · intro j u hj
      obtain ⟨q, hq, rfl⟩ := hget j u hj
      exact hro j q hq

theorem sl_vals {cap : Option Nat} {es : List PV} {v : Value} (h : PRep ro w (.sl cap es) v) : ∃ a c b o sz xs, v = .slice a es.length c ∧ (∀ q, cap = some q → q = c) ∧ es.length ≤ c ∧ es.length ≤ big ∧ c ≤ huge ∧
    (∀ e ∈ es, e.cells.length = sz) ∧ (es = [] ∨ a = some ⟨b, o, none⟩) ∧ PReps ro w (es.flatMap PV.cells) xs ∧ (∀ x ∈ xs, x.oneCell' = true) ∧
    ∀ (j : Nat) u, xs[j]? = some u → ro b (o + j) ∧ w.cell? ⟨b, o + j, none⟩ = some u := by
  cases h with
  | sl _ _ a c b o sz f hcap hlen hmax hc hsz ha hro h1 hrep =>
    have hget : ∀ (j : Nat) u, ((List.range (es.flatMap PV.cells).length).map f)[j]? = some u → ∃ p, (es.flatMap PV.cells)[j]? = some p ∧ u = f j := by
      intro j u hj
      have hj' : j < (es.flatMap PV.cells).length := by
        have := (List.getElem?_eq_some_iff.1 hj).1; rw [List.length_map, List.length_range] at this; exact this
      rw [List.getElem?_map, List.getElem?_range hj'] at hj
      exact ⟨(es.flatMap PV.cells)[j], List.getElem?_eq_getElem hj', (Option.some.inj hj).symm⟩
    refine ⟨a, c, b, o, sz, (List.range (es.flatMap PV.cells).length).map f, rfl, hcap, hlen, hmax, hc, hsz, ha, ⟨by rw [List.length_map, List.length_range], ?_⟩, ?_, ?_⟩
    · intro i p x hp hx
      obtain ⟨q, hq, rfl⟩ := hget i x hx
      exact hrep i p hp
    · intro x hx
      obtain ⟨j, hj⟩ := List.getElem?_of_mem hx
      obtain ⟨q, hq, rfl⟩ := hget j x hj
      exact h1 j q hq
    · intro j u hj
      obtain ⟨q, hq, rfl⟩ := hget j u hj
      exact hro j q hq

/-- A slice, out of its cells. -/
theorem sl_mk {cap : Option Nat} {es : List PV} {a : Option Addr} {c b o sz : Nat} {xs : List Value} (hcap : ∀ q, cap = some q → q = c) (hlen : es.length ≤ c) (hmax : es.length ≤ big) (hc : c ≤ huge)
    (hsz : ∀ e ∈ es, e.cells.length = sz) (ha : es = [] ∨ a = some ⟨b, o, none⟩) (hp : PReps ro w (es.flatMap PV.cells) xs) (h1 : ∀ x ∈ xs, x.oneCell' = true)
    (hcell : ∀ (j : Nat) u, xs[j]? = some u → ro b (o + j) ∧ w.cell? ⟨b, o + j, none⟩ = some u) : PRep ro w (.sl cap es) (.slice a es.length c) := by
  have hget : ∀ (i : Nat) p, (es.flatMap PV.cells)[i]? = some p → xs[i]? = some (xs.getD i undef) := by
    intro i p hi
    have : i < xs.length := by rw [← hp.1]; exact (List.getElem?_eq_some_iff.1 hi).1
    simp [List.getD, List.getElem?_eq_getElem this]
  exact .sl cap es a c b o sz (fun i => xs.getD i undef) hcap hlen hmax hc hsz ha (fun i p hi => hcell i _ (hget i p hi))
    (fun i p hi => h1 _ (List.mem_of_getElem? (hget i p hi))) (fun i p hi => hp.2 i p _ hi (hget i p hi))

theorem rp_mk {ps : List PV} {off b o : Nat} {xs : List Value} (hp : PReps ro w ps xs) (h1 : ∀ x ∈ xs, x.oneCell' = true)
    (hcell : ∀ (j : Nat) u, xs[j]? = some u → ro b (o + j) ∧ w.cell? ⟨b, o + j, none⟩ = some u) : PRep ro w (.rp ps off) (.pointer (some ⟨b, o + off, none⟩)) := by
  have hget : ∀ (i : Nat) p, ps[i]? = some p → xs[i]? = some (xs.getD i undef) := by
    intro i p hi
    have : i < xs.length := by rw [← hp.1]; exact (List.getElem?_eq_some_iff.1 hi).1
    simp [List.getD, List.getElem?_eq_getElem this]
  exact .rp ps off b o (fun i => xs.getD i undef) (fun i p hi => hcell i _ (hget i p hi))
    (fun i p hi => h1 _ (List.mem_of_getElem? (hget i p hi))) (fun i p hi => hp.2 i p _ hi (hget i p hi))

theorem run_isAgg {t : TypeId} {d : TypeDesc} (hu : P.underlying t = some d) : (isAgg t).run P w = .ok (isAggD d) w := by
  simp only [isAgg, Sem.run_bind, run_underlying hu, Result.andThen_ok]
  cases d <;> rfl

theorem run_sizeOf {t : TypeId} {i : TypeInfo} (hi : P.info? t = some i) : (Go.sizeOf t).run P w = .ok i.size w := by simp [Go.sizeOf, typeInfo, hi]

theorem run_loadVar_agg {t : TypeId} {d : TypeDesc} {i : TypeInfo} {b o : Nat} {xs : List Value} (hu : P.underlying t = some d) (hd : isAggD d = true) (hi : P.info? t = some i) (hs : i.size = xs.length)
    (h : ∀ (j : Nat) v, xs[j]? = some v → w.cell? ⟨b, o + j, none⟩ = some v) : (loadVar t ⟨b, o, none⟩).run P w = .ok (.agg xs.toArray) w := by
  have hl := run_loadCells_list (P := P) w ⟨b, o, none⟩ xs (fun j v hj => by rw [addr_add]; exact h j v hj)
  simp only [loadVar, Sem.run_bind, run_isAgg hu, hd, Result.andThen_ok, if_true, run_sizeOf hi, Sem.run_pure, hs, hl]

theorem run_loadVar_one {t : TypeId} {d : TypeDesc} {a : Addr} {v : Value} (hu : P.underlying t = some d) (hd : isAggD d = false) (h : w.cell? a = some v) : (loadVar t a).run P w = .ok v w := by
  simp only [loadVar, Sem.run_bind, run_isAgg hu, hd, Result.andThen_ok, Bool.false_eq_true, if_false, run_load, h]

/-! ### Structs compared -/

theorem cellEq0 {p q : PV} {b : Bool} (h : cellEq 0 p q = some b) : ∃ k a c, p = .int k a ∧ q = .int k c ∧ b = (a == c) := by
  cases p <;> cases q <;> simp only [cellEq] at h <;> try cases h
  split at h
  · rename_i e; subst e; cases h; exact ⟨_, _, _, rfl, rfl, rfl⟩
  · cases h
theorem cellEq1 {p q : PV} {b : Bool} (h : cellEq 1 p q = some b) : ∃ a c, p = .bool a ∧ q = .bool c ∧ b = (a == c) := by
  cases p <;> cases q <;> simp only [cellEq] at h <;> cases h
  exact ⟨_, _, rfl, rfl, rfl⟩
theorem cellEq2 {p q : PV} {b : Bool} (h : cellEq 2 p q = some b) : ∃ a c, p = .str a ∧ q = .str c ∧ b = (a == c) := by
  cases p <;> cases q <;> simp only [cellEq] at h <;> cases h
  exact ⟨_, _, rfl, rfl, rfl⟩

theorem cellsEq_append : ∀ {n1 n2 : List Nat} {a b : List PV} {r : Bool}, cellsEq (n1 ++ n2) a b = some r →
    ∃ u v, cellsEq n1 (a.take n1.length) (b.take n1.length) = some u ∧ cellsEq n2 (a.drop n1.length) (b.drop n1.length) = some v ∧ r = (u && v)
  | [], n2, a, b, r, h => ⟨true, r, by simp [cellsEq], by simpa using h, by simp⟩
  | n :: n1, n2, p :: a, q :: b, r, h => by
    simp only [List.cons_append, cellsEq] at h
    split at h
    · rename_i x y hx hy
      cases h
      obtain ⟨u, v, h1, h2, h3⟩ := cellsEq_append hy
      exact ⟨x && u, v, by simp [cellsEq, hx, h1], by simpa using h2, by rw [h3, Bool.and_assoc]⟩
    · cases h
  | n :: n1, _, [], _, _, h => by simp [cellsEq] at h
  | n :: n1, _, p :: a, [], _, h => by simp [cellsEq] at h

theorem cellsEq_length : ∀ {n : List Nat} {a b : List PV} {r : Bool}, cellsEq n a b = some r → a.length = n.length ∧ b.length = n.length
  | [], [], [], _, _ => ⟨rfl, rfl⟩
  | n :: ns, p :: a, q :: b, r, h => by
    simp only [cellsEq] at h
    split at h
    · rename_i x y hx hy
      have := cellsEq_length hy
      simp [this.1, this.2]
    · cases h
  | [], p :: a, _, _, h => by simp [cellsEq] at h
  | [], [], q :: b, _, h => by simp [cellsEq] at h
  | n :: ns, [], _, _, h => by simp [cellsEq] at h
  | n :: ns, p :: a, [], _, h => by simp [cellsEq] at h

/-- The value that a type's cells make. -/
def valOf (g : Bool) (xs : List Value) : Value := if g then .agg xs.toArray else xs.getD 0 undef

theorem run_part {t : TypeId} {d : TypeDesc} {i : TypeInfo} (hu : P.underlying t = some d) (hi : P.info? t = some i) {xs : List Value} {off : Nat} (hn : isAggD d = false → i.size = 1) (hl : off + i.size ≤ xs.length) :
    (part t xs.toArray off).run P w = .ok (valOf (isAggD d) ((xs.drop off).take i.size)) w := by
  simp only [part, Sem.run_bind, run_isAgg hu, Result.andThen_ok]
  cases hd : isAggD d with
  | true =>
    simp only [if_true, Sem.run_bind, run_sizeOf hi, Result.andThen_ok, Sem.run_pure, valOf]
    congr 2
    apply Array.ext'
    simp
  | false =>
    have h1 := hn hd
    have hlt : off < xs.length := by omega
    simp [valOf, h1, hlt, List.getElem?_eq_getElem hlt]

theorem underlying_info {t : TypeId} {d : TypeDesc} (hu : P.underlying t = some d) : ∃ i, P.info? t = some i := by
  unfold Program.underlying at hu
  cases h : P.info? t with
  | some i => exact ⟨i, rfl⟩
  | none => simp [h] at hu

theorem cellsOf_info {t : TypeId} {i : TypeInfo} (h : P.info? t = some i) : P.cellsOf t = i.size := by simp [Program.cellsOf, h]

theorem valOf_eq {d : Nat} (ih : ∀ t l, plainT P d t = some l → ∀ n, d ≤ n → ∀ (ps qs : List PV) (xs ys : List Value) (dsc : TypeDesc) (b : Bool), P.underlying t = some dsc → PReps ro w ps xs → PReps ro w qs ys → cellsEq l ps qs = some b →
      (Op.equalIn n t (valOf (isAggD dsc) xs) (valOf (isAggD dsc) ys)).run P w = .ok b w) (n : Nat) (hn : d ≤ n) {ps qs : List PV} {xs ys : List Value} (hp : PReps ro w ps xs) (hq : PReps ro w qs ys) :
    ∀ (fs : List Field) (off : Nat) (l : List Nat) (b : Bool), plainFs P (plainT P d) off fs = some l → cellsEq l (ps.drop off) (qs.drop off) = some b → (Op.eqFields n xs.toArray ys.toArray fs).run P w = .ok b w
  | [], off, l, b, h, hb => by
    cases h
    have hl := cellsEq_length hb
    have e1 := List.length_eq_zero_iff.mp hl.1
    have e2 := List.length_eq_zero_iff.mp hl.2
    rw [e1, e2] at hb
    simp only [cellsEq] at hb
    cases hb
    rfl
  | f :: r, off, l, b, h, hb => by
    simp only [plainFs] at h
    split at h
    · rename_i hf
      obtain ⟨ho, hname⟩ := hf
      simp only [Option.bind_eq_some_iff] at h
      obtain ⟨lf, hlf, h⟩ := h
      split at h
      · rename_i hsz'
        obtain ⟨hsz, hpos⟩ := hsz'
        simp only [Option.bind_eq_some_iff] at h
        obtain ⟨m, hm, h⟩ := h
        cases h
        obtain ⟨u, v, h1, h2, h3⟩ := cellsEq_append hb
        have hlen := cellsEq_length h1
        have hd : ∃ dsc, P.underlying f.type = some dsc := by
          cases d with
          | zero => simp [plainT] at hlf
          | succ d =>
            unfold plainT at hlf
            split at hlf <;> first | exact ⟨_, by assumption⟩ | cases hlf
        obtain ⟨dsc, hdsc⟩ := hd
        obtain ⟨i, hi⟩ := underlying_info hdsc
        have hisz : i.size = lf.length := by rw [← cellsOf_info hi, hsz]
        have hone : isAggD dsc = false → i.size = 1 := by
          intro hg
          rw [hisz]
          cases d with
          | zero => simp [plainT] at hlf
          | succ d =>
            unfold plainT at hlf
            rw [hdsc] at hlf
            split at hlf <;> first | (cases hlf; rfl) | (rename_i e; cases e; cases hg) | cases hlf
        have hx : off + i.size ≤ xs.length := by
          have := hlen.1
          rw [hisz, ← hp.1]; simp at this; omega
        have hy : off + i.size ≤ ys.length := by
          have := hlen.2
          rw [hisz, ← hq.1]; simp at this; omega
        have e1 := run_part (P := P) (w := w) hdsc hi hone hx
        have e2 := run_part (P := P) (w := w) hdsc hi hone hy
        have e3 := ih f.type lf hlf n hn _ _ _ _ dsc u hdsc (hp.sub off i.size) (hq.sub off i.size) (by rw [hisz]; exact h1)
        have e4 := valOf_eq ih n hn hp hq r (off + lf.length) m v hm (by rw [← List.drop_drop, ← List.drop_drop]; exact h2)
        subst ho
        simp only [Op.eqFields, hname, ne_eq, not_false_eq_true, if_true, Sem.run_bind, e1, e2, Result.andThen_ok, e3, Sem.run_ite, e4, Sem.run_pure, h3]
        cases u <;> simp
      · cases h
    · cases h

theorem eq_plain : ∀ (d : Nat) (t : TypeId) (l : List Nat), plainT P d t = some l → ∀ n, d ≤ n → ∀ (ps qs : List PV) (xs ys : List Value) (dsc : TypeDesc) (b : Bool), P.underlying t = some dsc → PReps ro w ps xs → PReps ro w qs ys → cellsEq l ps qs = some b →
    (Op.equalIn n t (valOf (isAggD dsc) xs) (valOf (isAggD dsc) ys)).run P w = .ok b w
  | 0, t, l, h, _, _, _, _, _, _, _, _, _, _, _, _ => by simp [plainT] at h
  | d + 1, t, l, h, 0, hn, _, _, _, _, _, _, _, _, _, _ => by omega
  | d + 1, t, l, h, n + 1, hn, ps, qs, xs, ys, dsc, b, hu, hp, hq, hb => by
    have one : ∀ k, l = [k] → ∃ p q x y, ps = [p] ∧ qs = [q] ∧ xs = [x] ∧ ys = [y] ∧ PRep ro w p x ∧ PRep ro w q y ∧ cellEq k p q = some b := by
      intro k e
      subst e
      have hl := cellsEq_length hb
      obtain ⟨p, rfl⟩ := List.length_eq_one_iff.mp hl.1
      obtain ⟨q, rfl⟩ := List.length_eq_one_iff.mp hl.2
      obtain ⟨x, rfl⟩ := List.length_eq_one_iff.mp hp.1.symm
      obtain ⟨y, rfl⟩ := List.length_eq_one_iff.mp hq.1.symm
      refine ⟨p, q, x, y, rfl, rfl, rfl, rfl, hp.2 0 p x rfl rfl, hq.2 0 q y rfl rfl, ?_⟩
      simp only [cellsEq] at hb
      split at hb
      · rename_i a c ha hc
        cases hc; cases hb; simpa using ha
      · cases hb
    unfold plainT at h
    rw [hu] at h
    split at h
    · rename_i k e; cases e; cases h
      obtain ⟨p, q, x, y, rfl, rfl, rfl, rfl, h1, h2, h3⟩ := one 0 rfl
      simp only [isAggD, valOf, Bool.false_eq_true, if_false, List.getD_cons_zero]
      obtain ⟨k', a, c, rfl, rfl, rfl⟩ := cellEq0 h3
      cases h1; cases h2
      exact run_equalIn_int w n t k' k a c hu
    · rename_i e; cases e; cases h
      obtain ⟨p, q, x, y, rfl, rfl, rfl, rfl, h1, h2, h3⟩ := one 1 rfl
      simp only [isAggD, valOf, Bool.false_eq_true, if_false, List.getD_cons_zero]
      obtain ⟨a, c, rfl, rfl, rfl⟩ := cellEq1 h3
      cases h1; cases h2
      exact run_equalIn_bool w n t _ _ hu
    · rename_i e; cases e; cases h
      obtain ⟨p, q, x, y, rfl, rfl, rfl, rfl, h1, h2, h3⟩ := one 2 rfl
      simp only [isAggD, valOf, Bool.false_eq_true, if_false, List.getD_cons_zero]
      obtain ⟨a, c, rfl, rfl, rfl⟩ := cellEq2 h3
      cases h1; cases h2
      rw [run_equalIn_string w n t _ _ hu]
      simp
    · rename_i fs e; cases e
      split at h
      · rename_i hst
        simp only [isAggD, valOf, if_true]
        have hfs : P.fieldsOf t = fs := by simp [Program.fieldsOf, hu]
        rw [run_equalIn_struct w n t _ _ (by rw [hfs]; exact hu) hst, hfs]
        exact valOf_eq (fun t l h m hm ps qs xs ys dsc b => eq_plain d t l h m hm ps qs xs ys dsc b) n (by omega) hp hq fs.toList 0 l b h (by simpa using hb)
      · cases h
    · cases h

end
end Cr
