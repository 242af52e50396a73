/- Small laws on states: operands, new blocks, a slot written. -/
import Derived.Test.YtndjoodgimomiaaDoorFw3
import Derived.Laws.CopyRow
import Derived.Laws.AppendOwn
import Derived.Laws.Strings
import Derived.Laws.Strings2
import Derived.Laws.Concat
import Derived.Laws.StructEq
import Derived.Laws.Tables
import Derived.Laws.Entries
namespace Cr
open Go Go.RowKit

theorem str_eta (s : ByteArray) : (⟨s.data.toList.toArray⟩ : ByteArray) = s := by cases s; simp

theorem pvOf_rep {v : Value} (h : okConst v = true) (ro : RO) (w : World) : PRep ro w (pvOf v) v := by
  unfold okConst at h
  split at h
  · exact .int _ _
  · exact .bool _
  · rename_i s
    have hs : s.data.toList.length ≤ big := by rw [Array.length_toList]; exact of_decide_eq_true h
    have := PRep.str (ro := ro) (w := w) s.data.toList hs
    rwa [str_eta] at this
  · exact .sl (some 0) [] none 0 0 0 0 (fun _ => undef) (by intro q hq; cases hq; rfl) (Nat.le_refl _) (Nat.zero_le _) (Nat.zero_le _) (by simp) (.inl rfl) (by simp) (by simp) (by simp)
  · exact .lit _ rfl
  · exact .lit _ rfl
  · exact .lit _ rfl
  · exact .lit _ rfl
  · cases h

theorem okConst_one {v : Value} (h : okConst v = true) : v.oneCell' = true := by
  unfold okConst at h
  split at h <;> first | rfl | cases h

theorem opd_rep {N : Nat} {σ : St} {a : Act} {ι : Places} {ro : RO} {w : World} (hs : ∀ k, ARep ι σ.ob ro w (σ.sl k) (a.tmps.getD k undef)) {x : Operand} {y : Opd} (h : cOpd N x = some y) :
    ARep ι σ.ob ro w (y.ev σ.sl) (a.eval x) := by
  cases x with
  | tmp k => simp only [cOpd] at h; split at h <;> cases h; exact hs k
  | const v => simp only [cOpd] at h; split at h <;> cases h; exact .pv _ _ (pvOf_rep (by assumption) _ _)
  | func f => cases h; exact .pv _ _ (.fnv f)
  | global g => cases h

theorem opds_rep {N : Nat} {σ : St} {a : Act} {ι : Places} {ro : RO} {w : World} (hs : ∀ k, ARep ι σ.ob ro w (σ.sl k) (a.tmps.getD k undef)) : ∀ {xs : List Operand} {ys : List Opd}, cOpds N xs = some ys →
    RepAll ι σ.ob ro w (ys.map (Opd.ev σ.sl)) (xs.map a.eval)
  | [], ys, h => by cases h; exact ⟨rfl, by simp⟩
  | x :: r, ys, h => by
    simp only [cOpds, Option.bind_eq_some_iff] at h
    obtain ⟨y, hy, l, hl, h⟩ := h
    cases h
    obtain ⟨h1, h2⟩ := opds_rep hs hl
    refine ⟨by simpa using h1, ?_⟩
    intro i p v hp hv
    cases i with
    | zero => simp at hp hv; subst hp hv; exact opd_rep hs hy
    | succ i => simp at hp hv; exact h2 i p v (by simpa using hp) (by simpa using hv)

/-! ### Cells -/

theorem PRep.one {ro : RO} {w : World} {p : PV} {x : Value} (h : PRep ro w p x) (hp : ∀ cs, p ≠ .agg cs) : x.oneCell' = true := by
  cases h <;> first | rfl | assumption | (exact absurd rfl (hp _))

theorem PRep.cells {ro : RO} {w : World} {p : PV} {x : Value} (h : PRep ro w p x) : PReps ro w p.cells x.cells.toList ∧ ∀ v ∈ x.cells.toList, v.oneCell' = true := by
  have simple : (∀ cs, p ≠ .agg cs) → (∀ cs, x ≠ .agg cs) → PReps ro w p.cells x.cells.toList ∧ ∀ v ∈ x.cells.toList, v.oneCell' = true := by
    intro hp hx
    have h1 : p.cells = [p] := by cases p <;> first | rfl | exact absurd rfl (hp _)
    have h2 : x.cells = #[x] := by cases x <;> first | rfl | exact absurd rfl (hx _)
    rw [h1, h2]
    refine ⟨⟨rfl, ?_⟩, by simpa using h.one hp⟩
    intro i q v hq hv
    cases i with
    | zero => simp at hq hv; subst hq hv; exact h
    | succ i => simp at hq
  cases h with
  | agg cs xs hl h1 hrep =>
    simp only [PV.cells, Value.cells]
    exact ⟨⟨hl, by simpa using hrep⟩, by simpa using h1⟩
  | lit v h => exact simple (by simp) (by intro cs e; subst e; simp [Value.oneCell'] at h)
  | _ => exact simple (by simp) (by simp)

theorem repAll_pv {ι : Places} {ob : Obs} {ro : RO} {w : World} {ps : List PV} {xs : List Value} (h : PReps ro w ps xs) : RepAll ι ob ro w (ps.map .pv) xs := by
  refine ⟨by simpa using h.1, ?_⟩
  intro i p x hp hx
  simp at hp
  obtain ⟨q, hq, rfl⟩ := hp
  exact .pv _ _ (h.2 i q x hq hx)

theorem ARep.cellsOf {ι : Places} {ob : Obs} {ro : RO} {w : World} {v : AV} {x : Value} {cs : List AV} (h : ARep ι ob ro w v x) (hc : v.cellsOf = some cs) :
    RepAll ι ob ro w cs x.cells.toList ∧ ∀ u ∈ x.cells.toList, u.oneCell' = true := by
  cases h with
  | any x => cases hc
  | pv p x h => cases hc; exact ⟨repAll_pv h.cells.1, h.cells.2⟩
  | ptr n off pl t cs h hb h0 =>
    cases hc
    refine ⟨⟨rfl, ?_⟩, by simp [Value.cells, Value.oneCell']⟩
    intro i p x hp hx
    cases i with
    | zero => simp [Value.cells] at hp hx; subst hp hx; exact .ptr n off pl t _ h hb h0
    | succ i => simp at hp
  | sa n gen off len cap t g sz es x ho hg hx h =>
    cases hc
    obtain ⟨a, k, c, rfl⟩ := hx
    refine ⟨⟨rfl, ?_⟩, by simp [Value.cells, Value.oneCell']⟩
    intro i p x hp' hx
    cases i with
    | zero =>
      have hx' : some (Value.slice a k c) = some x := hx
      have hp'' : some (AV.sa n gen off len cap) = some p := hp'
      cases hx'; cases hp''
      exact .sa n gen off len cap t g sz es _ ho hg ⟨_, _, _, rfl⟩ h
    | succ i => simp at hp'
  | yf n b r cs0 pl ho hp =>
    cases hc
    refine ⟨⟨rfl, ?_⟩, by simp [Value.cells, Value.oneCell']⟩
    intro j p x hp' hx
    cases j with
    | zero =>
      have hx' : some (Value.func (.yield pl.b) #[] #[]) = some x := hx
      have hp'' : some (AV.yf n) = some p := hp'
      cases hx'; cases hp''
      exact .yf n b r cs0 pl ho hp
    | succ i => simp at hp'
  | pe n gen c t g sz es x ho hg hx h =>
    cases hc
    obtain ⟨a, rfl⟩ := hx
    refine ⟨⟨rfl, ?_⟩, by simp [Value.cells, Value.oneCell']⟩
    intro j p x hp' hx
    cases j with
    | zero =>
      have hx' : some (Value.pointer a) = some x := hx
      have hp'' : some (AV.pe n gen c) = some p := hp'
      cases hx'; cases hp''
      exact .pe n gen c t g sz es _ ho hg ⟨_, rfl⟩ h
    | succ i => simp at hp'
  | rs n len t sz es x ho hl hp hfull hown =>
    cases hc
    have hx : ∃ a c, x = .slice a (es.take len).length c := by cases hp; exact ⟨_, _, rfl⟩
    obtain ⟨a, c, rfl⟩ := hx
    refine ⟨⟨rfl, ?_⟩, by simp [Value.cells, Value.oneCell']⟩
    intro i p x hp' hx
    cases i with
    | zero =>
      have hx' : some (Value.slice a (es.take len).length c) = some x := hx
      have hp'' : some (AV.rs n len) = some p := hp'
      cases hx'; cases hp''
      exact .rs n len t sz es _ ho hl hp hfull hown
    | succ i => simp at hp'
  | rh n len t sz es x ho hl hx hown =>
    cases hc
    obtain ⟨a, c, rfl, hxp⟩ := hx
    refine ⟨⟨rfl, ?_⟩, by simp [Value.cells, Value.oneCell']⟩
    intro j p x hp' hx
    cases j with
    | zero =>
      have hx' : some (Value.pointer a) = some x := hx
      have hp'' : some (AV.rh n len) = some p := hp'
      cases hx'; cases hp''
      exact .rh n len t sz es _ ho hl ⟨_, _, rfl, hxp⟩ hown
    | succ i => simp at hp'
  | fn f caps xs hl hrep =>
    cases hc
    refine ⟨⟨rfl, ?_⟩, by simp [Value.cells, Value.oneCell']⟩
    intro i p x hp hx
    cases i with
    | zero => simp [Value.cells] at hp hx; subst hp hx; exact .fn f caps xs hl hrep
    | succ i => simp at hp
  | ag cs xs hl h1 hrep => cases hc; simp only [Value.cells]; exact ⟨⟨hl, by simpa using hrep⟩, by simpa using h1⟩
  | tup vs xs hl hrep => cases hc

theorem ARep.toPV {ι : Places} {ob : Obs} {ro : RO} {w : World} {v : AV} {x : Value} {p : PV} (h : ARep ι ob ro w v x) (hc : v.toPV ob = some p) : PRep ro w p x := by
  cases h with
  | pv p x h => cases hc; exact h
  | rs n len t sz es x ho hl hp hfull hown => simp only [AV.toPV, ho] at hc; cases hc; exact hp
  | _ => cases hc

theorem allPV_rep {ι : Places} {ob : Obs} {ro : RO} {w : World} : ∀ {vs : List AV} {xs : List Value} {ps : List PV}, RepAll ι ob ro w vs xs → allPV ob vs = some ps → PReps ro w ps xs
  | [], xs, ps, h, hc => by cases hc; exact ⟨by simpa using h.1, by simp⟩
  | v :: r, xs, ps, h, hc => by
    simp only [allPV] at hc
    split at hc
    · rename_i p l hp hl
      cases hc
      cases xs with
      | nil => simp [RepAll] at h
      | cons x xs =>
        have ih := allPV_rep (ι := ι) (ob := ob) (ro := ro) (w := w) (vs := r) (xs := xs) (ps := l) ⟨by simpa using h.1, fun i p y hp hy => h.2 (i + 1) p y (by simpa using hp) (by simpa using hy)⟩ hl
        refine ⟨by simpa using ih.1, ?_⟩
        intro i q y hq hy
        cases i with
        | zero => simp at hq hy; subst hq hy; exact (h.2 0 v x rfl rfl).toPV hp
        | succ i => exact ih.2 i q y (by simpa using hq) (by simpa using hy)
    · cases hc

theorem aggOf_rep {ι : Places} {ob : Obs} {ro : RO} {w : World} {cs : List AV} {xs : List Value} (h : RepAll ι ob ro w cs xs) (h1 : ∀ x ∈ xs, x.oneCell' = true) : ARep ι ob ro w (aggOf ob cs) (.agg xs.toArray) := by
  unfold aggOf
  split
  · rename_i l hl
    have hp := allPV_rep h hl
    exact .pv _ _ (.agg l xs hp.1 h1 hp.2)
  · exact .ag cs xs h.1 h1 h.2

theorem RepAll.grew {ι ι' : Places} {ob ob' : Obs} {ro ro' : RO} {w w' : World} (g : Grew ι ob ro w ι' ob' ro' w') {cs : List AV} {xs : List Value} (h : RepAll ι ob ro w cs xs) : RepAll ι' ob' ro' w' cs xs :=
  ⟨h.1, fun i p x hp hx => (h.2 i p x hp hx).grew g⟩

theorem RepAll.sub {ι : Places} {ob : Obs} {ro : RO} {w : World} {cs : List AV} {xs : List Value} (h : RepAll ι ob ro w cs xs) (o n : Nat) : RepAll ι ob ro w ((cs.drop o).take n) ((xs.drop o).take n) := by
  refine ⟨by simp [h.1], ?_⟩
  intro i p x hp hx
  simp only [List.getElem?_take, List.getElem?_drop] at hp hx
  split at hp
  · rename_i hi
    rw [if_pos hi] at hx
    exact h.2 _ p x hp hx
  · cases hp

theorem PReps.sub {ro : RO} {w : World} {cs : List PV} {xs : List Value} (h : PReps ro w cs xs) (o n : Nat) : PReps ro w ((cs.drop o).take n) ((xs.drop o).take n) := by
  refine ⟨by simp [h.1], ?_⟩
  intro i p x hp hx
  simp only [List.getElem?_take, List.getElem?_drop] at hp hx
  split at hp
  · rename_i hi
    rw [if_pos hi] at hx
    exact h.2 _ p x hp hx
  · cases hp

theorem RepAll.splice {ι : Places} {ob : Obs} {ro : RO} {w : World} {cs vs : List AV} {xs us : List Value} (h : RepAll ι ob ro w cs xs) (k : RepAll ι ob ro w vs us) (o : Nat) (ho : o + vs.length ≤ cs.length) :
    RepAll ι ob ro w (splice cs o vs) (splice xs o us) := by
  have e1 := h.1
  have e2 := k.1
  refine ⟨by simp [Cr.splice]; omega, ?_⟩
  intro i p x hp hx
  unfold Cr.splice at hp hx
  rcases Nat.lt_or_ge i o with hi | hi
  · rw [List.append_assoc, List.getElem?_append_left (by simp; omega), List.getElem?_take, if_pos hi] at hp hx
    exact h.2 i p x hp hx
  · rcases Nat.lt_or_ge i (o + vs.length) with hj | hj
    · rw [List.append_assoc, List.getElem?_append_right (by simp; omega), List.getElem?_append_left (by simp; omega)] at hp hx
      have t1 : (cs.take o).length = o := by simp; omega
      have t2 : (xs.take o).length = o := by simp; omega
      rw [t1] at hp; rw [t2] at hx
      exact k.2 _ p x hp hx
    · rw [List.getElem?_append_right (by simp; omega), List.getElem?_drop] at hp hx
      have t1 : (cs.take o ++ vs).length = o + vs.length := by simp; omega
      have t2 : (xs.take o ++ us).length = o + us.length := by simp; omega
      rw [t1] at hp; rw [t2] at hx
      have a1 : o + vs.length + (i - (o + vs.length)) = i := by omega
      have a2 : o + us.length + (i - (o + us.length)) = i := by omega
      rw [a1] at hp; rw [a2] at hx
      exact h.2 i p x hp hx

/-! ### States -/

theorem getD_put (l : Array Value) (k j : Nat) (v u : Value) (hk : k < l.size) : (l.setIfInBounds k v).getD j u = if j = k then v else l.getD j u := by
  by_cases h : j = k
  · subst h; simp [Array.getD, hk]
  · have h' : k ≠ j := fun e => h e.symm
    simp [Array.getD_eq_getD_getElem?, Array.getElem?_setIfInBounds, h', h]

section
variable {N : Nat} {E : Ent} {σ : St} {a : Act} {w : World} {ι : Places} {ro : RO}

theorem SatI.put (hS : SatI N E σ a w ι ro) {d : Option Nat} {v : AV} {x : Value} (hd : ∀ k, d = some k → k < N) (hv : ARep ι σ.ob ro w v x) : SatI N E (σ.put d v) (a.put d x) w ι ro := by
  cases d with
  | none => exact hS
  | some k =>
    have hk : k < a.tmps.size := by rw [hS.size]; exact hd k rfl
    refine ⟨hS.keeps, by simp [Act.put, hS.size], hS.defers.put _ _, ?_, hS.objs, hS.dom, hS.inj, hS.home, hS.rolt, hS.roold, hS.gr⟩
    intro j
    simp only [St.put, Act.put]
    rw [getD_put _ _ _ _ _ hk]
    split
    · exact hv
    · exact hS.slots j

theorem OHas.lt {n : Nat} {o : Ob} (h : OHas ι σ.ob ro w n o) {pl : Place} (hp : ι n = some pl) : pl.b < w.heap.size := by
  cases o with
  | box t cs =>
    obtain ⟨pl', cur, h1, _, h2, _⟩ := h
    rw [hp] at h1; cases h1
    exact (Array.getElem?_eq_some_iff.1 h2).1
  | row t sz es =>
    obtain ⟨cur, fz, h2, _⟩ := h.2.2 pl hp
    exact (Array.getElem?_eq_some_iff.1 h2).1
  | arr t g sz es =>
    obtain ⟨cur, h2, _⟩ := h.2 pl hp
    exact (Array.getElem?_eq_some_iff.1 h2).1
  | lrec b r cs =>
    obtain ⟨pl', h1, h2, _⟩ := h
    rw [hp] at h1; cases h1
    exact (Array.getElem?_eq_some_iff.1 h2).1

theorem OHas.moved {ob ob' : Obs} {ι' : Places} {ro' : RO} {w' : World} {n : Nat} {o : Ob} (h : OHas ι ob ro w n o) (g : Grew ι ob ro w ι' ob' ro' w') (hι : ι' n = ι n)
    (hh : ∀ pl, ι n = some pl → w'.heap[pl.b]? = w.heap[pl.b]?) (hro : ∀ pl o, ι n = some pl → ro' pl.b o → ro pl.b o) : OHas ι' ob' ro' w' n o := by
  cases o with
  | box t cs =>
    obtain ⟨pl, cur, e1, e2, e3, e4, e5, e6⟩ := h
    exact ⟨pl, cur, hι.trans e1, e2, (hh pl e1).trans e3, e4.grew g, e5, fun o ho => e6 o (hro pl o e1 ho)⟩
  | row t sz es =>
    refine ⟨h.1, fun e => h.2.1 (hι.symm.trans e), fun pl hpl => ?_⟩
    have hp := hι.symm.trans hpl
    obtain ⟨cur, fz, e1, ef, e2, e3, e4, e5, e6⟩ := h.2.2 pl hp
    exact ⟨cur, fz, (hh pl hp).trans e1, ef, e2, e3, e4, e5, fun o ho hr => e6 o ho (hro pl o hp hr)⟩
  | arr t gn sz es =>
    refine ⟨fun e => h.1 (hι.symm.trans e), fun pl hpl => ?_⟩
    have hp := hι.symm.trans hpl
    obtain ⟨cur, e1, e2, e3, e4, e5, e6, e8, e9⟩ := h.2 pl hp
    exact ⟨cur, (hh pl hp).trans e1, e2, e3, e4, e5, fun o hr => e6 o (hro pl o hp hr), e8.grew g, e9⟩
  | lrec b r cs =>
    obtain ⟨pl, e1, e2, e3⟩ := h
    exact ⟨pl, hι.trans e1, (hh pl e1).trans e2, e3.grew g⟩

/-- A new block for a new variable. -/
theorem SatI.alloc (hS : SatI N E σ a w ι ro) {d : Nat} (hd : σ.ob d = none) {cs : List AV} {xs : List Value} (hr : RepAll ι σ.ob ro w cs xs) (h1 : ∀ x ∈ xs, x.oneCell' = true) (t : TypeId) :
    ∃ ι', SatI N E ⟨σ.sl, upd σ.ob d (.box t cs)⟩ a (w.alloc (.cells xs.toArray t)) ι' ro ∧ ι' d = some ⟨w.heap.size, 0, 0⟩ := by
  let ι' : Places := fun n => if n = d then some ⟨w.heap.size, 0, 0⟩ else ι n
  have hι : ι d = none := by
    cases h : ι d with
    | none => rfl
    | some pl => obtain ⟨o, ho⟩ := hS.dom d pl h; rw [hd] at ho; cases ho
  have hne : ∀ n o, σ.ob n = some o → n ≠ d := fun n o ho e => by subst e; rw [hd] at ho; cases ho
  have hl : Later ro w ro (w.alloc (.cells xs.toArray t)) := fun b o h => ⟨h, World.cell?_alloc_lt _ _ _ (hS.rolt b o h)⟩
  have hg : Grew ι σ.ob ro w ι' (upd σ.ob d (.box t cs)) ro (w.alloc (.cells xs.toArray t)) := by
    refine ⟨hl, ?_, ?_, ?_, ?_⟩
    · intro n t' c hc
      exact ⟨c, by simp [upd, hne n _ hc, hc], by simp [ι', hne n _ hc]⟩
    · intro n t' sz es hc
      exact ⟨[], by simp [upd, hne n _ hc, hc], fun _ => by simp [ι', hne n _ hc]⟩
    · intro n t' g sz es hc
      exact ⟨g, es, by simp [upd, hne n _ hc, hc], Nat.le_refl _, fun _ => ⟨rfl, by simp [ι', hne n _ hc]⟩⟩
    · intro n b r cs hc
      exact ⟨b, cs, by simp [upd, hne n _ hc, hc], by simp [ι', hne n _ hc]⟩
  refine ⟨ι', ⟨?_, hS.size, hS.defers.alloc _, ?_, ?_, ?_, ?_, ?_, ?_, hS.roold, hS.gr.trans hg⟩, by simp [ι']⟩
  · refine hS.keeps.trans ⟨rfl, rfl, rfl, by simp, fun k hk _ => Below.heap_alloc _ _ _ hk⟩
  · exact fun k => (hS.slots k).grew hg
  · intro n o ho
    simp only [upd] at ho
    split at ho
    · rename_i e
      subst e; cases ho
      refine ⟨⟨w.heap.size, 0, 0⟩, xs.toArray, by simp [ι'], rfl, heap_alloc_new _ _, by simpa using hr.grew hg, by simpa using h1, ?_⟩
      intro o ho
      have := hS.rolt _ _ ho
      simp at this
    · rename_i hn
      have hO := hS.objs n o ho
      refine hO.moved hg (by simp [ι', hn]) (fun pl hp => Below.heap_alloc _ _ _ (hO.lt hp)) (fun _ _ _ h => h)
  · intro n pl h
    by_cases e : n = d
    · exact ⟨.box t cs, by simp [upd, e]⟩
    · obtain ⟨o, ho⟩ := hS.dom n pl (by simpa [ι', e] using h)
      exact ⟨o, by simp [upd, e, ho]⟩
  · intro n m p q hn hm hpq
    have lt : ∀ k pl, ι k = some pl → pl.b < w.heap.size := fun k pl hk => by
      obtain ⟨o, ho⟩ := hS.dom k pl hk
      exact (hS.objs k o ho).lt hk
    by_cases e1 : n = d <;> by_cases e2 : m = d
    · omega
    · simp [ι', e1] at hn; simp [ι', e2] at hm
      subst hn
      have := lt m q hm
      simp at hpq; omega
    · simp [ι', e1] at hn; simp [ι', e2] at hm
      subst hm
      have := lt n p hn
      simp at hpq; omega
    · simp [ι', e1] at hn; simp [ι', e2] at hm
      exact hS.inj n m p q hn hm hpq
  · intro n p h
    by_cases e : n = d
    · simp [ι', e] at h
      subst h
      exact .inr hS.keeps.size
    · exact hS.home n p (by simpa [ι', e] using h)
  · intro b o h
    have := hS.rolt b o h
    simp; omega

end
end Cr
