/- Each operation does to the machine what its instruction does to the abstract state: slices cut, appends. -/
import Derived.Test.YtndjoodgimomiaaDoorFw9
namespace Cr
open Go Go.RowKit

def OptVal (v : Option Value) (dflt n : Int) : Prop := (v = none ∧ n = dflt) ∨ ∃ k, v = some (.int k n)

theorem run_sliceBound {P : Program} {w : World} (k : IntKind) (n : Int) (y : Nat) (code : BoundsCode) (h0 : 0 ≤ n) (h1 : n ≤ y) : (Instr.sliceBound (.int k n) y code).run P w = .ok n.toNat w := by
  simp [Instr.sliceBound, asIntOf, h0, h1]

theorem run_bounds {P : Program} {w : World} (isSlice : Bool) (len cap : Nat) {lo hi mx : Option Value} {l h m : Int} (hlo : OptVal lo 0 l) (hhi : OptVal hi len h)
    (hm : (mx = none ∧ m = cap) ∨ ((∃ k, mx = some (.int k m)) ∧ hi.isSome = true)) (h0 : 0 ≤ l) (h1 : l ≤ h) (h2 : h ≤ m) (h3 : m ≤ cap) :
    (Instr.sliceBounds isSlice len cap lo hi mx).run P w = .ok (l.toNat, h.toNat, m.toNat) w := by
  have hh0 : 0 ≤ h := by omega
  have hm0 : 0 ≤ m := by omega
  have hhc : h ≤ (cap : Int) := by omega
  have e1 : ∀ k code, (Instr.sliceBound (.int k m) cap code).run P w = .ok m.toNat w := fun k code => run_sliceBound k m cap code hm0 h3
  have e2 : ∀ k code, (Instr.sliceBound (.int k h) m.toNat code).run P w = .ok h.toNat w := fun k code => run_sliceBound k h m.toNat code hh0 (by omega)
  have e2' : ∀ k code, (Instr.sliceBound (.int k h) cap code).run P w = .ok h.toNat w := fun k code => run_sliceBound k h cap code hh0 hhc
  have e3 : ∀ k code, (Instr.sliceBound (.int k l) h.toNat code).run P w = .ok l.toNat w := fun k code => run_sliceBound k l h.toNat code h0 (by omega)
  rcases hm with ⟨rfl, rfl⟩ | ⟨⟨k, rfl⟩, hs⟩
  · rcases hhi with ⟨rfl, rfl⟩ | ⟨k2, rfl⟩
    · rcases hlo with ⟨rfl, rfl⟩ | ⟨k3, rfl⟩
      · simp [Instr.sliceBounds]
      · have e3' := e3 k3; simp at e3'
        simp [Instr.sliceBounds, e3']
    · rcases hlo with ⟨rfl, rfl⟩ | ⟨k3, rfl⟩
      · simp [Instr.sliceBounds, e2']
      · simp [Instr.sliceBounds, e2', e3]
  · rcases hhi with ⟨rfl, _⟩ | ⟨k2, rfl⟩
    · simp at hs
    · rcases hlo with ⟨rfl, rfl⟩ | ⟨k3, rfl⟩
      · simp [Instr.sliceBounds, e1, e2]
      · simp [Instr.sliceBounds, e1, e2, e3]

theorem flat_take {sz : Nat} : ∀ {es : List PV} (n : Nat), (∀ e ∈ es, e.cells.length = sz) → (es.take n).flatMap PV.cells = (es.flatMap PV.cells).take (n * sz)
  | [], n, _ => by simp
  | e :: r, 0, _ => by simp
  | e :: r, n + 1, h => by
    have he := h e (by simp)
    rw [List.take_succ_cons, List.flatMap_cons, List.flatMap_cons, flat_take n (fun x hx => h x (by simp [hx])), Nat.succ_mul, Nat.add_comm, ← he, List.take_length_add_append]
theorem flat_drop {sz : Nat} : ∀ {es : List PV} (n : Nat), (∀ e ∈ es, e.cells.length = sz) → (es.drop n).flatMap PV.cells = (es.flatMap PV.cells).drop (n * sz)
  | [], n, _ => by simp
  | e :: r, 0, _ => by simp
  | e :: r, n + 1, h => by
    have he := h e (by simp)
    rw [List.drop_succ_cons, List.flatMap_cons, flat_drop n (fun x hx => h x (by simp [hx])), Nat.succ_mul, Nat.add_comm, ← List.drop_drop, ← he, List.drop_left]

section
variable {X : Ctx} {σ : St} {a : Act} {w : World} {ι : Places} {ro : RO} {K : AV → Obs → Prop} {o : Oper} {m : MOp} {d : Nat}

theorem optI_val (hS : X.SI σ a w ι ro) {x : Option Operand} {y : Option Opd} (h : cOptOpd X.N x = some y) {dflt n : Int} (hn : optI σ.sl dflt y = some n) : OptVal (x.map a.eval) dflt n := by
  cases x with
  | none => cases h; simp only [optI] at hn; cases hn; exact .inl ⟨rfl, rfl⟩
  | some x =>
    simp only [cOptOpd, Option.map_eq_some_iff] at h
    obtain ⟨z, hz, rfl⟩ := h
    have hr := opd_rep hS.slots hz
    simp only [optI] at hn
    split at hn
    · rename_i k n' hev
      cases hn
      rw [hev] at hr
      exact .inr ⟨k, by simp [pv_int hr]⟩
    · cases hn

theorem optOpd_some {x : Option Operand} {y : Option Opd} {N : Nat} (h : cOptOpd N x = some y) : x.isSome = y.isSome := by
  cases x with
  | none => cases h; rfl
  | some x => simp only [cOptOpd, Option.map_eq_some_iff] at h; obtain ⟨z, _, rfl⟩ := h; rfl

theorem s_slcStr (hS : X.SI σ a w ι ro) {t : TypeId} {x : Operand} {lo hi : Option Operand} (ho : o.op = .slice t x lo hi none) (hu : X.P.underlying t = some .string) {y : Opd} (hy : cOpd X.N x = some y) {yl yh : Option Opd}
    (hl : cOptOpd X.N lo = some yl) (hh : cOptOpd X.N hi = some yh) (hm : mop X.C d (.slc true 0 y yl yh none) σ.sl σ.ob K) : FinR X σ.sl K a ((execOp a.eval o).run X.P w) := by
  have h := opd_rep hS.slots hy
  simp only [mop] at hm
  split at hm
  · rename_i s hev
    have hp := h.toPV hev
    obtain ⟨_, hm⟩ := hm
    split at hm
    · rename_i l hh' hel heh
      obtain ⟨h0, h1, h2, hK⟩ := hm
      have o1 := optI_val hS hl hel
      have o2 := optI_val hS hh heh
      generalize hx : a.eval x = v at hp
      cases hp with
      | str _ hsb =>
        have hb := run_bounds (P := X.P) (w := w) false s.length s.length (lo := lo.map a.eval) (hi := hi.map a.eval) (mx := none) o1 o2 (.inl ⟨rfl, rfl⟩) h0 h1 h2 (Int.le_refl _)
        have hrun : (execOp a.eval o).run X.P w = .ok (.value (.string ⟨((s.take hh'.toNat).drop l.toNat).toArray⟩)) w := by
          simp [execOp, ho, hx, Instr.sliceAt, Instr.slice, run_underlying hu, mk_size, hb, ByteArray.extract_mk]
          rw [List.drop_take]
        rw [hrun]
        refine good_pure hS hK (.pv _ _ (.str _ ?_))
        have : ((s.take hh'.toNat).drop l.toNat).length ≤ s.length := by simp; omega
        omega
    · exact hm.elim
  · obtain ⟨h, _⟩ := hm; cases h
  · exact hm.elim

theorem sl_cut {cap : Option Nat} {es : List PV} {v : Value} (hp : PRep ro w (.sl cap es) v) {sz : Nat} (hsz : ∀ e ∈ es, e.cells.length = sz) {l h m : Nat} (h1 : l ≤ h) (h2 : h ≤ es.length) (h3 : h ≤ m)
    {ad : Option Addr} {c : Nat} (hv : v = .slice ad es.length c) (h4 : m ≤ c) {cap' : Option Nat} (hcap : ∀ q, cap' = some q → q = m - l) :
    PRep ro w (.sl cap' ((es.take h).drop l)) (.slice (if m = l then ad else ad.map (·.add (l * sz))) (h - l) (m - l)) := by
  obtain ⟨ad', c', b, oo, sz', xs, hv', _, g1, g2, g3, g4, g5, g6, g7, g8⟩ := sl_vals hp
  rw [hv] at hv'; cases hv'
  have hlen : ((es.take h).drop l).length = h - l := by simp; omega
  have hfl : ((es.take h).drop l).flatMap PV.cells = ((es.flatMap PV.cells).take (h * sz)).drop (l * sz) := by
    rw [flat_drop l (fun e he => hsz e (List.mem_of_mem_take he)), flat_take h hsz]
  have hps : PReps ro w (((es.take h).drop l).flatMap PV.cells) (((xs.take (h * sz)).drop (l * sz))) := by
    rw [hfl]
    refine ⟨by simp [g6.1], ?_⟩
    intro i p x hi hx
    simp only [List.getElem?_drop, List.getElem?_take] at hi hx
    split at hi
    · rename_i hlt; rw [if_pos hlt] at hx; exact g6.2 _ p x hi hx
    · cases hi
  rw [← hlen]
  refine sl_mk (b := b) (o := oo + l * sz) (sz := sz) hcap (by rw [hlen]; omega) (by rw [hlen]; omega) (by omega) (fun e he => hsz e (List.mem_of_mem_take (List.mem_of_mem_drop he))) ?_ hps (fun x hx => g7 x (List.mem_of_mem_take (List.mem_of_mem_drop hx))) ?_
  · by_cases e : ((es.take h).drop l) = []
    · exact .inl e
    · right
      have hlt : l < h := by
        rcases Nat.lt_or_ge l h with h' | h'
        · exact h'
        · exfalso; apply e; apply List.length_eq_zero_iff.mp; omega
      have hne : es ≠ [] := fun e' => by subst e'; simp at e
      rw [if_neg (by omega), g5.resolve_left hne]
      simp [addr_add]
  · intro j u hj
    simp only [List.getElem?_drop, List.getElem?_take] at hj
    split at hj
    · have := g8 _ u hj
      rw [Nat.add_assoc]; exact this
    · cases hj

theorem s_slcRow (hS : X.SI σ a w ι ro) {t e : TypeId} {x : Operand} {lo hi mx : Option Operand} (ho : o.op = .slice t x lo hi mx) (hu : X.P.underlying t = some (.slice e)) {i : TypeInfo} (hi' : X.P.info? e = some i) {y : Opd} (hy : cOpd X.N x = some y) {yl yh ym : Option Opd}
    (hl : cOptOpd X.N lo = some yl) (hh : cOptOpd X.N hi = some yh) (hmx : cOptOpd X.N mx = some ym) (hm : mop X.C d (.slc false i.size y yl yh ym) σ.sl σ.ob K) : FinR X σ.sl K a ((execOp a.eval o).run X.P w) := by
  have h := opd_rep hS.slots hy
  simp only [mop] at hm
  split at hm
  · obtain ⟨h, _⟩ := hm; cases h
  · rename_i cap es hev
    have hp := h.toPV hev
    obtain ⟨_, hsz, hm⟩ := hm
    obtain ⟨ad, c, b, oo, sz', xs, hx, hcap, g1, g2, g3, _⟩ := sl_vals hp
    split at hm
    · rename_i l hh' hel heh
      have o1 := optI_val hS hl hel
      have o2 := optI_val hS hh heh
      split at hm
      · obtain ⟨h0, h1, h2, hK⟩ := hm
        have hmn : mx = none := by cases mx <;> simp_all [cOptOpd]
        subst hmn
        have hb := run_bounds (P := X.P) (w := w) true es.length c (lo := lo.map a.eval) (hi := hi.map a.eval) (mx := none) o1 o2 (.inl ⟨rfl, rfl⟩) h0 h1 (by omega) (Int.le_refl _)
        have hrun : (execOp a.eval o).run X.P w = .ok (.value (.slice (if c = l.toNat then ad else ad.map (·.add (l.toNat * i.size))) (hh'.toNat - l.toNat) (c - l.toNat))) w := by
          simp [execOp, ho, hx, Instr.sliceAt, Instr.slice, run_underlying hu, hb, run_sizeOf hi']
        rw [hrun]
        refine good_pure hS hK (.pv _ _ ?_)
        refine sl_cut hp hsz (by omega) (by omega) (by omega) hx (Nat.le_refl _) ?_
        intro q hq
        cases cap with
        | none => cases hq
        | some q' => simp at hq; rw [← hcap q' rfl]; omega
      · rename_i z
        split at hm
        · rename_i mm hem
          obtain ⟨hsome, h0, h1, h2, h3, h4, hK⟩ := hm
          have o3 := optI_val hS hmx hem
          have o3' : ∃ k, mx.map a.eval = some (.int k mm) := by
            rcases o3 with ⟨h, _⟩ | h
            · have := optOpd_some hmx
              cases mx <;> simp_all
            · exact h
          have hhs : (hi.map a.eval).isSome = true := by
            have := optOpd_some hh
            cases hi <;> simp_all
          have hb := run_bounds (P := X.P) (w := w) true es.length c (lo := lo.map a.eval) (hi := hi.map a.eval) (mx := mx.map a.eval) o1 o2 (.inr ⟨o3', hhs⟩) h0 h1 h3 (by omega)
          have hrun : (execOp a.eval o).run X.P w = .ok (.value (.slice (if mm.toNat = l.toNat then ad else ad.map (·.add (l.toNat * i.size))) (hh'.toNat - l.toNat) (mm.toNat - l.toNat))) w := by
            simp [execOp, ho, hx, Instr.sliceAt, Instr.slice, run_underlying hu, hb, run_sizeOf hi']
          rw [hrun]
          refine good_pure hS hK (.pv _ _ ?_)
          refine sl_cut hp hsz (by omega) (by omega) (by omega) hx (by omega) ?_
          intro q hq
          cases hq; omega
        · exact hm.elim
    · exact hm.elim
  · exact hm.elim

end
end Cr
