/- Each operation does to the machine what its instruction does to the abstract state. -/
import Derived.Test.YtndjoodgimomiaaDoorFw6
import Derived.Laws.Pointers
namespace Cr
open Go Go.RowKit

def Good (X : Ctx) (s : Nat → AV) (K : AV → Obs → Prop) (a : Act) (v : Value) (w' : World) : Prop :=
  ∃ av ob' ι' ro', K av ob' ∧ SatI X.N X.E ⟨s, ob'⟩ a w' ι' ro' ∧ ARep ι' ob' ro' w' av v

def FinR (X : Ctx) (s : Nat → AV) (K : AV → Obs → Prop) (a : Act) : Result Next → Prop
  | .ok (.value v) w' => Good X s K a v w'
  | .ok .skip w' => Good X s K a undef w'
  | .ok (.enter g args) w' => Calls X.P g args w' fun e w'' => ∃ v, e = .returned v ∧ Good X s K a v w''
  | .ok (.round l f tmps assign body) w' => RoundIn (fenceOf X.rd) 0 X.P l f tmps assign body w' fun e w'' => ∃ v, e = .returned v ∧ Good X s K a v w''
  | _ => False

section
variable {X : Ctx} {σ : St} {a : Act} {w : World} {ι : Places} {ro : RO} {K : AV → Obs → Prop} {o : Oper} {m : MOp} {d : Nat}

abbrev Ctx.SI (X : Ctx) (σ : St) (a : Act) (w : World) (ι : Places) (ro : RO) : Prop := SatI X.N X.E σ a w ι ro

theorem good_pure (hS : X.SI σ a w ι ro) {av : AV} {v : Value} (hK : K av σ.ob) (hv : ARep ι σ.ob ro w av v) : Good X σ.sl K a v w := ⟨av, σ.ob, ι, ro, hK, hS, hv⟩

theorem s_mv (hS : X.SI σ a w ι ro) {x : Operand} (ho : o.op = .move x ∨ o.op = .assign x) {y : Opd} (hy : cOpd X.N x = some y) (hm : mop X.C d (.mv y) σ.sl σ.ob K) : FinR X σ.sl K a ((execOp a.eval o).run X.P w) := by
  have hr : (execOp a.eval o).run X.P w = .ok (.value (a.eval x)) w := by rcases ho with ho | ho <;> simp [execOp, ho]
  rw [hr]
  exact good_pure hS hm (opd_rep hS.slots hy)

theorem run_newVar {P : Program} {w : World} (t : TypeId) (v : Value) : (newVar t v).run P w = .ok ⟨w.heap.size, 0, none⟩ (w.alloc (.cells v.cells t)) := by
  simp [newVar, newRow]

theorem s_box (hS : X.SI σ a w ι ro) {t : TypeId} {x : Operand} (ho : o.op = .box t x) {y : Opd} (hy : cOpd X.N x = some y) (hm : mop X.C d (.box t y) σ.sl σ.ob K) : FinR X σ.sl K a ((execOp a.eval o).run X.P w) := by
  have hr : (execOp a.eval o).run X.P w = .ok (.value (.pointer (some ⟨w.heap.size, 0, none⟩))) (w.alloc (.cells (a.eval x).cells t)) := by
    simp [execOp, ho, Instr.box, run_newVar]
  rw [hr]
  simp only [mop] at hm
  split at hm
  · rename_i cs hcs
    obtain ⟨hd, hK⟩ := hm
    obtain ⟨h1, h2⟩ := (opd_rep hS.slots hy).cellsOf hcs
    obtain ⟨ι', h3, h4⟩ := SatI.alloc hS hd h1 h2 t
    refine ⟨_, _, ι', ro, hK, by simpa using h3, ?_⟩
    exact .ptr d 0 _ t cs h4 (by simp [upd]) rfl
  · exact hm.elim

theorem cZero_cells {P : Program} {t : TypeId} {z : Value} (h : cZero P t = some z) : (∃ i, P.info? t = some i ∧ i.zero = some z) ∧ (∀ v ∈ z.cells.toList, okConst v = true) := by
  simp only [cZero, Option.bind_eq_some_iff] at h
  obtain ⟨i, hi, z', hz, h⟩ := h
  split at h
  · rename_i hall
    cases h
    exact ⟨⟨i, hi, hz⟩, List.all_eq_true.mp hall⟩
  · cases h

theorem consts_rep {ro : RO} {w : World} {l : List Value} (h : ∀ v ∈ l, okConst v = true) : PReps ro w (l.map pvOf) l := by
  refine ⟨by simp, ?_⟩
  intro i p x hp hx
  simp [hx] at hp
  subst hp
  exact pvOf_rep (h x (List.mem_of_getElem? hx)) ro w

theorem s_zero (hS : X.SI σ a w ι ro) {t : TypeId} (ho : o.op = .alloc t) {z : Value} (hz : cZero X.P t = some z) (hm : mop X.C d (.zero t (z.cells.toList.map pvOf)) σ.sl σ.ob K) : FinR X σ.sl K a ((execOp a.eval o).run X.P w) := by
  obtain ⟨⟨i, hi, hiz⟩, hc⟩ := cZero_cells hz
  have hr : (execOp a.eval o).run X.P w = .ok (.value (.pointer (some ⟨w.heap.size, 0, none⟩))) (w.alloc (.cells z.cells t)) := by
    simp [execOp, ho, Instr.alloc, zeroValue, typeInfo, hi, hiz, run_newVar]
  rw [hr]
  obtain ⟨hd, hK⟩ := hm
  obtain ⟨ι', h3, h4⟩ := SatI.alloc hS hd (repAll_pv (consts_rep hc)) (fun v hv => okConst_one (hc v hv)) t
  refine ⟨_, _, ι', ro, hK, by simpa using h3, ?_⟩
  exact .ptr d 0 _ t ((z.cells.toList.map pvOf).map .pv) h4 (by simp [upd]) rfl

theorem ptr_val {ι : Places} {ob : Obs} {ro : RO} {w : World} {n off : Nat} {v : Value} {pl : Place} (h : ARep ι ob ro w (.ptr n off) v) (hp : ι n = some pl) : v = .pointer (some ⟨pl.b, off, none⟩) := by
  cases h with
  | ptr _ _ pl' t' cs' h1 h2 h3 => rw [hp] at h1; cases h1; rfl

theorem cTy_spec {P : Program} {t : TypeId} {g : Bool} {s : Nat} (h : cTy P t = some (g, s)) : ∃ dsc i, P.underlying t = some dsc ∧ P.info? t = some i ∧ g = isAggD dsc ∧ s = i.size := by
  simp only [cTy, Option.bind_eq_some_iff] at h
  obtain ⟨dsc, hd, i, hi, h⟩ := h
  cases h
  exact ⟨dsc, i, hd, hi, rfl, rfl⟩

theorem getElem?_sub {α : Type} {l : List α} {o n j : Nat} {x : α} (h : ((l.drop o).take n)[j]? = some x) : l[o + j]? = some x ∧ j < n := by
  simp only [List.getElem?_take, List.getElem?_drop] at h
  split at h
  · exact ⟨h, by assumption⟩
  · cases h

theorem s_load (hS : X.SI σ a w ι ro) {t : TypeId} {x : Operand} (ho : o.op = .load t x) {g : Bool} {s : Nat} (ht : cTy X.P t = some (g, s)) (hgs : g = true ∨ s = 1) {y : Opd} (hy : cOpd X.N x = some y)
    (hm : mop X.C d (.load g s y) σ.sl σ.ob K) : FinR X σ.sl K a ((execOp a.eval o).run X.P w) := by
  obtain ⟨dsc, i, hu, hi, rfl, rfl⟩ := cTy_spec ht
  have hrep := opd_rep hS.slots hy
  have hex : ∀ ad v, a.eval x = .pointer (some ad) → (loadVar t ad).run X.P w = .ok v w → (execOp a.eval o).run X.P w = .ok (.value v) w := by
    intro ad v hx hl
    simp [execOp, ho, hx, Instr.loadAt, Instr.sureAddr, hl]
  simp only [mop] at hm
  split at hm
  · rename_i ps off hev
    rw [hev] at hrep
    cases hrep with
    | pv _ _ hp =>
      obtain ⟨b, oo, xs, hx, hps, h1, hcell⟩ := rp_vals hp
      split at hm
      · rename_i hg
        obtain ⟨hle, hK⟩ := hm
        have hsub := hps.sub off i.size
        have hl := run_loadVar_agg (P := X.P) (w := w) (b := b) (o := oo + off) (xs := (xs.drop off).take i.size) hu hg hi (by rw [← hsub.1]; simp; omega) (by
          intro j v hj
          have := hcell (off + j) v (getElem?_sub hj).1
          rw [Nat.add_assoc]; exact this.2)
        rw [hex _ _ hx hl]
        refine good_pure hS hK (.pv _ _ (.agg _ _ hsub.1 ?_ hsub.2))
        intro v hv
        exact h1 v (List.mem_of_mem_drop (List.mem_of_mem_take hv))
      · rename_i hg
        obtain ⟨p, hpo, hK⟩ := hm
        have hlt : off < xs.length := by rw [← hps.1]; exact (List.getElem?_eq_some_iff.1 hpo).1
        have hxv : xs[off]? = some xs[off] := List.getElem?_eq_getElem hlt
        have hl := run_loadVar_one (P := X.P) (w := w) (a := ⟨b, oo + off, none⟩) hu (by simpa using hg) (hcell off _ hxv).2
        rw [hex _ _ hx hl]
        exact good_pure hS hK (.pv _ _ (hps.2 off p _ hpo hxv))
  · rename_i n off hev
    rw [hev] at hrep
    split at hm
    · rename_i ety cs hob
      obtain ⟨pl, cur, e1, e2, e3, e4, e5, e6⟩ := hS.objs n _ hob
      have hx : a.eval x = .pointer (some ⟨pl.b, off, none⟩) := ptr_val hrep e1
      have hcell : ∀ j, w.cell? ⟨pl.b, j, none⟩ = cur[j]? := fun j => cell_of_row w pl.b j cur ety (0, 0) e3
      split at hm
      · rename_i hg
        obtain ⟨hle, hK⟩ := hm
        have hsub := e4.sub off i.size
        have hl := run_loadVar_agg (P := X.P) (w := w) (b := pl.b) (o := off) (xs := (cur.toList.drop off).take i.size) hu hg hi (by rw [← hsub.1]; simp; omega) (by
          intro j v hj
          have := (getElem?_sub hj).1
          rw [hcell]; simpa using this)
        rw [hex _ _ hx hl]
        refine good_pure hS hK (aggOf_rep hsub ?_)
        intro v hv
        exact e5 v (List.mem_of_mem_drop (List.mem_of_mem_take hv))
      · rename_i hg
        obtain ⟨p, hpo, hK⟩ := hm
        have hlt : off < cur.toList.length := by rw [← e4.1]; exact (List.getElem?_eq_some_iff.1 hpo).1
        have hxv : cur.toList[off]? = some cur.toList[off] := List.getElem?_eq_getElem hlt
        have hl := run_loadVar_one (P := X.P) (w := w) (a := ⟨pl.b, off, none⟩) (v := cur.toList[off]) hu (by simpa using hg) (by rw [hcell]; simp)
        rw [hex _ _ hx hl]
        exact good_pure hS hK (e4.2 off p _ hpo hxv)
    · exact hm.elim
  · exact hm.elim

theorem s_store (hS : X.SI σ a w ι ro) {t : TypeId} {x v : Operand} (ho : o.op = .store t x v) {i : TypeInfo} (hi : X.P.info? t = some i) {y z : Opd} (hy : cOpd X.N x = some y) (hz : cOpd X.N v = some z)
    (hm : mop X.C d (.store i.size y z) σ.sl σ.ob K) : FinR X σ.sl K a ((execOp a.eval o).run X.P w) := by
  have hrep := opd_rep hS.slots hy
  have hrepv := opd_rep hS.slots hz
  simp only [mop] at hm
  split at hm
  · rename_i n off vs hev hvs
    rw [hev] at hrep
    split at hm
    · rename_i ety cs hob
      obtain ⟨hlen, hle, hK⟩ := hm
      obtain ⟨pl, cur, e1, e2, e3, e4, e5, e6⟩ := hS.objs n _ hob
      have hx : a.eval x = .pointer (some ⟨pl.b, off, none⟩) := ptr_val hrep e1
      obtain ⟨hr, h1⟩ := hrepv.cellsOf hvs
      have hvl : (a.eval v).cells.toList.length = i.size := by rw [← hr.1, hlen]
      have hcl : cs.length = cur.size := by simpa using e4.1
      have hst := run_storeCells_at X.P pl.b off ety (a.eval v).cells.toList 0 cur w e3 (by omega) h1
      have hrun : (execOp a.eval o).run X.P w = .ok .skip (w.setRow pl.b (splice cur.toList off (a.eval v).cells.toList).toArray) := by
        have hcs : (a.eval v).cells.size = i.size := by simpa using hvl
        simp only [Nat.add_zero] at hst
        simp [execOp, ho, hx, Instr.storeAt, Instr.sureAddr, storeVar, run_sizeOf hi, hcs]
        rw [hst]
        simp [splice]
      rw [hrun]
      refine ⟨.any, _, ι, ro, hK, ?_, .any _⟩
      exact SatI.store hS hob e1 e3 hr h1 (by rw [hlen]; exact hle)
    · exact hm.elim
  · exact hm.elim

theorem s_nilck (hS : X.SI σ a w ι ro) {x : Operand} (ho : o.op = .nilCheck x) {y : Opd} (hy : cOpd X.N x = some y) (hm : mop X.C d (.nilck y) σ.sl σ.ob K) : FinR X σ.sl K a ((execOp a.eval o).run X.P w) := by
  have hrep := opd_rep hS.slots hy
  simp only [mop] at hm
  split at hm
  · rename_i n off hev
    rw [hev] at hrep
    generalize hx : a.eval x = v at hrep
    cases hrep with
    | ptr _ _ pl t' cs h1 h2 h3 =>
      have hr : (execOp a.eval o).run X.P w = .ok (.value (.pointer (some ⟨pl.b, off, none⟩))) w := by simp [execOp, ho, hx]
      rw [hr]
      exact good_pure hS hm (.ptr _ _ pl t' cs h1 h2 h3)
  · rename_i ps off hev
    rw [hev] at hrep
    generalize hx : a.eval x = v at hrep
    cases hrep with
    | pv _ _ hp =>
      obtain ⟨b, oo, xs, rfl, _⟩ := rp_vals hp
      have hr : (execOp a.eval o).run X.P w = .ok (.value (.pointer (some ⟨b, oo + off, none⟩))) w := by simp [execOp, ho, hx]
      rw [hr]
      exact good_pure hS hm (.pv _ _ hp)
  · rename_i f hev
    rw [hev] at hrep
    generalize hx : a.eval x = v at hrep
    cases hrep with
    | pv _ _ hp =>
      cases hp
      have hr : (execOp a.eval o).run X.P w = .ok (.value (.func (.func f) #[] #[])) w := by simp [execOp, ho, hx]
      rw [hr]
      exact good_pure hS hm (.pv _ _ (.fnv f))
  · rename_i f c hev
    rw [hev] at hrep
    generalize hx : a.eval x = v at hrep
    cases hrep with
    | fn _ _ xs hl hr' =>
      have hr : (execOp a.eval o).run X.P w = .ok (.value (.func (.func f) #[] xs.toArray)) w := by simp [execOp, ho, hx]
      rw [hr]
      exact good_pure hS hm (.fn f c xs hl hr')
  · exact hm.elim

end
end Cr
