/- Pointers that are no longer typed, and a row of bytes read as a text. -/
import Derived.Test.YtndjoodgimomiaaDoorFwS
import Derived.Lib.Builder
import Derived.Lib.UnsafeStr
namespace Cr
open Go Go.RowKit

section
variable {X : Ctx} {σ : St} {a : Act} {w : World} {ι : Places} {ro : RO} {K : AV → Obs → Prop} {o : Oper} {d : Nat}

theorem s_toU (hS : X.SI σ a w ι ro) {s t e : TypeId} {x : Operand} (ho : o.op = .convert s t x) (hs : X.P.underlying s = some (.pointer e)) (ht : X.P.underlying t = some .unsafePointer) {j : TypeInfo} (hj : X.P.info? e = some j) (hj0 : j.size ≠ 0)
    {y : Opd} (hy : cOpd X.N x = some y) (hm : mop X.C d (.toU y) σ.sl σ.ob K) : FinR X σ.sl K a ((execOp a.eval o).run X.P w) := by
  have h := opd_rep hS.slots hy
  simp only [mop] at hm
  split at hm
  · rename_i n off hev
    rw [hev] at h
    split at hm
    · rename_i ty cs hob
      obtain ⟨hlt, hK⟩ := hm
      obtain ⟨pl, cur, e1, e2, e3, e4, e5, e6⟩ := hS.objs n _ hob
      have hx : a.eval x = .pointer (some ⟨pl.b, off, none⟩) := ptr_val h e1
      have hsh : w.shape? pl.b = some (ty, cur.size) := by simp [World.shape?, e3]
      have hr := Lib.run_to_unsafe (P := X.P) w ⟨pl.b, off, none⟩ hs ht hj hj0 hsh (by have := e4.1; simp at this; show off < cur.size; omega)
      have hrun : (execOp a.eval o).run X.P w = .ok (.value (.pointer (some ⟨pl.b, off, none⟩))) w := by simp [execOp, ho, hx, hr]
      rw [hrun]
      exact good_pure hS hK (.ptr n off pl ty cs e1 hob e2)
    · exact hm.elim
  · exact hm.elim

theorem s_frU (hS : X.SI σ a w ι ro) {s t e : TypeId} {x : Operand} (ho : o.op = .convert s t x) (hs : X.P.underlying s = some .unsafePointer) (ht : X.P.underlying t = some (.pointer e)) {j : TypeInfo} (hj : X.P.info? e = some j)
    (hc : X.P.cellsOf e ≠ 0) (hl : liesAt X.P X.P.depth e 1 0 e 1 = true) {y : Opd} (hy : cOpd X.N x = some y) (hm : mop X.C d (.frU e (X.P.cellsOf e) y) σ.sl σ.ob K) : FinR X σ.sl K a ((execOp a.eval o).run X.P w) := by
  have h := opd_rep hS.slots hy
  simp only [mop] at hm
  split at hm
  · rename_i n off hev
    rw [hev] at h
    split at hm
    · rename_i ty cs hob
      obtain ⟨rfl, rfl, hlen, hK⟩ := hm
      obtain ⟨pl, cur, e1, e2, e3, e4, e5, e6⟩ := hS.objs n _ hob
      have hx : a.eval x = .pointer (some ⟨pl.b, 0, none⟩) := ptr_val h e1
      have hcur : cur.size = X.P.cellsOf ty := by have := e4.1; simp at this; omega
      have hsh : w.shape? pl.b = some (ty, cur.size) := by simp [World.shape?, e3]
      have hr := Lib.run_from_unsafe (P := X.P) w ⟨pl.b, 0, none⟩ hs ht hj hsh (by rw [hcur, Nat.div_self (Nat.pos_of_ne_zero hc)]; exact hl)
      have hrun : (execOp a.eval o).run X.P w = .ok (.value (.pointer (some ⟨pl.b, 0, none⟩))) w := by simp [execOp, ho, hx, hr]
      rw [hrun]
      exact good_pure hS hK (.ptr n 0 pl ty cs e1 hob e2)
    · exact hm.elim
  · exact hm.elim

theorem s_sdat (hS : X.SI σ a w ι ro) {c : Call} (ho : o.op = .call c) (hb : c.callee = .builtin .unsafeSliceData) {x : Operand} (ha : c.args.toList = [x]) {y : Opd} (hy : cOpd X.N x = some y)
    (hm : mop X.C d (.sdat y) σ.sl σ.ob K) : FinR X σ.sl K a ((execOp a.eval o).run X.P w) := by
  have h := opd_rep hS.slots hy
  have ha' : c.args = #[x] := by apply Array.ext'; simpa using ha
  simp only [mop] at hm
  split at hm
  · rename_i n len hev
    rw [hev] at h
    split at hm
    · rename_i ty sz es hob
      obtain ⟨hlen, hpos, hK⟩ := hm
      obtain ⟨g1, g2, g3⟩ := hS.objs n _ hob
      have hne : es ≠ [] := fun e => by subst e; simp at hlen; omega
      cases hι : ι n with
      | none => exact absurd (g2 hι) hne
      | some pl =>
        obtain ⟨cur, fz, e1, ef, e2, e3, e4, e5, e6⟩ := g3 pl hι
        generalize hx : a.eval x = v at h
        cases h with
        | rs _ _ t' sz' es' _ h1 h2 h3 h4 h5 =>
          rw [hob] at h1; cases h1
          have hv := h5 pl hlen hι
          subst hv
          have hrun : (execOp a.eval o).run X.P w = .ok (.value (.pointer (some ⟨pl.b, pl.o, none⟩))) w := by
            simp [execOp, ho, resolve, hb, invoke, builtin, ha', hx, Lib.run_unsafeSliceData_row (P := X.P) w c.argTypes o.type ⟨pl.b, pl.o, none⟩ len pl.c (by omega)]
          rw [hrun]
          exact good_pure hS hK (.rh n len ty sz es _ hob h2 ⟨_, _, rfl, h3⟩ fun pl' _ hpl => by rw [hι] at hpl; cases hpl; rfl)
    · exact hm.elim
  · exact hm.elim

theorem bytesP_flat (b : Str) : (bytesP b).flatMap PV.cells = bytesP b := by
  induction b with
  | nil => rfl
  | cons c r ih => simp only [bytesP, List.map_cons, List.flatMap_cons] at ih ⊢; rw [ih]; rfl

/-- A row whose head is frozen. -/
theorem SatI.frozen (hS : X.SI σ a w ι ro) {n : Nat} {t : TypeId} {sz : Nat} {es : List PV} (hob : σ.ob n = some (.row t sz es)) {pl : Place} (hι : ι n = some pl) (k : Nat) (hk : k ≤ es.length * sz) :
    X.SI σ a (w.freeze ⟨pl.b, 0, none⟩ k) ι ro := by
  by_cases hk0 : k = 0
  · subst hk0; simpa [World.freeze] using hS
  obtain ⟨g1, g2, g3⟩ := hS.objs n _ hob
  obtain ⟨cur, fz, e1, ef, e2, e3, e4, e5, e6⟩ := g3 pl hι
  have hlt : pl.b < w.heap.size := (Array.getElem?_eq_some_iff.1 e1).1
  have hheap : (w.freeze ⟨pl.b, 0, none⟩ k).heap[pl.b]? = some (.cells cur t (if fz.1 == fz.2 then (0, k) else (min fz.1 0, max fz.2 k))) := by
    obtain ⟨lo, hi⟩ := fz
    simp [World.freeze, hk0, Array.getElem?_modify, e1]
  have hoth : ∀ j, j ≠ pl.b → (w.freeze ⟨pl.b, 0, none⟩ k).heap[j]? = w.heap[j]? := by
    intro j hj
    simp [World.freeze, hk0, Array.getElem?_modify, Ne.symm hj]
  have hsize : (w.freeze ⟨pl.b, 0, none⟩ k).heap.size = w.heap.size := by simp [World.freeze, hk0]
  have hcell : ∀ b o, (w.freeze ⟨pl.b, 0, none⟩ k).cell? ⟨b, o, none⟩ = w.cell? ⟨b, o, none⟩ := by
    intro b o
    by_cases hb : b = pl.b
    · subst hb
      rw [cell_of_row _ _ o _ _ _ hheap, cell_of_row _ _ o _ _ _ e1]
    · simp only [World.cell?]
      rw [hoth b hb]
  have hl : Later ro w ro (w.freeze ⟨pl.b, 0, none⟩ k) := fun b o h => ⟨h, hcell b o⟩
  have g : Grew ι σ.ob ro w ι σ.ob ro (w.freeze ⟨pl.b, 0, none⟩ k) := ⟨hl, fun n t cs h => ⟨cs, h, rfl⟩, fun n t sz es h => ⟨[], by simpa using h, fun _ => rfl⟩, fun n t g sz es h => ⟨g, es, h, Nat.le_refl _, fun _ => ⟨rfl, rfl⟩⟩, fun n b r c3 h => ⟨b, c3, h, rfl⟩⟩
  refine ⟨⟨by simpa [World.freeze, hk0] using hS.keeps.os, by simpa [World.freeze, hk0] using hS.keeps.tape, by simpa [World.freeze, hk0] using hS.keeps.output, by rw [hsize]; exact hS.keeps.size, ?_⟩, hS.size, hS.defers.later (fun D hD => by
    by_cases e : D = pl.b
    · subst e; rw [e1] at hD; cases hD
    · rw [hoth D e]; exact hD), fun k => (hS.slots k).grew g, ?_, hS.dom, hS.inj, hS.home, fun b o h => by rw [hsize]; exact hS.rolt b o h, hS.roold, hS.gr.trans g⟩
  · intro j hj hB
    by_cases e : j = pl.b
    · subst e
      rcases hS.home n pl hι with h | h
      · exact absurd h hB
      · omega
    · exact (hoth j e).trans (hS.keeps.block j hj hB)
  · intro m ob hm
    by_cases e : m = n
    · subst e
      rw [hob] at hm; cases hm
      refine ⟨g1, g2, fun q hq => ?_⟩
      rw [hι] at hq; cases hq
      refine ⟨cur, _, hheap, ?_, e2, e3, e4, e5, e6⟩
      split
      · exact hk
      · exact Nat.max_le.mpr ⟨ef, hk⟩
    · refine (hS.objs m ob hm).moved g rfl (fun q hq => hoth q.b fun e' => e (hS.inj m n q pl hq hι e')) (fun _ _ _ h => h)

theorem bytesP_inj (c : UInt8) {p : PV} {ro : RO} {w : World} {x : Value} (h : PRep ro w p x) (hp : p = .int .u8 c.toNat) : x = .int .u8 c.toNat := by
  subst hp; cases h; rfl

theorem s_ustr (hS : X.SI σ a w ι ro) {c : Call} (ho : o.op = .call c) (hb : c.callee = .builtin .unsafeString) {pt it e : TypeId} (hu : c.argTypes.toList = [pt, it]) (hp : X.P.underlying pt = some (.pointer e)) (hc : X.P.cellsOf e = 1)
    {x y : Operand} (ha : c.args.toList = [x, y]) {p q : Opd} (hy : cOpd X.N x = some p) (hz : cOpd X.N y = some q)
    (hm : mop X.C d (.ustr e p q) σ.sl σ.ob K) : FinR X σ.sl K a ((execOp a.eval o).run X.P w) := by
  have h1 := opd_rep hS.slots hy
  have h2 := opd_rep hS.slots hz
  have hu' : c.argTypes = #[pt, it] := by apply Array.ext'; simpa using hu
  have ha' : c.args = #[x, y] := by apply Array.ext'; simpa using ha
  simp only [mop] at hm
  split at hm
  · rename_i n len m hev hev2
    rw [hev] at h1
    rw [hev2] at h2
    unfold ustrRow at hm
    split at hm
    · rename_i t' sz es hob
      obtain ⟨rfl, rfl, rfl, hlen, hpos, b, rfl, hK⟩ := hm
      have hbl : (bytesP b).length = b.length := by simp [bytesP]
      have hlb : len = b.length := by omega
      subst hlb
      obtain ⟨g1, g2, g3⟩ := hS.objs n _ hob
      have hne : bytesP b ≠ [] := fun e => by rw [e] at hbl; simp at hbl; omega
      cases hι : ι n with
      | none => exact absurd (g2 hι) hne
      | some pl =>
        obtain ⟨cur, fz, e1, ef, e2, e3, e4, e5, e6⟩ := g3 pl hι
        generalize hx : a.eval x = v at h1
        have hyv := pv_int h2
        cases h1 with
        | rh _ _ t' sz' es' _ k1 k2 k3 k4 =>
          rw [hob] at k1; cases k1
          have hv := k4 pl hlen hι
          subst hv
          obtain ⟨ad, cc, hea, hpr⟩ := k3
          cases hea
          rw [hlen, List.take_length] at hpr
          obtain ⟨_, _, _, f, hf⟩ := sl_cells hpr (.inr rfl)
          rw [bytesP_flat] at hf
          rw [e2] at hf
          have hcells : ∀ j x, b[j]? = some x → w.cell? ((⟨pl.b, 0, none⟩ : Addr).add j) = some (.int .u8 x.toNat) := by
            intro j x hj
            have hpj : (bytesP b)[j]? = some (.int .u8 x.toNat) := by simp [bytesP, hj]
            obtain ⟨_, q2, _, q4⟩ := hf j _ hpj
            have e : (⟨pl.b, 0, none⟩ : Addr).add j = ⟨pl.b, 0 + j, none⟩ := by
              unfold Addr.add
              by_cases hj : j = 0
              · subst hj; simp
              · simp [hj]
            rw [e, q2, bytesP_inj x q4 rfl]
          have hsh : w.shape? pl.b = some (t', cur.size) := by simp [World.shape?, e1]
          have hbn : b ≠ [] := fun e => by subst e; simp at hpos
          have hr := Lib.run_unsafeString_row (P := X.P) w pt it o.type t' hp hc pl.b cur.size hsh b hbn (by simp at e3; omega) (by unfold huge at e5; omega) hcells
          have hrun : (execOp a.eval o).run X.P w = .ok (.value (.string ⟨b.toArray⟩)) (w.freeze ⟨pl.b, 0, none⟩ b.length) := by
            simp [execOp, ho, resolve, hb, invoke, builtin, ha', hu', hx, hyv, e2, hr]
          rw [hrun]
          refine ⟨_, _, ι, ro, hK, hS.frozen hob hι b.length (by omega), .pv _ _ (.str b ?_)⟩
          have := sl_cells hpr (.inr rfl)
          omega
    · exact hm.elim
  · exact hm.elim

end
end Cr
