/- Each operation does to the machine what its instruction does to the abstract state: structs and lists built. -/
import Derived.Test.YtndjoodgimomiaaDoorFw11
import Derived.Test.YtndjoodgimomiaaDoorFwU
namespace Cr
open Go Go.RowKit

theorem splice_set {α : Type} (l : List α) (k : Nat) (v : α) (vs : List α) (hk : k < l.length) : splice (l.set k v) (k + 1) vs = splice l k (v :: vs) := by
  unfold splice
  have h1 : (l.set k v).take (k + 1) = l.take k ++ [v] := by
    apply List.ext_getElem?
    intro j
    simp only [List.getElem?_take, List.getElem?_set, List.getElem?_append, List.length_take]
    rcases Nat.lt_trichotomy j k with h | h | h
    · have h1 : j < k + 1 := by omega
      have h2 : j < min k l.length := by omega
      have h3 : ¬ k = j := by omega
      simp [h1, h3, h, h2]
    · subst h
      simp [hk]
      have : min j l.length = j := by omega
      simp [this]
    · have h1 : ¬ j < k + 1 := by omega
      have h2 : ¬ j < min k l.length := by omega
      have h3 : min k l.length = k := by omega
      simp [h1, h3]
      have : ¬ j < k := by omega
      have h4 : j - k ≠ 0 := by omega
      simp [this]
      omega
  have h2 : (l.set k v).drop (k + 1 + vs.length) = l.drop (k + (v :: vs).length) := by
    apply List.ext_getElem?
    intro j
    simp only [List.getElem?_drop, List.getElem?_set, List.length_cons]
    have : ¬ k = k + 1 + vs.length + j := by omega
    simp [this]
    congr 1
    omega
  rw [h1, h2]
  simp

theorem fold_splice : ∀ (vs : List Value) (k off : Nat) (cs : Array Value), off + k + vs.length ≤ cs.size → ((vs.zipIdx k).foldl (fun (cs : Array Value) (p : Value × Nat) => cs.setIfInBounds (off + p.2) p.1) cs).toList = splice cs.toList (off + k) vs
  | [], k, off, cs, _ => by simp [splice]
  | v :: vs, k, off, cs, h => by
    simp only [List.zipIdx_cons, List.foldl_cons]
    rw [fold_splice vs (k + 1) off _ (by simp at h ⊢; omega), Array.toList_setIfInBounds, ← Nat.add_assoc]
    exact splice_set _ _ _ _ (by simp at h ⊢; omega)

theorem fill_cons (place : Nat → Option (Nat × Nat)) (cells : Array Value) (i : Nat) (v : Value) (rest : List (Nat × Value)) {off n : Nat} (hp : place i = some (off, n)) (hn : v.cells.size = n) (hl : off + n ≤ cells.size) :
    ∃ cells' : Array Value, Instr.fill place cells ((i, v) :: rest) = Instr.fill place cells' rest ∧ cells'.toList = splice cells.toList off v.cells.toList := by
  refine ⟨v.cells.zipIdx.foldl (fun cs (c, j) => cs.setIfInBounds (off + j) c) cells, ?_, ?_⟩
  · have h2 : ¬ (cells.size < off + n) := by omega
    simp [Instr.fill, hp, hn, h2]
  · rw [← Array.foldl_toList, Array.toList_zipIdx]
    exact fold_splice _ 0 off cells (by simp; omega)

section
variable {X : Ctx} {σ : St} {a : Act} {w : World} {ι : Places} {ro : RO} {K : AV → Obs → Prop} {o : Oper} {m : MOp} {d : Nat}

theorem build_rep (hS : X.SI σ a w ι ro) {pl : List (Nat × Nat)} : ∀ {parts : List (Nat × Operand)} {ps : List (Nat × Nat × Opd)} {zs cs : List AV} {cells : Array Value}, cParts X.N pl parts = some ps → buildW zs ps σ.sl = some cs →
    RepAll ι σ.ob ro w zs cells.toList → (∀ v ∈ cells.toList, v.oneCell' = true) →
    ∃ cells' : Array Value, Instr.fill (pl.toArray[·]?) cells (parts.map fun (i, x) => (i, a.eval x)) = some cells' ∧ RepAll ι σ.ob ro w cs cells'.toList ∧ ∀ v ∈ cells'.toList, v.oneCell' = true
  | [], ps, zs, cs, cells, hp, hb, hr, h1 => by
    cases hp; simp only [buildW] at hb; cases hb
    exact ⟨cells, rfl, hr, h1⟩
  | (i, x) :: parts, ps, zs, cs, cells, hp, hb, hr, h1 => by
    simp only [cParts, Option.bind_eq_some_iff] at hp
    obtain ⟨⟨off, n⟩, hpl, y, hy, l, hl, hp⟩ := hp
    cases hp
    simp only [buildW] at hb
    split at hb
    · rename_i us hus
      split at hb
      · rename_i hc
        obtain ⟨hn, hle⟩ := hc
        obtain ⟨k1, k2⟩ := (opd_rep hS.slots hy).cellsOf hus
        have hvs : (a.eval x).cells.size = n := by have := k1.1; simp at this; omega
        have hzl : zs.length = cells.size := by simpa using hr.1
        obtain ⟨cells1, e1, e2⟩ := fill_cons (pl.toArray[·]?) cells i (a.eval x) (parts.map fun (i, x) => (i, a.eval x)) (off := off) (n := n) (by simpa using hpl) hvs (by omega)
        have hsp := hr.splice k1 off (by omega)
        rw [← e2] at hsp
        obtain ⟨cells', e3, e4, e5⟩ := build_rep hS hl hb hsp (by
          intro v hv
          rw [e2] at hv
          simp only [splice, List.mem_append] at hv
          rcases hv with (hv | hv) | hv
          · exact h1 v (List.mem_of_mem_take hv)
          · exact k2 v hv
          · exact h1 v (List.mem_of_mem_drop hv))
        exact ⟨cells', by simp only [List.map_cons]; rw [e1]; exact e3, e4, e5⟩
      · cases hb
    · cases hb

theorem places_run {P : Program} {w : World} : ∀ {fs : List Field} {pl : List (Nat × Nat)}, cPlaces P fs = some pl → (fs.mapM fun f => do pure (f.offset, ← Go.sizeOf f.type) : Sem (List (Nat × Nat))).run P w = .ok pl w
  | [], pl, h => by cases h; rfl
  | f :: r, pl, h => by
    simp only [cPlaces, Option.bind_eq_some_iff] at h
    obtain ⟨i, hi, l, hl, h⟩ := h
    cases h
    have ih := places_run (P := P) (w := w) hl
    simp at ih
    simp [List.mapM_cons, run_sizeOf hi, ih]

theorem s_build (hS : X.SI σ a w ι ro) {t : TypeId} {parts : Array (Nat × Operand)} (ho : o.op = .build t parts) {fs : Array Field} (hu : X.P.underlying t = some (.struct fs)) {z : Value} (hz : cZero X.P t = some z) {pl : List (Nat × Nat)}
    (hpl : cPlaces X.P fs.toList = some pl) {ps : List (Nat × Nat × Opd)} (hps : cParts X.N pl parts.toList = some ps) (hm : mop X.C d (.build (z.cells.toList.map pvOf) ps) σ.sl σ.ob K) : FinR X σ.sl K a ((execOp a.eval o).run X.P w) := by
  obtain ⟨⟨i, hi, hiz⟩, hc⟩ := cZero_cells hz
  simp only [mop] at hm
  split at hm
  · rename_i cs hcs
    obtain ⟨cells', e1, e2, e3⟩ := build_rep hS hps hcs (cells := z.cells) (repAll_pv (consts_rep hc)) (fun v hv => okConst_one (hc v hv))
    have hrun : (execOp a.eval o).run X.P w = .ok (.value (.agg cells')) w := by
      have ep : (parts.map fun (i, x) => (i, a.eval x)).toList = parts.toList.map fun (i, x) => (i, a.eval x) := by simp
      simp only [execOp, ho, Instr.build, zeroValue, typeInfo, Sem.run_bind, run_program, Result.andThen_ok, hi, hiz, Sem.run_pure, run_underlying hu, Array.mapM_eq_mapM_toList, Sem.run_map, places_run hpl, ep, e1]
    rw [hrun]
    refine good_pure hS hm ?_
    have := aggOf_rep e2 e3
    simpa using this
  · exact hm.elim

theorem flat_set {sz : Nat} : ∀ {es : List PV} {i : Nat} {p : PV}, (∀ e ∈ es, e.cells.length = sz) → p.cells.length = sz → i < es.length → (es.set i p).flatMap PV.cells = splice (es.flatMap PV.cells) (i * sz) p.cells
  | [], i, p, _, _, h => by simp at h
  | e :: r, 0, p, h, hp, _ => by
    have := h e (by simp)
    simp [splice, List.flatMap_cons, hp, ← this]
  | e :: r, i + 1, p, h, hp, hi => by
    have he := h e (by simp)
    rw [List.set_cons_succ, List.flatMap_cons, flat_set (fun x hx => h x (by simp [hx])) hp (by simpa using hi), List.flatMap_cons]
    unfold splice
    rw [Nat.succ_mul, Nat.add_comm (i * sz) sz, ← he, List.take_length_add_append, Nat.add_assoc, List.drop_length_add_append]
    simp

theorem elems_rep (hS : X.SI σ a w ι ro) {sz : Nat} : ∀ {parts : List (Nat × Operand)} {ps : List (Nat × Opd)} {zs es : List PV} {cells : Array Value}, cElems X.N parts = some ps → elemsW σ.ob sz zs ps σ.sl = some es →
    (∀ e ∈ zs, e.cells.length = sz) → PReps ro w (zs.flatMap PV.cells) cells.toList → (∀ v ∈ cells.toList, v.oneCell' = true) →
    ∃ cells' : Array Value, Instr.fill (fun i => some (i * sz, sz)) cells (parts.map fun (i, x) => (i, a.eval x)) = some cells' ∧ PReps ro w (es.flatMap PV.cells) cells'.toList ∧ (∀ v ∈ cells'.toList, v.oneCell' = true) ∧ (∀ e ∈ es, e.cells.length = sz) ∧ es.length = zs.length
  | [], ps, zs, es, cells, hp, hb, hsz, hr, h1 => by
    cases hp; simp only [elemsW] at hb; cases hb
    exact ⟨cells, rfl, hr, h1, hsz, rfl⟩
  | (i, x) :: parts, ps, zs, es, cells, hp, hb, hsz, hr, h1 => by
    simp only [cElems, Option.bind_eq_some_iff] at hp
    obtain ⟨y, hy, l, hl, hp⟩ := hp
    cases hp
    simp only [elemsW] at hb
    split at hb
    · rename_i p hpv
      split at hb
      · rename_i hc
        obtain ⟨hn, hle⟩ := hc
        have hprep := (opd_rep hS.slots hy).toPV hpv
        obtain ⟨k1, k2⟩ := hprep.cells
        have hvs : (a.eval x).cells.size = sz := by have := k1.1; simp at this; omega
        have hcl : cells.size = zs.length * sz := by
          have := hr.1
          rw [flat_length hsz] at this
          simpa using this.symm
        have hin : i * sz + sz ≤ cells.size := by
          rw [hcl]
          have : (i + 1) * sz ≤ zs.length * sz := Nat.mul_le_mul_right _ hle
          rw [Nat.succ_mul] at this; exact this
        obtain ⟨cells1, e1, e2⟩ := fill_cons (fun i => some (i * sz, sz)) cells i (a.eval x) (parts.map fun (i, x) => (i, a.eval x)) (off := i * sz) (n := sz) rfl hvs hin
        have hset := flat_set hsz hn hle
        have hsp : PReps ro w ((zs.set i p).flatMap PV.cells) cells1.toList := by
          rw [hset, e2]
          have hh : RepAll ι σ.ob ro w ((splice (zs.flatMap PV.cells) (i * sz) p.cells).map .pv) (splice cells.toList (i * sz) (a.eval x).cells.toList) := by
            have := (repAll_pv (ι := ι) (ob := σ.ob) hr).splice (repAll_pv k1) (i * sz) (by simp only [List.length_map]; rw [flat_length hsz, hn, ← hcl]; exact hin)
            simpa [splice] using this
          refine ⟨by simpa using hh.1, ?_⟩
          intro j q v hq hv
          have := hh.2 j (.pv q) v (by rw [List.getElem?_map, hq]; rfl) hv
          cases this; assumption
        obtain ⟨cells', e3, e4, e5, e6, e7⟩ := elems_rep hS hl hb (zs := zs.set i p) (by
          intro e he
          rcases List.mem_or_eq_of_mem_set he with h | h
          · exact hsz e h
          · rw [h]; exact hn) hsp (by
          intro v hv
          rw [e2] at hv
          simp only [splice, List.mem_append] at hv
          rcases hv with (hv | hv) | hv
          · exact h1 v (List.mem_of_mem_take hv)
          · exact k2 v hv
          · exact h1 v (List.mem_of_mem_drop hv))
        exact ⟨cells', by simp only [List.map_cons]; rw [e1]; exact e3, e4, e5, e6, by simpa using e7⟩
      · cases hb
    · cases hb

/-- The cells of a row of zero values. -/
theorem zeros_list (zs : Array Value) (hz : 0 < zs.size) : ∀ n : Nat, ((Array.range (n * zs.size)).map (zs[· % zs.size]!)).toList = (List.replicate n zs.toList).flatten
  | 0 => by simp
  | n + 1 => by
    have ih := zeros_list zs hz n
    simp only [Array.toList_map, Array.toList_range] at ih ⊢
    rw [Nat.succ_mul, Nat.add_comm, List.range_add, List.map_append, List.replicate_succ, List.flatten_cons, ← ih]
    congr 1
    · apply List.ext_getElem?
      intro j
      rcases Nat.lt_or_ge j zs.size with h | h
      · simp [h, Nat.mod_eq_of_lt h]
      · rw [List.getElem?_eq_none (by simpa using h), List.getElem?_eq_none (by simpa using h)]
    · rw [List.map_map]
      apply List.map_congr_left
      intro j _
      simp

theorem replicate_flat {ro : RO} {w : World} {z : PV} {zs : List Value} (h : PReps ro w z.cells zs) : ∀ n : Nat, PReps ro w ((List.replicate n z).flatMap PV.cells) (List.replicate n zs).flatten
  | 0 => ⟨rfl, by simp⟩
  | n + 1 => by
    rw [List.replicate_succ, List.flatMap_cons, List.replicate_succ, List.flatten_cons]
    exact h.append (replicate_flat h n)

theorem zpv_cells (z : Value) (h : ∀ v ∈ z.cells.toList, okConst v = true) (ro : RO) (w : World) : PReps ro w (zpv z).cells z.cells.toList := by
  have hc := consts_rep (ro := ro) (w := w) h
  cases z with
  | agg cs => exact hc
  | slice a l c =>
    have h0 : okConst (.slice a l c) = true := h _ (by simp [Value.cells])
    cases a with
    | some b => cases h0
    | none => cases l with
      | succ l => cases h0
      | zero => cases c with
        | succ c => cases h0
        | zero => exact hc
  | _ => exact hc

theorem run_buildSlice' {P : Program} {w : World} {t e : TypeId} {i : TypeInfo} {z : Value} {len : Nat} {parts : List (Nat × Value)} {cells : Array Value} (ht : P.underlying t = some (.slice e)) (hi : P.info? e = some i) (hz : i.zero = some z)
    (hzs : z.cells.size = i.size) (hpos : 0 < i.size) (hsmall : len * i.size ≤ 16777216) {zl : Array Value} (hzl : zl.toList = (List.replicate len z.cells.toList).flatten)
    (hf : Instr.fill (fun j => some (j * i.size, i.size)) zl parts = some cells) :
    (Instr.buildSlice t len parts.toArray).run P w = .ok (.slice (some ⟨w.heap.size, 0, none⟩) len len) (w.alloc (.cells cells e)) := by
  have hn : ¬ (16777216 < len * i.size) := by omega
  by_cases h0 : len = 0
  · subst h0
    have hze : zl = #[] := by apply Array.ext'; simpa using hzl
    subst hze
    have hze0 : ∀ f : Nat → Value, (Array.range 0).map f = #[] := fun f => by apply Array.ext'; simp
    have hlt : ¬ (16777216 < 0) := by omega
    simp only [Instr.buildSlice, Sem.run_bind, run_underlying ht, run_sizeOf hi, Result.andThen_ok, gt_iff_lt, Nat.reducePow, Nat.zero_mul, hlt, if_false, if_true, Sem.run_pure, hze0, hf, newRow, run_newObj, World.alloc_eq]
  · have hne : ¬ (len * i.size = 0) := by
      intro h
      rcases Nat.mul_eq_zero.mp h with h | h <;> omega
    have hne' : ¬ (len = 0 ∨ i.size = 0) := by omega
    have hze : (Array.range (len * i.size)).map (z.cells[· % z.cells.size]!) = zl := by
      apply Array.ext'
      rw [hzl, ← zeros_list z.cells (by omega) len, hzs]
    simp only [Instr.buildSlice, Sem.run_bind, run_underlying ht, run_sizeOf hi, Result.andThen_ok, gt_iff_lt, Nat.reducePow, hn, if_false, hne, zeroValue, typeInfo, run_program, hi, hz, Sem.run_pure, hze, newRow, run_newObj, World.alloc_eq, hf]

theorem s_bsl (hS : X.SI σ a w ι ro) {t e : TypeId} {len : Nat} {parts : Array (Nat × Operand)} (ho : o.op = .buildSlice t len parts) (hu : X.P.underlying t = some (.slice e)) {z : Value} (hz : cZero X.P e = some z) {i : TypeInfo} (hi : X.P.info? e = some i)
    (hlen : len ≤ 10000) (hpos : 0 < i.size) (hsm : i.size ≤ 1000) (hzs : z.cells.size = i.size) {ps : List (Nat × Opd)} (hps : cElems X.N parts.toList = some ps) (hm : mop X.C d (.bsl i.size (zpv z) len ps) σ.sl σ.ob K) : FinR X σ.sl K a ((execOp a.eval o).run X.P w) := by
  obtain ⟨⟨i', hi', hiz⟩, hc⟩ := cZero_cells hz
  rw [hi] at hi'; cases hi'
  simp only [mop] at hm
  split at hm
  · rename_i es hes
    have hzc := zpv_cells z hc ro w
    have hzl : (zpv z).cells.length = i.size := by rw [hzc.1]; simpa using hzs
    obtain ⟨cells', e1, e2, e3, e4, e5⟩ := elems_rep hS hps hes (cells := (List.replicate len z.cells.toList).flatten.toArray) (by
      intro e he
      have := List.eq_of_mem_replicate he
      rw [this, hzl]) (by simpa using replicate_flat hzc len) (by
      intro v hv
      simp only [List.mem_flatten, List.mem_replicate] at hv
      obtain ⟨l, ⟨_, rfl⟩, hv⟩ := hv
      exact okConst_one (hc v hv))
    have hbig : len * i.size ≤ 10000 * 1000 := Nat.mul_le_mul hlen hsm
    have hrun0 := run_buildSlice' (P := X.P) (w := w) (t := t) (e := e) (len := len) (parts := parts.toList.map fun (i, x) => (i, a.eval x)) hu hi hiz hzs hpos (by omega) (zl := (List.replicate len z.cells.toList).flatten.toArray) (by simp) e1
    have ep : (parts.map fun (i, x) => (i, a.eval x)) = (parts.toList.map fun (i, x) => (i, a.eval x)).toArray := by apply Array.ext'; simp
    have hrun : (execOp a.eval o).run X.P w = .ok (.value (.slice (some ⟨w.heap.size, 0, none⟩) len len)) (w.alloc (.cells cells' e)) := by
      simp only [execOp, ho, Sem.run_bind, ep, hrun0, Result.andThen_ok, Sem.run_pure]
    rw [hrun]
    have hel : es.length = len := by rw [e5]; simp
    let ro' : RO := fun b oo => ro b oo ∨ (b = w.heap.size ∧ oo < cells'.size)
    have hnew : (w.alloc (.cells cells' e)).heap[w.heap.size]? = some (.cells cells' e) := heap_alloc_new w _
    have hbel : Below w.heap.size w (w.alloc (.cells cells' e)) := (Below.refl _ _).alloc (Nat.le_refl _) _
    have hl : Later ro w ro' (w.alloc (.cells cells' e)) := later_of_below hS.rolt hbel (fun b oo h => .inl h)
    have hSI := SatI.below hS hbel (ro' := ro') (fun b oo h => .inl h) (fun b oo h => by
      rcases h with h | ⟨h, _⟩
      · exact .inl h
      · exact .inr (by omega)) (fun b oo h => by
      rcases h with h | ⟨h, _⟩
      · have := hS.rolt b oo h; simp; omega
      · simp; omega)
    refine ⟨_, _, ι, ro', hm, hSI, .pv _ _ ?_⟩
    have := sl_mk (ro := ro') (w := w.alloc (.cells cells' e)) (cap := some len) (es := es) (a := some ⟨w.heap.size, 0, none⟩) (c := len) (b := w.heap.size) (o := 0) (sz := i.size) (xs := cells'.toList)
      (fun q h => by cases h; rfl) (by omega) (by unfold big; omega) (by unfold huge; omega) e4 (.inr rfl) ⟨e2.1, fun j p x hp hx => (e2.2 j p x hp hx).later hl⟩ e3 (fun j u hj => by
        have hj' : j < cells'.size := by have := (List.getElem?_eq_some_iff.1 hj).1; simpa using this
        rw [Nat.zero_add]
        refine ⟨.inr ⟨rfl, hj'⟩, ?_⟩
        rw [cell_of_row _ w.heap.size j cells' e (0, 0) hnew]
        simpa using hj)
    rwa [hel] at this
  · exact hm.elim

end
end Cr
