/- Each operation does to the machine what its instruction does to the abstract state: elements, slices, calls, appends. -/
import Derived.Test.YtndjoodgimomiaaDoorFwC
namespace Cr
open Go Go.RowKit

section
variable {X : Ctx} {σ : St} {a : Act} {w : World} {ι : Places} {ro : RO} {K : AV → Obs → Prop} {o : Oper} {m : MOp} {d : Nat}

theorem s_not (hS : X.SI σ a w ι ro) {t : TypeId} {x : Operand} (ho : o.op = .unOp .not t x) {y : Opd} (hy : cOpd X.N x = some y) (hm : mop X.C d (.not y) σ.sl σ.ob K) : FinR X σ.sl K a ((execOp a.eval o).run X.P w) := by
  have h := opd_rep hS.slots hy
  simp only [mop] at hm
  split at hm
  · rename_i b hev
    rw [hev] at h
    have e := pv_bool h
    have hr : (execOp a.eval o).run X.P w = .ok (.value (.bool !b)) w := by simp [execOp, ho, e, Op.unary]
    rw [hr]
    exact good_pure hS hm (.pv _ _ (.bool _))
  · exact hm.elim

theorem s_neg (hS : X.SI σ a w ι ro) {t : TypeId} {x : Operand} (ho : o.op = .unOp .neg t x) {y : Opd} (hy : cOpd X.N x = some y) (hm : mop X.C d (.neg y) σ.sl σ.ob K) : FinR X σ.sl K a ((execOp a.eval o).run X.P w) := by
  have h := opd_rep hS.slots hy
  simp only [mop] at hm
  split at hm
  · rename_i k b hev
    rw [hev] at h
    have e := pv_int h
    have hr : (execOp a.eval o).run X.P w = .ok (.value (.int k (-b))) w := by
      have := wrap_inR hm.1
      simp [execOp, ho, e, Op.unary, Op.intArith, this]
    rw [hr]
    exact good_pure hS hm.2 (.pv _ _ (.int _ _))
  · exact hm.elim

theorem s_conv (hS : X.SI σ a w ι ro) {s t : TypeId} {x : Operand} (ho : o.op = .convert s t x) {k0 k : IntKind} (hs : X.P.underlying s = some (.int k0)) (ht : X.P.underlying t = some (.int k)) {y : Opd} (hy : cOpd X.N x = some y)
    (hm : mop X.C d (.conv k y) σ.sl σ.ob K) : FinR X σ.sl K a ((execOp a.eval o).run X.P w) := by
  have h := opd_rep hS.slots hy
  simp only [mop] at hm
  split at hm
  · rename_i k' b hev
    rw [hev] at h
    have e := pv_int h
    have hr : (execOp a.eval o).run X.P w = .ok (.value (.int k b)) w := by
      have := wrap_inR hm.1
      simp [execOp, ho, e, convert, run_underlying hs, run_underlying ht, Conv.intToInt, this]
    rw [hr]
    exact good_pure hS hm.2 (.pv _ _ (.int _ _))
  · exact hm.elim

theorem s_fadr (hS : X.SI σ a w ι ro) {t : TypeId} {x : Operand} {f : Nat} (ho : o.op = .fieldAddr t x f) {fs : Array Field} (hu : X.P.underlying t = some (.struct fs)) {fd : Field} (hf : fs[f]? = some fd) {i : TypeInfo}
    (hi : X.P.info? fd.type = some i) (hne : i.size ≠ 0) {y : Opd} (hy : cOpd X.N x = some y) (hm : mop X.C d (.fadr fd.offset y) σ.sl σ.ob K) : FinR X σ.sl K a ((execOp a.eval o).run X.P w) := by
  have h := opd_rep hS.slots hy
  have hrun : ∀ b oo, a.eval x = .pointer (some ⟨b, oo, none⟩) → (execOp a.eval o).run X.P w = .ok (.value (.pointer (some ⟨b, oo + fd.offset, none⟩))) w := by
    intro b oo hx
    simp [execOp, ho, hx, Instr.fieldAt, Instr.sureAddr, run_underlying hu, hf, fieldPlace, run_sizeOf hi, hne, addr_add]
  simp only [mop] at hm
  split at hm
  · rename_i n off hev
    rw [hev] at h
    generalize hx : a.eval x = v at h
    cases h with
    | ptr _ _ pl t' cs h1 h2 h3 =>
      rw [hrun _ _ hx]
      exact good_pure hS hm (.ptr _ _ pl t' cs h1 h2 h3)
  · rename_i ps off hev
    rw [hev] at h
    generalize hx : a.eval x = v at h
    cases h with
    | pv _ _ hp =>
      obtain ⟨b, oo, xs, rfl, h1, h2, h3⟩ := rp_vals hp
      rw [hrun _ _ hx]
      have := rp_mk (off := off + fd.offset) h1 h2 h3
      rw [← Nat.add_assoc] at this
      exact good_pure hS hm (.pv _ _ this)
  · exact hm.elim

theorem s_fld (hS : X.SI σ a w ι ro) {t : TypeId} {x : Operand} {f : Nat} (ho : o.op = .field t x f) {fs : Array Field} (hu : X.P.underlying t = some (.struct fs)) {fd : Field} (hf : fs[f]? = some fd) {g : Bool} {s : Nat}
    (ht : cTy X.P fd.type = some (g, s)) (hgs : g = true ∨ s = 1) {y : Opd} (hy : cOpd X.N x = some y) (hm : mop X.C d (.fld g fd.offset s y) σ.sl σ.ob K) : FinR X σ.sl K a ((execOp a.eval o).run X.P w) := by
  obtain ⟨dsc, i, hud, hi, rfl, rfl⟩ := cTy_spec ht
  have h := opd_rep hS.slots hy
  simp only [mop] at hm
  split at hm
  · rename_i cs hev
    rw [hev] at h
    obtain ⟨xs, e, hx, h1⟩ := pv_agg h
    have hone : isAggD dsc = false → i.size = 1 := fun hg => by rcases hgs with h | h; · rw [hg] at h; cases h
                                                                · exact h
    have hrun : fd.offset + i.size ≤ xs.length → (execOp a.eval o).run X.P w = .ok (.value (valOf (isAggD dsc) ((xs.drop fd.offset).take i.size))) w := by
      intro hl
      have := run_part (P := X.P) (w := w) hud hi hone hl
      simp [execOp, ho, e, Instr.field, run_underlying hu, hf, asAgg, this]
    split at hm
    · rename_i hg
      obtain ⟨hle, hK⟩ := hm
      rw [hrun (by rw [← hx.1]; exact hle)]
      have hsub := hx.sub fd.offset i.size
      refine good_pure hS hK ?_
      rw [hg]
      exact .pv _ _ (.agg _ _ hsub.1 (fun v hv => h1 v (List.mem_of_mem_drop (List.mem_of_mem_take hv))) hsub.2)
    · rename_i hg
      obtain ⟨p, hp, hK⟩ := hm
      have hg' : isAggD dsc = false := by simpa using hg
      have hlt : fd.offset < xs.length := by rw [← hx.1]; exact (List.getElem?_eq_some_iff.1 hp).1
      rw [hrun (by rw [hone hg']; omega)]
      refine good_pure hS hK ?_
      have hv : valOf (isAggD dsc) ((xs.drop fd.offset).take i.size) = xs[fd.offset] := by
        simp [valOf, hg', hone hg', List.getD, List.getElem?_take, List.getElem?_drop, List.getElem?_eq_getElem hlt]
      rw [hv]
      exact .pv _ _ (hx.2 _ p _ hp (List.getElem?_eq_getElem hlt))
  · exact hm.elim

theorem flat_get {sz : Nat} : ∀ {es : List PV} {n : Nat} {e : PV}, (∀ e ∈ es, e.cells.length = sz) → es[n]? = some e → ((es.flatMap PV.cells).drop (n * sz)).take sz = e.cells
  | [], n, e, _, h => by simp at h
  | x :: r, 0, e, h, hn => by
    simp at hn; subst hn
    have := h x (by simp)
    simp [List.flatMap_cons, ← this]
  | x :: r, n + 1, e, h, hn => by
    have hx := h x (by simp)
    have ih := flat_get (es := r) (n := n) (e := e) (fun y hy => h y (by simp [hy])) (by simpa using hn)
    rw [List.flatMap_cons, Nat.succ_mul, Nat.add_comm, ← List.drop_drop]
    rw [show sz = x.cells.length from hx.symm, List.drop_left, hx]
    exact ih

theorem sl_elem {cap : Option Nat} {es : List PV} {v : Value} (h : PRep ro w (.sl cap es) v) {n : Nat} {e : PV} (he : es[n]? = some e) : ∃ b oo c sz, v = .slice (some ⟨b, oo, none⟩) es.length c ∧ e.cells.length = sz ∧
    PRep ro w (.rp e.cells 0) (.pointer (some ⟨b, oo + n * sz, none⟩)) := by
  obtain ⟨ad, c, b, oo, sz, xs, rfl, hcap, h1, h2, h3, h4, h5, h6, h7, h8⟩ := sl_vals h
  have hne : es ≠ [] := fun e' => by subst e'; simp at he
  have ha := h5.resolve_left hne
  subst ha
  refine ⟨b, oo, c, sz, rfl, h4 e (List.mem_of_getElem? he), ?_⟩
  have hsub := h6.sub (n * sz) sz
  rw [flat_get h4 he] at hsub
  have := rp_mk (off := 0) (b := b) (o := oo + n * sz) hsub (fun v hv => h7 v (List.mem_of_mem_drop (List.mem_of_mem_take hv))) (fun j u hu => by
    have := h8 (n * sz + j) u (getElem?_sub hu).1
    rw [Nat.add_assoc]; exact this)
  simpa using this

theorem s_iadr (hS : X.SI σ a w ι ro) {t e : TypeId} {x i : Operand} (ho : o.op = .indexAddr t x i) (hu : X.P.underlying t = some (.slice e)) {j : TypeInfo} (hj : X.P.info? e = some j) {y z : Opd} (hy : cOpd X.N x = some y)
    (hz : cOpd X.N i = some z) (hm : mop X.C d (.iadr j.size y z) σ.sl σ.ob K) : FinR X σ.sl K a ((execOp a.eval o).run X.P w) := by
  have h1 := opd_rep hS.slots hy
  have h2 := opd_rep hS.slots hz
  simp only [mop] at hm
  split at hm
  · rename_i cap es k n hev hei
    rw [hei] at h2
    have e2 := pv_int h2
    have hp := h1.toPV hev
    obtain ⟨h0, el, hel, hsz, hK⟩ := hm
    obtain ⟨b, oo, c, sz, hx, hsz', hrp⟩ := sl_elem hp hel
    have hlt : n.toNat < es.length := (List.getElem?_eq_some_iff.1 hel).1
    have hlt' : n < (es.length : Int) := by omega
    have hss : j.size = sz := by rw [← hsz, hsz']
    have hrun : (execOp a.eval o).run X.P w = .ok (.value (.pointer (some ⟨b, oo + n.toNat * sz, none⟩))) w := by
      simp [execOp, ho, hx, e2, Instr.indexAt, asIntOf, run_underlying hu, h0, hlt', run_sizeOf hj, addr_add, hss]
    rw [hrun]
    exact good_pure hS hK (.pv _ _ hrp)
  · exact hm.elim

theorem s_idx (hS : X.SI σ a w ι ro) {t : TypeId} {x i : Operand} (ho : o.op = .index t x i) (hu : X.P.underlying t = some .string) {y z : Opd} (hy : cOpd X.N x = some y)
    (hz : cOpd X.N i = some z) (hm : mop X.C d (.idx y z) σ.sl σ.ob K) : FinR X σ.sl K a ((execOp a.eval o).run X.P w) := by
  have h1 := opd_rep hS.slots hy
  have h2 := opd_rep hS.slots hz
  simp only [mop] at hm
  split at hm
  · rename_i s k n hev hei
    rw [hev] at h1
    rw [hei] at h2
    have e1 := (pv_str h1).1
    have e2 := pv_int h2
    obtain ⟨h0, c, hc, hK⟩ := hm
    have hlt : n.toNat < s.length := (List.getElem?_eq_some_iff.1 hc).1
    have hbyte : (⟨s.toArray⟩ : ByteArray)[n.toNat]? = some c := by
      have hlt' : n.toNat < (⟨s.toArray⟩ : ByteArray).size := by rw [mk_size]; exact hlt
      rw [ByteArray.getElem?_lt' _ _ hlt']
      have : s[n.toNat] = c := by
        have := List.getElem?_eq_getElem hlt
        rw [hc] at this
        exact (Option.some.inj this).symm
      rw [← this]
      rfl
    have hrun : (execOp a.eval o).run X.P w = .ok (.value (.int .u8 c.toNat)) w := by
      simp [execOp, ho, e1, e2, Instr.index, asIntOf, run_underlying hu, h0, hbyte]
    rw [hrun]
    exact good_pure hS hK (.pv _ _ (.int _ _))
  · exact hm.elim

theorem s_ext (hS : X.SI σ a w ι ro) {x : Operand} {i : Nat} (ho : o.op = .extract x i) {y : Opd} (hy : cOpd X.N x = some y) (hm : mop X.C d (.ext y i) σ.sl σ.ob K) : FinR X σ.sl K a ((execOp a.eval o).run X.P w) := by
  have h := opd_rep hS.slots hy
  simp only [mop] at hm
  split at hm
  · rename_i vs hev
    rw [hev] at h
    obtain ⟨v, hv, hK⟩ := hm
    generalize hx : a.eval x = u at h
    cases h with
    | tup _ xs hl hr =>
      have hlt : i < xs.length := by rw [← hl]; exact (List.getElem?_eq_some_iff.1 hv).1
      have hrun : (execOp a.eval o).run X.P w = .ok (.value xs[i]) w := by simp [execOp, ho, hx, Instr.extract, hlt]
      rw [hrun]
      exact good_pure hS hK (hr i v _ hv (List.getElem?_eq_getElem hlt))
  · exact hm.elim

theorem s_pick (hS : X.SI σ a w ι ro) {c x y : Operand} (ho : o.op = .pick c x y) {z p q : Opd} (hz : cOpd X.N c = some z) (hp : cOpd X.N x = some p) (hq : cOpd X.N y = some q) (hm : mop X.C d (.pick z p q) σ.sl σ.ob K) : FinR X σ.sl K a ((execOp a.eval o).run X.P w) := by
  have h := opd_rep hS.slots hz
  simp only [mop] at hm
  split at hm
  · rename_i t hev
    rw [hev] at h
    have e := pv_bool h
    cases t with
    | true =>
      have hr : (execOp a.eval o).run X.P w = .ok (.value (a.eval x)) w := by simp [execOp, ho, e, asBool]
      rw [hr]
      exact good_pure hS (hm.1 rfl) (opd_rep hS.slots hp)
    | false =>
      have hr : (execOp a.eval o).run X.P w = .ok (.value (a.eval y)) w := by simp [execOp, ho, e, asBool]
      rw [hr]
      exact good_pure hS (hm.2 rfl) (opd_rep hS.slots hq)
  · exact hm.elim

theorem s_mkfn (hS : X.SI σ a w ι ro) {f : FuncId} {first caps : Array Operand} (ho : o.op = .makeFunc (.func f) first caps) (hf : first.size = 0) {ys : List Opd} (hy : cOpds X.N caps.toList = some ys)
    (hm : mop X.C d (.mkfn f ys) σ.sl σ.ob K) : FinR X σ.sl K a ((execOp a.eval o).run X.P w) := by
  have h := opds_rep hS.slots hy
  have hfe : first = #[] := Array.eq_empty_of_size_eq_zero hf
  have hrun : (execOp a.eval o).run X.P w = .ok (.value (.func (.func f) #[] (caps.toList.map a.eval).toArray)) w := by
    have e : caps.map a.eval = (caps.toList.map a.eval).toArray := by apply Array.ext'; simp
    simp [execOp, ho, hfe, Instr.makeFunc, e]
  rw [hrun]
  exact good_pure hS hm (.fn f _ _ h.1 h.2)

theorem s_len (hS : X.SI σ a w ι ro) {c : Call} (ho : o.op = .call c) (hb : c.callee = .builtin .len) {t : TypeId} {x : Operand} {str : Bool} (hut : if str then X.P.underlying t = some .string else ∃ e, X.P.underlying t = some (.slice e))
    (hu : c.argTypes.toList = [t]) (ha : c.args.toList = [x]) {y : Opd} (hy : cOpd X.N x = some y) (hm : mop X.C d (.len str y) σ.sl σ.ob K) : FinR X σ.sl K a ((execOp a.eval o).run X.P w) := by
  have h := opd_rep hS.slots hy
  have hu' : c.argTypes = #[t] := by apply Array.ext'; simpa using hu
  have ha' : c.args = #[x] := by apply Array.ext'; simpa using ha
  have hrun : ∀ r, (Builtin.len_ #[t] o.type #[a.eval x]).run X.P w = .ok r w → (execOp a.eval o).run X.P w = .ok (.value r) w := by
    intro r hr
    simp [execOp, ho, resolve, hb, invoke, builtin, ha', hu', hr]
  have sliceRun : ∀ ad n cc, a.eval x = .slice ad n cc → str = false → (execOp a.eval o).run X.P w = .ok (.value (.int .i64 n)) w := by
    intro ad n cc hx hne
    subst hne
    simp only [Bool.false_eq_true, if_false] at hut
    obtain ⟨e, he⟩ := hut
    exact hrun _ (by simp [Builtin.len_, hx, run_underlying he, goInt])
  simp only [mop] at hm
  split at hm
  · rename_i s hev
    rw [hev] at h
    obtain ⟨rfl, hK⟩ := hm
    obtain ⟨e, _⟩ := pv_str h
    simp only [if_true] at hut
    rw [hrun (.int .i64 s.length) (by simp [Builtin.len_, e, run_underlying hut, goInt, mk_size])]
    exact good_pure hS hK (.pv _ _ (.int _ _))
  · rename_i cap es hev
    rw [hev] at h
    obtain ⟨hs, hK⟩ := hm
    generalize hx : a.eval x = v at h
    cases h with
    | pv _ _ hp =>
      obtain ⟨ad, c, b, oo, sz, xs, rfl, _⟩ := sl_vals hp
      rw [sliceRun _ _ _ hx hs]
      exact good_pure hS hK (.pv _ _ (.int _ _))
  · rename_i n len hev
    rw [hev] at h
    obtain ⟨hs, hK⟩ := hm
    generalize hx : a.eval x = v at h
    cases h with
    | rs _ _ t' sz es _ h1 h2 h3 h4 h5 =>
      obtain ⟨ad, c, b, oo, sz, xs, rfl, _⟩ := sl_vals h3
      rw [sliceRun _ _ _ hx hs]
      have : (es.take len).length = len := by simp; omega
      rw [this]
      exact good_pure hS hK (.pv _ _ (.int _ _))
  · exact hm.elim

theorem retv_rep {ι : Places} {ob : Obs} {ro : RO} {w : World} {rs : List AV} {vs : List Value} (h : RepAll ι ob ro w rs vs) : ARep ι ob ro w (retA rs) (retv vs) := by
  match rs, vs, h with
  | [p], [v], h => exact h.2 0 p v rfl rfl
  | [], [], h => exact .tup _ _ rfl (by simp)
  | p :: q :: r, v :: u :: t, h => exact .tup _ _ h.1 h.2
  | [], _ :: _, h => simp [RepAll] at h
  | [_], [], h => simp [RepAll] at h
  | [_], _ :: _ :: _, h => simp [RepAll] at h
  | _ :: _ :: _, [], h => simp [RepAll] at h
  | _ :: _ :: _, [_], h => simp [RepAll] at h

theorem SatI.has {N : Nat} {E : Ent} (hS : SatI N E σ a w ι ro) : Has E σ.ob w ι ro := ⟨hS.keeps, hS.objs, hS.dom, hS.inj, hS.home, hS.rolt, hS.roold, hS.gr⟩

theorem noNames (ob : Obs) (ρ : Nat → Nat) : Sub ob ρ (lookO []) := ⟨fun _ _ h => (by cases h), fun _ _ _ _ h => (by cases h)⟩

theorem run_callFunc {P : Program} {w : World} {g : FuncId} (h : Enters P g) (args : Array Value) : (callFunc g args).run P w = .ok (.enter g args) w := by
  obtain ⟨fn, h1, h2, h3⟩ := h
  have h4 : fn.body.isNone = false := by cases hb : fn.body <;> simp_all
  simp only [callFunc, Sem.run_bind, run_program, Result.andThen_ok, h1, h2, h4, Bool.false_eq_true, if_false, Sem.run_pure]

theorem CallR.mono {P : Program} {g : FuncId} {xs : Array Value} {φ ψ : Ending → World → Prop} (h : CallR P g xs w φ) (k : ∀ e w', φ e w' → ψ e w') : CallR P g xs w ψ := by
  rcases h with ⟨h1, h2⟩ | ⟨v, w', h1, h2⟩
  · exact .inl ⟨h1, h2.mono k⟩
  · exact .inr ⟨v, w', h1, k _ _ h2⟩

theorem CallR.fin {g : FuncId} {xs : Array Value} (h : CallR X.P g xs w fun e w'' => ∃ v, e = .returned v ∧ Good X σ.sl K a v w'') : FinR X σ.sl K a ((callFunc g xs).run X.P w) := by
  rcases h with ⟨h1, h2⟩ | ⟨v, w', h1, u, h2, h3⟩
  · rw [run_callFunc h1]; exact h2
  · rw [h1]; cases h2; exact h3

theorem OHas.notDef {ob : Obs} {n : Nat} {o : Ob} (h : OHas ι ob ro w n o) {pl : Place} (hp : ι n = some pl) {ds : Option (List Deferred)} (hd : w.heap[pl.b]? = some (.deferred ds)) : False := by
  cases o with
  | box t cs =>
    obtain ⟨pl', cur, e1, _, e3, _⟩ := h
    rw [hp] at e1; cases e1; rw [hd] at e3; cases e3
  | row t sz es =>
    obtain ⟨cur, fz, e3, _⟩ := h.2.2 pl hp
    rw [hd] at e3; cases e3
  | arr t g sz cs =>
    obtain ⟨cur, e3, _⟩ := h.2 pl hp
    rw [hd] at e3; cases e3
  | lrec b r cs =>
    obtain ⟨pl', e1, e3, _⟩ := h
    rw [hp] at e1; cases e1; rw [hd] at e3; cases e3

/-- A function's call, or a round. -/
def CallO (X : Ctx) (g : Option FuncId) (xs : List Value) (w : World) (φ : Ending → World → Prop) : Prop := match g with
  | some g => CallR X.P g xs.toArray w φ
  | none => YieldR X.P X.rd xs w φ
theorem CallO.mono {g : Option FuncId} {xs : List Value} {φ ψ : Ending → World → Prop} (h : CallO X g xs w φ) (k : ∀ e w', φ e w' → ψ e w') : CallO X g xs w ψ := by
  cases g with
  | some g => exact CallR.mono h k
  | none =>
    obtain ⟨l, ys, f, tmps, assign, body, h1, h2, h3⟩ := h
    exact ⟨l, ys, f, tmps, assign, body, h1, h2, h3.mono k⟩
theorem conO {g : Option FuncId} {as : List AV} {os : List (Nat × Ob)} {rs : List AV} {os2 : List (Nat × Ob)} (h : X.C g as os rs os2) (w : World) (ι : Places) (ro : RO) (xs : List Value)
    (hH : Has ⟨w, ro, ι, lookO os⟩ (lookO os) w ι ro) (hr : RepAll ι (lookO os) ro w as xs) :
    CallO X g xs w fun e w' => ∃ vs ι' ro', e = .returned (retv vs) ∧ Has ⟨w, ro, ι, lookO os⟩ (lookO os2) w' ι' ro' ∧ RepAll ι' (lookO os2) ro' w' rs vs := by
  cases g with
  | some g => exact h w ι ro xs hH hr
  | none => exact X.hY as os rs os2 h w ι ro xs hH hr

/-- A call by what the caller tells. -/
theorem callW_goodO (hS : X.SI σ a w ι ro) {g : Option FuncId} {vs : List AV} {xs : List Value} (hv : RepAll ι σ.ob ro w vs xs) (hm : callW X.C g vs σ.ob K) :
    CallO X g xs w fun e w'' => ∃ v, e = .returned v ∧ Good X σ.sl K a v w'' := by
  obtain ⟨as, os, rs, os2, ρ, ρ', ob3, hcon, hsub, hmas, hback, hK⟩ := hm
  refine (conO hcon w _ ro xs (hsub.has hS.has) (hmas.rep hsub hv)).mono ?_
  rintro e w'' ⟨us, ι2, ro', rfl, h2, h3⟩
  obtain ⟨ι3, k1, k2, k3⟩ := back_has hsub hS.has hback h2
  have hD : DefsOK X.E a w'' := hS.defers.later fun D hD => by
    have hlt := (Array.getElem?_eq_some_iff.1 hD).1
    rw [h2.keeps.block D hlt]
    · exact hD
    · rintro ⟨n, pl, hn, rfl⟩
      simp only [renP] at hn
      split at hn
      · rename_i o1 ho1
        obtain ⟨o2, ho2⟩ := hS.dom _ _ hn
        exact (hS.objs _ _ ho2).notDef hn hD
      · cases hn
  refine ⟨_, rfl, retA (rs.map (AV.ren ρ')), ob3, ι3, ro', hK, ⟨k1.keeps, hS.size, hD, fun k => (hS.slots k).grew k2, k1.objs, k1.dom, k1.inj, k1.home, k1.rolt, k1.roold, k1.gr⟩, ?_⟩
  exact retv_rep (h3.ren k3)
theorem callW_good (hS : X.SI σ a w ι ro) {g : FuncId} {vs : List AV} {xs : List Value} (hv : RepAll ι σ.ob ro w vs xs) (hm : callW X.C (some g) vs σ.ob K) :
    CallR X.P g xs.toArray w fun e w'' => ∃ v, e = .returned v ∧ Good X σ.sl K a v w'' := callW_goodO hS hv hm

theorem callP_W {C : Cons} {g : FuncId} {vs : List AV} {ob : Obs} (h : callP C g vs ob K) : callW C (some g) vs ob K := by
  simp only [callP] at h
  split at h
  · rename_i ps hps
    obtain ⟨qs, rs, hle, hc, hK⟩ := h
    refine ⟨_, [], _, [], id, id, ob, hc, noNames _ _, ?_, ⟨fun _ _ h => (by cases h), fun _ _ _ _ h => (by cases h), fun _ _ h => (by cases h), fun _ _ h => (by cases h), fun _ _ => rfl⟩, ?_⟩
    · have hall : ∀ {vs : List AV} {ps : List PV}, allPV ob vs = some ps → vs.length = ps.length ∧ ∀ (i : Nat) v p, vs[i]? = some v → ps[i]? = some p → v.toPV ob = some p := by
        intro vs
        induction vs with
        | nil => intro ps h; cases h; exact ⟨rfl, by simp⟩
        | cons v r ih =>
          intro ps h
          simp only [allPV] at h
          split at h
          · rename_i p l hp hl
            cases h
            obtain ⟨i1, i2⟩ := ih hl
            refine ⟨by simpa using i1, ?_⟩
            intro i u q hu hq
            cases i with
            | zero => simp at hu hq; subst hu hq; exact hp
            | succ i => exact i2 i u q (by simpa using hu) (by simpa using hq)
          · cases h
      obtain ⟨e1, e2⟩ := hall hps
      refine ⟨by simp [e1, hle.1], ?_⟩
      intro i v q hv hq
      simp at hq
      obtain ⟨q', hq', rfl⟩ := hq
      have hi : i < ps.length := by rw [hle.1]; exact (List.getElem?_eq_some_iff.1 hq').1
      exact .pv v _ q' (e2 i v _ hv (List.getElem?_eq_getElem hi)) (hle.2 i _ q' (List.getElem?_eq_getElem hi) hq')
    · have : (rs.map AV.pv).map (AV.ren id) = rs.map AV.pv := by
        rw [List.map_map]; exact List.map_congr_left fun p _ => by simp [AV.ren]
      rw [this]; exact hK
  · exact h.elim

theorem s_call (hS : X.SI σ a w ι ro) {c : Call} (ho : o.op = .call c) {f : Operand} (hb : c.callee = .value f) {y : Opd} (hy : cOpd X.N f = some y) {ys : List Opd} (hys : cOpds X.N c.args.toList = some ys) {pr : Bool}
    (hm : mop X.C d (.call pr y ys) σ.sl σ.ob K) : FinR X σ.sl K a ((execOp a.eval o).run X.P w) := by
  have h := opd_rep hS.slots hy
  have hargs := opds_rep hS.slots hys
  have ec : c.args.map a.eval = (c.args.toList.map a.eval).toArray := by apply Array.ext'; simp
  simp only [mop] at hm
  split at hm
  · rename_i g hev
    rw [hev] at h
    have hm' : callW X.C (some g) (ys.map (Opd.ev σ.sl)) σ.ob K := by
      split at hm
      · exact callP_W hm
      · exact hm
    have hcalls := callW_good hS hargs hm'
    generalize hf : a.eval f = v at h
    cases h with
    | pv _ _ hp =>
      cases hp
      have hrun : (execOp a.eval o).run X.P w = (callFunc g (c.args.toList.map a.eval).toArray).run X.P w := by
        simp [execOp, ho, resolve, hb, hf, Deferred.ofValue, invoke, ec]
      rw [hrun]
      exact hcalls.fin
  · rename_i g caps hev
    rw [hev] at h
    split at hm
    · exact hm.elim
    · generalize hf : a.eval f = v at h
      cases h with
      | fn _ _ xs hl hrep =>
        have hargs2 : RepAll ι σ.ob ro w (ys.map (Opd.ev σ.sl) ++ caps) (c.args.toList.map a.eval ++ xs) := by
          refine ⟨by simp [hl, hargs.1], ?_⟩
          intro i p x hp hx
          have hlen : (ys.map (Opd.ev σ.sl)).length = (c.args.toList.map a.eval).length := hargs.1
          rcases Nat.lt_or_ge i (ys.map (Opd.ev σ.sl)).length with hi | hi
          · rw [List.getElem?_append_left hi] at hp
            rw [List.getElem?_append_left (hlen ▸ hi)] at hx
            exact hargs.2 i p x hp hx
          · rw [List.getElem?_append_right hi] at hp
            rw [List.getElem?_append_right (hlen ▸ hi), ← hlen] at hx
            exact hrep _ p x hp hx
        have hcalls := callW_good hS hargs2 hm
        have hrun : (execOp a.eval o).run X.P w = (callFunc g (c.args.toList.map a.eval ++ xs).toArray).run X.P w := by
          simp [execOp, ho, resolve, hb, hf, Deferred.ofValue, invoke, ec]
        rw [hrun]
        exact hcalls.fin
  · rename_i n hev
    rw [hev] at h
    split at hm
    · exact hm.elim
    · generalize hf : a.eval f = v at h
      have h0 := h
      cases h with
      | yf _ b r cs0 pl ho1 hp =>
        have hargs2 : RepAll ι σ.ob ro w (AV.yf n :: ys.map (Opd.ev σ.sl)) (Value.func (.yield pl.b) #[] #[] :: c.args.toList.map a.eval) := by
          refine ⟨by simp [hargs.1], ?_⟩
          intro i p x hp hx
          cases i with
          | zero => simp at hp hx; subst hp hx; exact h0
          | succ i => exact hargs.2 i p x (by simpa using hp) (by simpa using hx)
        obtain ⟨l, zs, f', tmps, assign, body, h1, h2, h3⟩ := callW_goodO hS hargs2 hm
        cases h1
        have hrun : (execOp a.eval o).run X.P w = .ok (.round pl.b f' tmps assign body) w := by
          rw [← h2]
          simp [execOp, ho, resolve, hb, hf, Deferred.ofValue, invoke, ec]
        rw [hrun]
        exact h3
  · exact hm.elim

theorem s_minmax (hS : X.SI σ a w ι ro) {c : Call} (ho : o.op = .call c) {b : Bool} (hb : c.callee = .builtin (if b then .max else .min)) {ys : List Opd} (hys : cOpds X.N c.args.toList = some ys)
    (hm : mop X.C d (.minmax b ys) σ.sl σ.ob K) : FinR X σ.sl K a ((execOp a.eval o).run X.P w) := by
  have hargs := opds_rep hS.slots hys
  simp only [mop] at hm
  unfold minmaxW at hm
  split at hm
  · rename_i x y
    split at hm
    · rename_i k n k' n' hx hy
      obtain ⟨rfl, hK⟩ := hm
      have hl : c.args.toList.length = 2 := by simpa using hargs.1.symm
      match hc : c.args.toList, hl with
      | [p, q], _ =>
        rw [hc] at hargs
        have e1 := pv_int (by have := hargs.2 0 _ _ rfl rfl; rwa [hx] at this)
        have e2 := pv_int (by have := hargs.2 1 _ _ rfl rfl; rwa [hy] at this)
        have hc' : c.args = #[p, q] := by apply Array.ext'; simpa using hc
        cases b with
        | true =>
          have hrun : (execOp a.eval o).run X.P w = .ok (.value (.int k (max n n'))) w := by
            simp at hb
            simp [execOp, ho, resolve, hb, invoke, builtin, hc', e1, e2, Builtin.max_, Builtin.max2]
            split <;> omega
          rw [hrun]
          exact good_pure hS hK (.pv _ _ (.int _ _))
        | false =>
          have hrun : (execOp a.eval o).run X.P w = .ok (.value (.int k (min n n'))) w := by
            simp at hb
            simp [execOp, ho, resolve, hb, invoke, builtin, hc', e1, e2, Builtin.min_, Builtin.min2]
            split <;> omega
          rw [hrun]
          exact good_pure hS hK (.pv _ _ (.int _ _))
    · exact hm.elim
  · exact hm.elim

end
end Cr
