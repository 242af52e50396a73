/- Each operation does to the machine what its instruction does to the abstract state: numbers, texts, fields, elements. -/
import Derived.Test.YtndjoodgimomiaaDoorFw7
import Derived.LaidEql
namespace Cr
open Go Go.RowKit

theorem wrap_inR {k : IntKind} {n : Int} (h : inR k n) : k.wrap n = n := by
  cases k <;> simp only [inR] at h <;> simp [IntKind.wrap, IntKind.bits, IntKind.signed] <;> (try split) <;> omega

section
variable {X : Ctx} {σ : St} {a : Act} {w : World} {ι : Places} {ro : RO} {K : AV → Obs → Prop} {o : Oper} {m : MOp} {d : Nat}

theorem pv_int {ι : Places} {ob : Obs} {ro : RO} {w : World} {k : IntKind} {n : Int} {v : Value} (h : ARep ι ob ro w (.pv (.int k n)) v) : v = .int k n := by
  cases h with | pv _ _ h => cases h; rfl
theorem pv_lit {ι : Places} {ob : Obs} {ro : RO} {w : World} {u v : Value} (h : ARep ι ob ro w (.pv (.lit u)) v) : v = u := by
  cases h with
  | pv _ _ h => cases h; rfl
theorem pv_bool {ι : Places} {ob : Obs} {ro : RO} {w : World} {b : Bool} {v : Value} (h : ARep ι ob ro w (.pv (.bool b)) v) : v = .bool b := by
  cases h with | pv _ _ h => cases h; rfl
theorem pv_str {ι : Places} {ob : Obs} {ro : RO} {w : World} {s : Str} {v : Value} (h : ARep ι ob ro w (.pv (.str s)) v) : v = .string ⟨s.toArray⟩ ∧ s.length ≤ big := by
  cases h with | pv _ _ h => cases h; exact ⟨rfl, by assumption⟩
theorem pv_agg {ι : Places} {ob : Obs} {ro : RO} {w : World} {cs : List PV} {v : Value} (h : ARep ι ob ro w (.pv (.agg cs)) v) : ∃ xs, v = .agg xs.toArray ∧ PReps ro w cs xs ∧ ∀ x ∈ xs, x.oneCell' = true := by
  cases h with | pv _ _ h => cases h with | agg _ xs hl h1 hr => exact ⟨xs, rfl, ⟨hl, hr⟩, h1⟩

theorem run_intBin {P : Program} {w : World} {op : BinOp} {k : IntKind} {x y : Int} {K : PV → Prop} (h : intBin op k x y K) (t : TypeId) : ∃ p v, K p ∧ (binOp op t (.int k x) (.int k y)).run P w = .ok v w ∧ PRep ro w p v := by
  cases op <;> simp only [intBin] at h
  case add => exact ⟨_, _, h.2, by simp [binOp, Op.intArith, wrap_inR h.1], .int _ _⟩
  case sub => exact ⟨_, _, h.2, by simp [binOp, Op.intArith, wrap_inR h.1], .int _ _⟩
  case mul => exact ⟨_, _, h.2, by simp [binOp, Op.intArith, wrap_inR h.1], .int _ _⟩
  case quo =>
    obtain ⟨h0, h1, h2, h3⟩ := h
    have hn : y ≠ 0 := by omega
    have e : x.tdiv y = x / y := Int.tdiv_eq_ediv_of_nonneg h0
    have hr : inR k (x / y) := by
      have a1 := Int.ediv_nonneg h0 (by omega : 0 ≤ y)
      have a2 := Int.ediv_le_self y h0
      cases k <;> simp only [inR] at h2 ⊢ <;> omega
    refine ⟨_, _, h3, ?_, .int _ _⟩
    simp [binOp, Op.intDiv, hn, e, wrap_inR hr]
  case rem =>
    obtain ⟨h0, h1, h3⟩ := h
    have hn : y ≠ 0 := by omega
    have e : x.tmod y = x % y := Int.tmod_eq_emod_of_nonneg h0
    exact ⟨_, _, h3, by simp [binOp, Op.intDiv, hn, e], .int _ _⟩
  case eql => exact ⟨_, .bool (x == y), h, by simp [binOp, Op.intCmp], .bool _⟩
  case neq => exact ⟨_, .bool (x != y), h, by simp [binOp, Op.intCmp], by rw [show (x != y) = decide (x ≠ y) from by simp [bne]; rfl]; exact .bool _⟩
  case lss => exact ⟨_, _, h, by simp [binOp, Op.intCmp], .bool _⟩
  case leq => exact ⟨_, _, h, by simp [binOp, Op.intCmp], .bool _⟩
  case gtr => exact ⟨_, _, h, by simp [binOp, Op.intCmp], .bool _⟩
  case geq => exact ⟨_, _, h, by simp [binOp, Op.intCmp], .bool _⟩

theorem mk_size (l : List UInt8) : (⟨l.toArray⟩ : ByteArray).size = l.length := by simp [ByteArray.size]

theorem run_strBin {P : Program} {w : World} {op : BinOp} {x y : Str} {K : PV → Prop} (h : strBin op x y K) (t : TypeId) : ∃ p v, K p ∧ (binOp op t (.string ⟨x.toArray⟩) (.string ⟨y.toArray⟩)).run P w = .ok v w ∧ PRep ro w p v := by
  cases op <;> simp only [strBin] at h
  case add =>
    refine ⟨_, _, h.2, ?_, .str _ (by simpa using h.1)⟩
    have hb : x.length + y.length ≤ 9223372036854775807 := Nat.le_trans h.1 (by unfold big; omega)
    have e := run_string_add_sum (P := P) (w := w) ⟨x.toArray⟩ ⟨y.toArray⟩ (by rw [mk_size, mk_size]; exact hb)
    rw [ByteArray.mk_append_mk] at e
    simpa [binOp] using e
  case eql => exact ⟨_, _, h, by simp [binOp, Op.stringOp], .bool _⟩
  case neq => exact ⟨_, _, h, by simp [binOp, Op.stringOp], .bool _⟩
  case lss => exact ⟨_, _, h, by simp [binOp, Op.stringOp], .bool _⟩
  case leq => exact ⟨_, _, h, by simp [binOp, Op.stringOp], .bool _⟩
  case gtr => exact ⟨_, _, h, by simp [binOp, Op.stringOp], .bool _⟩
  case geq => exact ⟨_, _, h, by simp [binOp, Op.stringOp], .bool _⟩

theorem guard_int {P : Program} {w : World} (op : BinOp) (t : TypeId) (x y : Operand) (k k' : IntKind) (a b : Int) : (eqGuard op t x y (.int k a) (.int k' b)).run P w = .ok () w := by
  cases op <;> simp [eqGuard]
theorem guard_str {P : Program} {w : World} (op : BinOp) (t : TypeId) (x y : Operand) (a b : ByteArray) : (eqGuard op t x y (.string a) (.string b)).run P w = .ok () w := by
  cases op <;> simp [eqGuard]
theorem guard_bool {P : Program} {w : World} (op : BinOp) (t : TypeId) (x y : Operand) (a b : Bool) : (eqGuard op t x y (.bool a) (.bool b)).run P w = .ok () w := by
  cases op <;> simp [eqGuard]

theorem plainT_le {P : Program} : ∀ (n : Nat) (t : TypeId) (l : List Nat), plainT P n t = some l → ∀ x ∈ l, x ≤ 2 := by
  intro n
  induction n with
  | zero => intro t l h; simp [plainT] at h
  | succ n ih =>
    have fsk : ∀ (fs : List Field) (off : Nat) (l : List Nat), plainFs P (plainT P n) off fs = some l → ∀ x ∈ l, x ≤ 2 := by
      intro fs
      induction fs with
      | nil => intro off l h; cases h; simp
      | cons f r ihr =>
        intro off l h
        simp only [plainFs] at h
        split at h
        · simp only [Option.bind_eq_some_iff] at h
          obtain ⟨lf, hlf, h⟩ := h
          split at h
          · simp only [Option.bind_eq_some_iff] at h
            obtain ⟨m, hm, h⟩ := h
            cases h
            intro x hx
            rcases List.mem_append.mp hx with e | e
            · exact ih _ _ hlf x e
            · exact ihr _ _ hm x e
          · cases h
        · cases h
    intro t l h
    unfold plainT at h
    split at h
    · cases h; simp
    · cases h; simp
    · cases h; simp
    · split at h
      · exact fsk _ _ _ h
      · cases h
    · cases h

theorem plainT_ne {P : Program} {n : Nat} {t : TypeId} {k : Nat} (hk : 2 < k) : (plainT P n t).getD [] ≠ [k] := by
  intro h
  cases hp : plainT P n t with
  | none => rw [hp] at h; cases h
  | some m =>
    rw [hp] at h
    simp only [Option.getD_some] at h
    have := plainT_le n t m hp k (by rw [h]; simp)
    omega

theorem cPlain_bool {P : Program} {op : BinOp} {t : TypeId} (h : cPlain P op t = [3]) : P.underlying t = some .bool := by
  have h' : cPlainT P t = [3] := by unfold cPlain at h; split at h <;> first | exact h | cases h
  unfold cPlainT at h'
  split at h'
  · assumption
  · split at h' <;> cases h'
  · split at h'
    · cases h'
    · exact absurd h' (plainT_ne (by omega))
  · cases h'

theorem cPlain_ptr {P : Program} {op : BinOp} {t : TypeId} (h : cPlain P op t = [4]) : ∃ e i, P.underlying t = some (.pointer e) ∧ P.info? e = some i := by
  have h' : cPlainT P t = [4] := by unfold cPlain at h; split at h <;> first | exact h | cases h
  unfold cPlainT at h'
  split at h'
  · cases h'
  · rename_i e hu
    split at h'
    · rename_i hi
      obtain ⟨i, hi⟩ := Option.isSome_iff_exists.mp hi
      exact ⟨e, i, hu, hi⟩
    · cases h'
  · split at h'
    · cases h'
    · exact absurd h' (plainT_ne (by omega))
  · cases h'

theorem cPlain_struct {P : Program} {op : BinOp} {t : TypeId} {l : List Nat} {ps qs : List PV} {b : Bool} (h : cPlain P op t = l) (hl : l ≠ []) (hc : cellsEq l ps qs = some b) :
    P.eqGuardType P.depth t = false ∧ plainT P 20 t = some l ∧ ∃ fs, P.underlying t = some (.struct fs) := by
  have h' : cPlainT P t = l := by unfold cPlain at h; split at h <;> first | exact h | exact absurd h.symm hl
  unfold cPlainT at h'
  split at h'
  · subst h'
    exfalso
    cases ps with
    | nil => simp [cellsEq] at hc
    | cons p ps => cases qs with
      | nil => simp [cellsEq] at hc
      | cons q qs => simp [cellsEq, cellEq] at hc
  · split at h'
    · subst h'
      exfalso
      cases ps with
      | nil => simp [cellsEq] at hc
      | cons p ps => cases qs with
        | nil => simp [cellsEq] at hc
        | cons q qs => simp [cellsEq, cellEq] at hc
    · exact absurd h'.symm hl
  · split at h'
    · exact absurd h'.symm hl
    · rename_i fs hu hg
      cases hp : plainT P 20 t with
      | none => rw [hp] at h'; exact absurd h'.symm hl
      | some m => rw [hp] at h'; simp at h'; exact ⟨by simpa using hg, by rw [h'], fs, hu⟩
  · exact absurd h'.symm hl

theorem run_eqBool {P : Program} {w : World} {op : BinOp} {t : TypeId} (hu : P.underlying t = some .bool) (b c : Bool) {K : PV → Prop} (h : eqBin op (some (b == c)) K) : ∃ p v, K p ∧ (binOp op t (.bool b) (.bool c)).run P w = .ok v w ∧ PRep ro w p v := by
  unfold eqBin at h
  split at h
  · rename_i e; cases e
    exact ⟨_, _, h, by simp [binOp, run_equal_bool w t b c hu], .bool _⟩
  · rename_i e; cases e
    exact ⟨_, _, h, by simp [binOp, run_equal_bool w t b c hu], .bool _⟩
  · exact h.elim

theorem run_eqAgg {P : Program} {w : World} {op : BinOp} {t : TypeId} {xs ys : List Value} {r : Option Bool} (hr : ∀ b, r = some b → (Op.equalIn 10000 t (.agg xs.toArray) (.agg ys.toArray)).run P w = .ok b w) {K : PV → Prop} (h : eqBin op r K) :
    ∃ p v, K p ∧ (binOp op t (.agg xs.toArray) (.agg ys.toArray)).run P w = .ok v w ∧ PRep ro w p v := by
  unfold eqBin at h
  split at h
  · exact ⟨_, _, h, by rw [run_eql_struct, hr _ rfl]; simp, .bool _⟩
  · exact ⟨_, _, h, by rw [run_neq_struct, hr _ rfl]; simp, .bool _⟩
  · exact h.elim

theorem guard_ptr {P : Program} {w : World} (op : BinOp) (t : TypeId) (x y : Operand) (a b : Option Addr) : (eqGuard op t x y (.pointer a) (.pointer b)).run P w = .ok () w := by
  cases op <;> simp [eqGuard]

theorem run_eqPtr {P : Program} {w : World} {op : BinOp} {t e : TypeId} {i : TypeInfo} (hu : P.underlying t = some (.pointer e)) (hi : P.info? e = some i) {a b : Option Addr} {r : Bool}
    (hr : (a = b ∧ r = true) ∨ (∃ p, a = some p ∧ b = none ∧ r = false)) {K : PV → Prop} (h : eqBin op (some r) K) : ∃ p v, K p ∧ (binOp op t (.pointer a) (.pointer b)).run P w = .ok v w ∧ PRep ro w p v := by
  have he : (Op.equal t (.pointer a) (.pointer b)).run P w = .ok r w := by
    rcases hr with ⟨rfl, rfl⟩ | ⟨p, rfl, rfl, rfl⟩
    · have h : ∀ d : Nat, (Op.equalIn (d + 1) t (.pointer a) (.pointer a)).run P w = .ok true w := fun d => by
        cases a with
        | none => simp [Op.equalIn, run_underlying hu]
        | some a => simp [Op.equalIn, run_underlying hu, Go.sizeOf, typeInfo, hi, run_sameAddr_same]
      simp [Op.equal, Op.maxDepth, h 9999]
    · have h : ∀ d : Nat, (Op.equalIn (d + 1) t (.pointer (some p)) (.pointer none)).run P w = .ok false w := fun d => by
        simp [Op.equalIn, run_underlying hu]
      simp [Op.equal, Op.maxDepth, h 9999]
  unfold eqBin at h
  split at h
  · rename_i e; cases e
    exact ⟨_, _, h, by simp [binOp, he], .bool _⟩
  · rename_i e; cases e
    exact ⟨_, _, h, by simp [binOp, he], .bool _⟩
  · exact h.elim

theorem s_bin (hS : X.SI σ a w ι ro) {op : BinOp} {t u : TypeId} {x y : Operand} (ho : o.op = .binOp op t x y u) {p q : Opd} (hp : cOpd X.N x = some p) (hq : cOpd X.N y = some q)
    (hm : mop X.C d (.bin op (cPlain X.P op t) p q) σ.sl σ.ob K) : FinR X σ.sl K a ((execOp a.eval o).run X.P w) := by
  have h1 := opd_rep hS.slots hp
  have h2 := opd_rep hS.slots hq
  simp only [mop] at hm
  have fin : ∀ pv v, K (.pv pv) σ.ob → (eqGuard op t x y (a.eval x) (a.eval y)).run X.P w = .ok () w → (binOp op t (a.eval x) (a.eval y)).run X.P w = .ok v w → PRep ro w pv v → FinR X σ.sl K a ((execOp a.eval o).run X.P w) := by
    intro pv v hK hg hb hr
    have hrun : (execOp a.eval o).run X.P w = .ok (.value v) w := by simp [execOp, ho, hg, hb]
    rw [hrun]
    exact good_pure hS hK (.pv _ _ hr)
  generalize hpe : p.ev σ.sl = pe at hm h1
  generalize hqe : q.ev σ.sl = qe at hm h2
  unfold binW at hm
  split at hm
  · obtain ⟨rfl, hm⟩ := hm
    have e1 := pv_int h1
    have e2 := pv_int h2
    obtain ⟨pv, v, hK, hb, hr⟩ := run_intBin (P := X.P) (w := w) (ro := ro) hm t
    exact fin pv v hK (by rw [e1, e2]; exact guard_int _ _ _ _ _ _ _ _) (by rw [e1, e2]; exact hb) hr
  · have e1 := (pv_str h1).1
    have e2 := (pv_str h2).1
    obtain ⟨pv, v, hK, hb, hr⟩ := run_strBin (P := X.P) (w := w) (ro := ro) hm t
    exact fin pv v hK (by rw [e1, e2]; exact guard_str _ _ _ _ _ _) (by rw [e1, e2]; exact hb) hr
  · rename_i b c
    obtain ⟨hpl, hm⟩ := hm
    have e1 := pv_bool h1
    have e2 := pv_bool h2
    obtain ⟨pv, v, hK, hb, hr⟩ := run_eqBool (P := X.P) (w := w) (ro := ro) (cPlain_bool hpl) b c hm
    exact fin pv v hK (by rw [e1, e2]; exact guard_bool _ _ _ _ _ _) (by rw [e1, e2]; exact hb) hr
  · rename_i b c
    obtain ⟨hne, hm⟩ := hm
    obtain ⟨xs, e1, hx, _⟩ := pv_agg h1
    obtain ⟨ys, e2, hy, _⟩ := pv_agg h2
    have hsome : ∃ r, cellsEq (cPlain X.P op t) b c = some r := by
      cases h : cellsEq (cPlain X.P op t) b c with
      | some r => exact ⟨r, rfl⟩
      | none => rw [h] at hm; unfold eqBin at hm; split at hm <;> first | (rename_i e; cases e) | exact hm.elim
    obtain ⟨r, hr⟩ := hsome
    obtain ⟨hg, hpl, fs, hu⟩ := cPlain_struct rfl hne hr
    obtain ⟨pv, v, hK, hb, hr⟩ := run_eqAgg (P := X.P) (w := w) (ro := ro) (t := t) (xs := xs) (ys := ys) (fun r' hr' => by
      have := eq_plain (P := X.P) (w := w) (ro := ro) 20 t _ hpl 10000 (by omega) b c xs ys _ r' hu hx hy hr'
      simpa [valOf, isAggD] using this) hm
    exact fin pv v hK (by rw [e1, e2]; exact run_eqGuard_agg _ _ _ _ _ _ _ hg) (by rw [e1, e2]; exact hb) hr
  · obtain ⟨hpl, hm⟩ := hm
    obtain ⟨e, i, hu, hi⟩ := cPlain_ptr hpl
    have e1 := pv_lit h1
    have e2 := pv_lit h2
    obtain ⟨pv, v, hK, hb, hr⟩ := run_eqPtr (P := X.P) (w := w) (ro := ro) hu hi (.inl ⟨rfl, rfl⟩) hm
    exact fin pv v hK (by rw [e1, e2]; exact guard_ptr _ _ _ _ _ _) (by rw [e1, e2]; exact hb) hr
  · obtain ⟨hpl, hm⟩ := hm
    obtain ⟨e, i, hu, hi⟩ := cPlain_ptr hpl
    have e2 := pv_lit h2
    generalize he1 : a.eval x = u at h1
    cases h1 with
    | ptr _ off' pl t' cs k1 k2 k3 =>
      obtain ⟨pv, v, hK, hb, hr⟩ := run_eqPtr (P := X.P) (w := w) (ro := ro) (b := none) hu hi (.inr ⟨_, rfl, rfl, rfl⟩) hm
      exact fin pv v hK (by rw [he1, e2]; exact guard_ptr _ _ _ _ _ _) (by rw [he1, e2]; exact hb) hr
  · obtain ⟨hpl, rfl, rfl, hm⟩ := hm
    obtain ⟨e, i, hu, hi⟩ := cPlain_ptr hpl
    generalize he1 : a.eval x = u at h1
    generalize he2 : a.eval y = u2 at h2
    cases h1 with
    | ptr _ _ pl t' cs k1 k2 k3 =>
      cases h2 with
      | ptr _ _ pl2 t2' cs2 j1 j2 j3 =>
        rw [k1] at j1; cases j1
        obtain ⟨pv, v, hK, hb, hr⟩ := run_eqPtr (P := X.P) (w := w) (ro := ro) hu hi (.inl ⟨rfl, rfl⟩) hm
        exact fin pv v hK (by rw [he1, he2]; exact guard_ptr _ _ _ _ _ _) (by rw [he1, he2]; exact hb) hr
  · exact hm.elim

end
end Cr
