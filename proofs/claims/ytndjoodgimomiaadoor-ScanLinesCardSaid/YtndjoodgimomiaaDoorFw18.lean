/- Running code over abstract states by rewriting: states as lists, what is left to do as a list. -/
import Derived.Test.YtndjoodgimomiaaDoorFw17
import Derived.KernelRfl
namespace Cr
open Go Go.RowKit

def look : List (Nat × AV) → Nat → AV
  | [], _ => .any
  | (j, v) :: r, k => if k = j then v else look r k
def setk {α : Type} : List (Nat × α) → Nat → α → List (Nat × α)
  | [], k, v => [(k, v)]
  | (j, u) :: r, k, v => if k = j then (k, v) :: r else (j, u) :: setk r k v

theorem look_setk : ∀ (l : List (Nat × AV)) (k : Nat) (v : AV) (j : Nat), look (setk l k v) j = if j = k then v else look l j
  | [], k, v, j => by simp [setk, look]
  | (i, u) :: r, k, v, j => by
    simp only [setk]
    split
    · rename_i e; subst e; simp only [look]; split <;> simp_all
    · simp only [look, look_setk r k v j]
      split <;> split <;> simp_all
theorem lookO_setk : ∀ (l : List (Nat × Ob)) (k : Nat) (v : Ob), lookO (setk l k v) = upd (lookO l) k v
  | [], k, v => by funext j; simp [setk, lookO, upd]
  | (i, u) :: r, k, v => by
    funext j
    have ih := congrFun (lookO_setk r k v) j
    simp only [setk]
    simp only [upd] at ih ⊢
    split
    · rename_i e; subst e; simp only [lookO]; split <;> simp_all
    · simp only [lookO, ih]
      split <;> split <;> simp_all

def mk (l : List (Nat × AV)) (os : List (Nat × Ob)) : St := ⟨look l, lookO os⟩

theorem put_mk (l : List (Nat × AV)) (ob : Obs) (d : Nat) (v : AV) : St.put ⟨look l, ob⟩ (some d) v = ⟨look (setk l d v), ob⟩ := by
  simp only [St.put]
  congr 1
  funext j
  rw [look_setk]

@[simp] theorem get_zero {α : Type} (a : α) (l : List α) : (a :: l)[0]? = some a := (rfl)
@[simp] theorem get_succ {α : Type} (a : α) (l : List α) (n : Nat) : (a :: l)[n + 1]? = l[n]? := (rfl)

inductive It where
  | ins (m : MIns)
  | code (c : MCode)
  | blk (id : Nat)
  | again (c : MCode)

variable (X : Ctx)

def contQ : List It → (MExit → St → Prop) → MExit → St → Prop
  | [], Q => Q
  | .ins m :: r, Q => fun e σ => match e with
    | .normal => mstep X.C m σ (contQ r Q .normal)
    | e => contQ r Q e σ
  | .code c :: r, Q => fun e σ => match e with
    | .normal => X.awp c (contQ r Q) σ
    | e => contQ r Q e σ
  | .blk id :: r, Q => fun e σ => match e with
    | .exit j => if j = id then contQ r Q .normal σ else contQ r Q (.exit j) σ
    | e => contQ r Q e σ
  | .again c :: r, Q => fun e σ => match e with
    | .normal => X.Ok (.loop c) (contQ r Q) σ
    | e => contQ r Q e σ

def Run (l : List It) (Q : MExit → St → Prop) (σ : St) : Prop := contQ X l Q .normal σ
def LoopG (c : MCode) (r : List It) (Q : MExit → St → Prop) (σ : St) : Prop := X.Ok (.loop c) (contQ X r Q) σ

variable {X}

@[simp] theorem run_nil (Q : MExit → St → Prop) (σ : St) : Run X [] Q σ = Q .normal σ := (rfl)
@[simp] theorem run_skip (r : List It) (Q : MExit → St → Prop) (σ : St) : Run X (.code .skip :: r) Q σ = Run X r Q σ := (rfl)
@[simp] theorem run_seq (a b : MCode) (r : List It) (Q : MExit → St → Prop) (σ : St) : Run X (.code (.seq a b) :: r) Q σ = Run X (.code a :: .code b :: r) Q σ := by
  show X.awp a (thenQ (X.awp b (contQ X r Q)) (contQ X r Q)) σ = X.awp a (contQ X (.code b :: r) Q) σ
  congr 1
  funext e σ'
  cases e <;> rfl
@[simp] theorem run_block (id : Nat) (c : MCode) (r : List It) (Q : MExit → St → Prop) (σ : St) : Run X (.code (.block id c) :: r) Q σ = Run X (.code c :: .blk id :: r) Q σ := by
  show X.awp c (blockQ id (contQ X r Q)) σ = X.awp c (contQ X (.blk id :: r) Q) σ
  congr 1
  funext e σ'
  cases e <;> rfl
@[simp] theorem run_blk (id : Nat) (r : List It) (Q : MExit → St → Prop) (σ : St) : Run X (.blk id :: r) Q σ = Run X r Q σ := (rfl)
@[simp] theorem run_again (c : MCode) (r : List It) (Q : MExit → St → Prop) (σ : St) : Run X (.again c :: r) Q σ = LoopG X c r Q σ := (rfl)
@[simp] theorem run_loop (c : MCode) (r : List It) (Q : MExit → St → Prop) (σ : St) : Run X (.code (.loop c) :: r) Q σ = LoopG X c r Q σ := (rfl)
def RangeG (X : Ctx) (f : Opd) (ps : List Nat) (a b : MCode) (r : List It) (Q : MExit → St → Prop) (σ : St) : Prop := X.Ok (.range f ps a b) (contQ X r Q) σ
@[simp] theorem run_range (f : Opd) (ps : List Nat) (a b : MCode) (r : List It) (Q : MExit → St → Prop) (σ : St) : Run X (.code (.range f ps a b) :: r) Q σ = RangeG X f ps a b r Q σ := (rfl)
@[simp] theorem run_exit (id : Nat) (r : List It) (Q : MExit → St → Prop) (σ : St) : Run X (.code (.exit id) :: r) Q σ = contQ X r Q (.exit id) σ := (rfl)
@[simp] theorem run_ret (r : List It) (Q : MExit → St → Prop) (σ : St) : Run X (.code .ret :: r) Q σ = contQ X r Q .ret σ := (rfl)
@[simp] theorem contQ_nil (Q : MExit → St → Prop) (e : MExit) (σ : St) : contQ X [] Q e σ = Q e σ := (rfl)
@[simp] theorem contQ_ret : ∀ (r : List It) (Q : MExit → St → Prop) (σ : St), contQ X r Q .ret σ = Q .ret σ
  | [], _, _ => rfl
  | .ins m :: r, Q, σ => contQ_ret r Q σ
  | .code m :: r, Q, σ => contQ_ret r Q σ
  | .blk m :: r, Q, σ => contQ_ret r Q σ
  | .again m :: r, Q, σ => contQ_ret r Q σ
@[simp] theorem contQ_exit_ins (m : MIns) (r : List It) (Q : MExit → St → Prop) (j : Nat) (σ : St) : contQ X (.ins m :: r) Q (.exit j) σ = contQ X r Q (.exit j) σ := (rfl)
@[simp] theorem contQ_exit_code (m : MCode) (r : List It) (Q : MExit → St → Prop) (j : Nat) (σ : St) : contQ X (.code m :: r) Q (.exit j) σ = contQ X r Q (.exit j) σ := (rfl)
@[simp] theorem contQ_exit_again (m : MCode) (r : List It) (Q : MExit → St → Prop) (j : Nat) (σ : St) : contQ X (.again m :: r) Q (.exit j) σ = contQ X r Q (.exit j) σ := (rfl)
@[simp] theorem contQ_exit_blk (id : Nat) (r : List It) (Q : MExit → St → Prop) (j : Nat) (σ : St) : contQ X (.blk id :: r) Q (.exit j) σ = if j = id then Run X r Q σ else contQ X r Q (.exit j) σ := (rfl)

@[simp] theorem run_reg_nil (r : List It) (Q : MExit → St → Prop) (σ : St) : Run X (.code (.reg []) :: r) Q σ = Run X r Q σ := (rfl)
@[simp] theorem run_reg_cons (m : MIns) (ms : List MIns) (r : List It) (Q : MExit → St → Prop) (σ : St) : Run X (.code (.reg (m :: ms)) :: r) Q σ = Run X (.ins m :: .code (.reg ms) :: r) Q σ := (rfl)

/-! ### Instructions -/

def frzR : Option Ob → Nat → Nat → AV
  | some (.row _ _ es), _, len => .pv (.sl none (es.take len))
  | _, n, len => .rs n len
def frz (os : List (Nat × Ob)) : AV → AV
  | .rs n len => frzR (lookO os n) n len
  | v => v

def Opd.val (l : List (Nat × AV)) : Opd → AV
  | .t k => look l k
  | .c p => .pv p
  | .v a => a
def Opd.res (l : List (Nat × AV)) (x : Opd) : Opd := .v (x.val l)
def Opd.resF (l : List (Nat × AV)) (os : List (Nat × Ob)) (x : Opd) : Opd := .v (frz os (x.val l))

theorem res_ev (l : List (Nat × AV)) (x : Opd) (s : Nat → AV) : (x.res l).ev s = x.ev (look l) := by cases x <;> rfl
theorem toPV_frz (os : List (Nat × Ob)) (v : AV) : (frz os v).toPV (lookO os) = v.toPV (lookO os) := by
  cases v <;> try rfl
  rename_i n len
  simp only [frz]
  unfold frzR
  split
  · rename_i h; simp [AV.toPV, h]
  · rfl

/-- What is left behind an instruction whose operands are told. -/
def OpR (X : Ctx) (d : Option Nat) (m : MOp) (r : List It) (Q : MExit → St → Prop) (l : List (Nat × AV)) (os : List (Nat × Ob)) : Prop :=
  mop X.C (d.getD 0) m (look l) (lookO os) fun v ob => contQ X r Q .normal (St.put ⟨look l, ob⟩ d v)

def GuardR (X : Ctx) (g : Nat) (v : AV) (b : Bool) (d : Option Nat) (m : MOp) (r : List It) (Q : MExit → St → Prop) (l : List (Nat × AV)) (os : List (Nat × Ob)) : Prop :=
  Run X (.ins ⟨d, m, some (g, b)⟩ :: r) Q (mk (setk l g v) os)

theorem setk_same (l : List (Nat × AV)) (g : Nat) : look (setk l g (look l g)) = look l := by
  funext k; rw [look_setk]; split
  · rename_i e; rw [e]
  · rfl

@[simp] theorem run_ins (d : Option Nat) (m : MOp) (r : List It) (Q : MExit → St → Prop) (l : List (Nat × AV)) (os : List (Nat × Ob)) : Run X (.ins ⟨d, m, none⟩ :: r) Q (mk l os) = OpR X d m r Q l os := (rfl)
@[simp] theorem run_insG (d : Option Nat) (m : MOp) (g : Nat) (b : Bool) (r : List It) (Q : MExit → St → Prop) (l : List (Nat × AV)) (os : List (Nat × Ob)) :
    Run X (.ins ⟨d, m, some (g, b)⟩ :: r) Q (mk l os) = GuardR X g (look l g) b d m r Q l os := by
  show Run X _ Q (mk l os) = Run X _ Q (mk (setk l g (look l g)) os)
  simp only [mk, setk_same]
theorem guard_do (b : Bool) (g d : Nat) (m : MOp) (r : List It) (Q : MExit → St → Prop) (l : List (Nat × AV)) (os : List (Nat × Ob)) :
    GuardR X g (.pv (.bool b)) b (some d) m r Q l os = Run X (.ins ⟨some d, m, none⟩ :: r) Q (mk (setk l g (.pv (.bool b))) os) := by
  have h : look (setk l g (.pv (.bool b))) g = .pv (.bool b) := by rw [look_setk, if_pos rfl]
  show mstep X.C ⟨some d, m, some (g, b)⟩ (mk (setk l g (.pv (.bool b))) os) (contQ X r Q .normal) = mstep X.C ⟨some d, m, none⟩ (mk (setk l g (.pv (.bool b))) os) (contQ X r Q .normal)
  simp only [mstep, mk, h]
  simp
theorem guard_not (b c : Bool) (hne : c ≠ b) (g d : Nat) (m : MOp) (r : List It) (Q : MExit → St → Prop) (l : List (Nat × AV)) (os : List (Nat × Ob)) :
    GuardR X g (.pv (.bool c)) b (some d) m r Q l os = Run X r Q (mk (setk (setk l g (.pv (.bool c))) d .any) os) := by
  have h : look (setk l g (.pv (.bool c))) g = .pv (.bool c) := by rw [look_setk, if_pos rfl]
  show mstep X.C ⟨some d, m, some (g, b)⟩ (mk (setk l g (.pv (.bool c))) os) (contQ X r Q .normal) = _
  simp only [mstep, mk, h, put_mk]
  simp [hne]
  rfl
@[simp high] theorem guard_tt (g d : Nat) (m : MOp) (r : List It) (Q : MExit → St → Prop) (l : List (Nat × AV)) (os : List (Nat × Ob)) :
    GuardR X g (.pv (.bool true)) true (some d) m r Q l os = Run X (.ins ⟨some d, m, none⟩ :: r) Q (mk (setk l g (.pv (.bool true))) os) := guard_do ..
@[simp high] theorem guard_ff (g d : Nat) (m : MOp) (r : List It) (Q : MExit → St → Prop) (l : List (Nat × AV)) (os : List (Nat × Ob)) :
    GuardR X g (.pv (.bool false)) false (some d) m r Q l os = Run X (.ins ⟨some d, m, none⟩ :: r) Q (mk (setk l g (.pv (.bool false))) os) := guard_do ..
@[simp high] theorem guard_tf (g d : Nat) (m : MOp) (r : List It) (Q : MExit → St → Prop) (l : List (Nat × AV)) (os : List (Nat × Ob)) :
    GuardR X g (.pv (.bool true)) false (some d) m r Q l os = Run X r Q (mk (setk (setk l g (.pv (.bool true))) d .any) os) := guard_not _ _ (by simp) ..
@[simp high] theorem guard_ft (g d : Nat) (m : MOp) (r : List It) (Q : MExit → St → Prop) (l : List (Nat × AV)) (os : List (Nat × Ob)) :
    GuardR X g (.pv (.bool false)) true (some d) m r Q l os = Run X r Q (mk (setk (setk l g (.pv (.bool false))) d .any) os) := guard_not _ _ (by simp) ..
@[simp low] theorem guard_split (c b : Bool) (g d : Nat) (m : MOp) (r : List It) (Q : MExit → St → Prop) (l : List (Nat × AV)) (os : List (Nat × Ob)) :
    GuardR X g (.pv (.bool c)) b (some d) m r Q l os = ((c = true → GuardR X g (.pv (.bool true)) b (some d) m r Q l os) ∧ (c = false → GuardR X g (.pv (.bool false)) b (some d) m r Q l os)) := by
  cases c <;> simp

def CondR (X : Ctx) (v : AV) (a b : MCode) (r : List It) (Q : MExit → St → Prop) (σ : St) : Prop :=
  match v with
  | .pv (.bool t) => (t = true → Run X (.code a :: r) Q σ) ∧ (t = false → Run X (.code b :: r) Q σ)
  | _ => False
@[simp] theorem run_cond (c : Opd) (a b : MCode) (r : List It) (Q : MExit → St → Prop) (l : List (Nat × AV)) (os : List (Nat × Ob)) :
    Run X (.code (.cond c a b) :: r) Q (mk l os) = CondR X (c.val l) a b r Q (mk l os) := by cases c <;> rfl
@[simp] theorem condR_bool (t : Bool) (a b : MCode) (r : List It) (Q : MExit → St → Prop) (σ : St) :
    CondR X (.pv (.bool t)) a b r Q σ = ((t = true → Run X (.code a :: r) Q σ) ∧ (t = false → Run X (.code b :: r) Q σ)) := rfl

@[simp high] theorem condR_t (a b : MCode) (r : List It) (Q : MExit → St → Prop) (σ : St) : CondR X (.pv (.bool true)) a b r Q σ = Run X (.code a :: r) Q σ := by simp
@[simp high] theorem condR_f (a b : MCode) (r : List It) (Q : MExit → St → Prop) (σ : St) : CondR X (.pv (.bool false)) a b r Q σ = Run X (.code b :: r) Q σ := by simp
attribute [simp] look lookO setk
@[simp] theorem val_t (l : List (Nat × AV)) (k : Nat) : (Opd.t k).val l = look l k := (rfl)
@[simp] theorem val_c (l : List (Nat × AV)) (p : PV) : (Opd.c p).val l = .pv p := (rfl)
@[simp] theorem val_v (l : List (Nat × AV)) (a : AV) : (Opd.v a).val l = a := (rfl)

@[simp] theorem cells_agg (cs : List PV) : (PV.agg cs).cells = cs := (rfl)
@[simp] theorem cells_int (k : IntKind) (n : Int) : (PV.int k n).cells = [.int k n] := (rfl)
@[simp] theorem cells_bool (b : Bool) : (PV.bool b).cells = [.bool b] := (rfl)
@[simp] theorem cells_str (b : Str) : (PV.str b).cells = [.str b] := (rfl)
@[simp] theorem cells_sl (c : Option Nat) (es : List PV) : (PV.sl c es).cells = [.sl c es] := (rfl)
@[simp] theorem cells_lit (v : Value) : (PV.lit v).cells = [.lit v] := (rfl)
@[simp] theorem cells_rp (ps : List PV) (o : Nat) : (PV.rp ps o).cells = [.rp ps o] := (rfl)
@[simp] theorem cells_fnv (f : FuncId) : (PV.fnv f).cells = [.fnv f] := (rfl)

def rowPV : Option Ob → Nat → Option PV
  | some (.row _ _ es), len => some (.sl none (es.take len))
  | _, _ => none
@[simp] theorem rowPV_row (t : TypeId) (sz : Nat) (es : List PV) (len : Nat) : rowPV (some (.row t sz es)) len = some (.sl none (es.take len)) := (rfl)
@[simp] theorem toPV_pv (ob : Obs) (p : PV) : (AV.pv p).toPV ob = some p := (rfl)
@[simp] theorem toPV_rs (ob : Obs) (n len : Nat) : (AV.rs n len).toPV ob = rowPV (ob n) len := by
  simp only [AV.toPV, rowPV]
  cases ob n with
  | none => rfl
  | some o => cases o <;> rfl
@[simp] theorem toPV_ptr (ob : Obs) (n o : Nat) : (AV.ptr n o).toPV ob = none := (rfl)
@[simp] theorem toPV_sa (ob : Obs) (n g o len : Nat) (c : Option Nat) : (AV.sa n g o len c).toPV ob = none := (rfl)
@[simp] theorem toPV_pe (ob : Obs) (n g c : Nat) : (AV.pe n g c).toPV ob = none := (rfl)
@[simp] theorem toPV_yf (ob : Obs) (n : Nat) : (AV.yf n).toPV ob = none := (rfl)
@[simp] theorem toPV_rh (ob : Obs) (n len : Nat) : (AV.rh n len).toPV ob = none := (rfl)
@[simp] theorem toPV_fn (ob : Obs) (f : FuncId) (cs : List AV) : (AV.fn f cs).toPV ob = none := (rfl)
@[simp] theorem toPV_ag (ob : Obs) (cs : List AV) : (AV.ag cs).toPV ob = none := (rfl)
@[simp] theorem toPV_tup (ob : Obs) (cs : List AV) : (AV.tup cs).toPV ob = none := (rfl)
@[simp] theorem toPV_any (ob : Obs) : AV.any.toPV ob = none := (rfl)
@[simp] theorem cellsOf_pv (p : PV) : (AV.pv p).cellsOf = some (p.cells.map .pv) := (rfl)
@[simp] theorem cellsOf_ag (cs : List AV) : (AV.ag cs).cellsOf = some cs := (rfl)
@[simp] theorem cellsOf_ptr (n o : Nat) : (AV.ptr n o).cellsOf = some [.ptr n o] := (rfl)
@[simp] theorem cellsOf_rs (n o : Nat) : (AV.rs n o).cellsOf = some [.rs n o] := (rfl)
@[simp] theorem cellsOf_rh (n o : Nat) : (AV.rh n o).cellsOf = some [.rh n o] := (rfl)
@[simp] theorem cellsOf_fn (f : FuncId) (cs : List AV) : (AV.fn f cs).cellsOf = some [.fn f cs] := (rfl)
@[simp] theorem cellsOf_sa (n g o len : Nat) (c : Option Nat) : (AV.sa n g o len c).cellsOf = some [.sa n g o len c] := (rfl)
@[simp] theorem cellsOf_pe (n g c : Nat) : (AV.pe n g c).cellsOf = some [.pe n g c] := (rfl)
@[simp] theorem cellsOf_yf (n : Nat) : (AV.yf n).cellsOf = some [.yf n] := (rfl)
def consO : Option PV → Option (List PV) → Option (List PV)
  | some p, some l => some (p :: l)
  | _, _ => none
@[simp] theorem consO_some (p : PV) (l : List PV) : consO (some p) (some l) = some (p :: l) := (rfl)
@[simp] theorem consO_none (l : Option (List PV)) : consO none l = none := (rfl)
@[simp] theorem consO_none2 (p : PV) : consO (some p) none = none := (rfl)
@[simp] theorem allPV_nil (ob : Obs) : allPV ob [] = some [] := (rfl)
@[simp] theorem allPV_cons (ob : Obs) (v : AV) (r : List AV) : allPV ob (v :: r) = consO (v.toPV ob) (allPV ob r) := by
  simp only [allPV, consO]
  cases v.toPV ob <;> cases allPV ob r <;> rfl
def aggSel : Option (List PV) → List AV → AV
  | some l, _ => .pv (.agg l)
  | none, cs => .ag cs
@[simp] theorem aggSel_some (l : List PV) (cs : List AV) : aggSel (some l) cs = .pv (.agg l) := (rfl)
@[simp] theorem aggSel_none (cs : List AV) : aggSel none cs = .ag cs := (rfl)
@[simp] theorem aggOf_eq (ob : Obs) (cs : List AV) : aggOf ob cs = aggSel (allPV ob cs) cs := by
  simp only [aggOf, aggSel]
  cases allPV ob cs <;> rfl

section
variable (d k : Nat) (r : List It) (Q : MExit → St → Prop) (l : List (Nat × AV)) (os : List (Nat × Ob)) (x y : Opd)

theorem fin_eq (ob : Obs) (v : AV) : contQ X r Q .normal (St.put ⟨look l, ob⟩ (some d) v) = Run X r Q ⟨look (setk l d v), ob⟩ := by rw [put_mk]; rfl

theorem val_ev : x.ev (look l) = x.val l := by cases x <;> rfl

@[simp] theorem op_mv : OpR X (some d) (.mv x) r Q l os = Run X r Q (mk (setk l d (x.val l)) os) := by
  simp only [OpR, mop, fin_eq, val_ev]; rfl

/-! Operations by what they look at. -/
def LenR (X : Ctx) (d : Nat) (s : Bool) (v : AV) (r : List It) (Q : MExit → St → Prop) (l : List (Nat × AV)) (os : List (Nat × Ob)) : Prop := OpR X (some d) (.len s (.v v)) r Q l os
@[simp] theorem op_len (s : Bool) : OpR X (some d) (.len s x) r Q l os = LenR X d s (x.val l) r Q l os := by
  simp only [LenR, OpR, mop, val_ev]; rfl
@[simp] theorem len_str (s : Bool) (a : Str) : LenR X d s (.pv (.str a)) r Q l os = (s = true ∧ Run X r Q (mk (setk l d (.pv (.int .i64 a.length))) os)) := by
  simp only [LenR, OpR, mop, Opd.ev, fin_eq]; rfl
@[simp] theorem len_sl (s : Bool) (c : Option Nat) (es : List PV) : LenR X d s (.pv (.sl c es)) r Q l os = (s = false ∧ Run X r Q (mk (setk l d (.pv (.int .i64 es.length))) os)) := by
  simp only [LenR, OpR, mop, Opd.ev, fin_eq]; rfl
@[simp] theorem len_rs (s : Bool) (n m : Nat) : LenR X d s (.rs n m) r Q l os = (s = false ∧ Run X r Q (mk (setk l d (.pv (.int .i64 m))) os)) := by
  simp only [LenR, OpR, mop, Opd.ev, fin_eq]; rfl

def PickR (X : Ctx) (d : Nat) (c v w : AV) (r : List It) (Q : MExit → St → Prop) (l : List (Nat × AV)) (os : List (Nat × Ob)) : Prop := OpR X (some d) (.pick (.v c) (.v v) (.v w)) r Q l os
@[simp] theorem op_pick (c : Opd) : OpR X (some d) (.pick c x y) r Q l os = PickR X d (c.val l) (x.val l) (y.val l) r Q l os := by
  simp only [PickR, OpR, mop, val_ev]; rfl
@[simp] theorem pick_bool (t : Bool) (v w : AV) : PickR X d (.pv (.bool t)) v w r Q l os = ((t = true → Run X r Q (mk (setk l d v) os)) ∧ (t = false → Run X r Q (mk (setk l d w) os))) := by
  simp only [PickR, OpR, mop, Opd.ev, fin_eq]; rfl

def BinR (X : Ctx) (d : Nat) (op : BinOp) (pl : List Nat) (v w : AV) (r : List It) (Q : MExit → St → Prop) (l : List (Nat × AV)) (os : List (Nat × Ob)) : Prop := OpR X (some d) (.bin op pl (.v v) (.v w)) r Q l os
@[simp] theorem op_bin (op : BinOp) (pl : List Nat) : OpR X (some d) (.bin op pl x y) r Q l os = BinR X d op pl (x.val l) (y.val l) r Q l os := by
  simp only [BinR, OpR, mop, val_ev]; rfl

abbrev to (X : Ctx) (d : Nat) (r : List It) (Q : MExit → St → Prop) (l : List (Nat × AV)) (os : List (Nat × Ob)) (p : PV) : Prop := Run X r Q (mk (setk l d (.pv p)) os)

theorem bin_int0 (op : BinOp) (pl : List Nat) (k k' : IntKind) (a b : Int) : BinR X d op pl (.pv (.int k a)) (.pv (.int k' b)) r Q l os = (k = k' ∧ intBin op k a b (to X d r Q l os)) := by
  simp only [BinR, OpR, mop, Opd.ev, binW, fin_eq]; rfl
@[simp] theorem bin_add (pl : List Nat) (k : IntKind) (a b : Int) : BinR X d .add pl (.pv (.int k a)) (.pv (.int k b)) r Q l os = (inR k (a + b) ∧ to X d r Q l os (.int k (a + b))) := by simp [bin_int0, intBin]
@[simp] theorem bin_sub (pl : List Nat) (k : IntKind) (a b : Int) : BinR X d .sub pl (.pv (.int k a)) (.pv (.int k b)) r Q l os = (inR k (a - b) ∧ to X d r Q l os (.int k (a - b))) := by simp [bin_int0, intBin]
@[simp] theorem bin_mul (pl : List Nat) (k : IntKind) (a b : Int) : BinR X d .mul pl (.pv (.int k a)) (.pv (.int k b)) r Q l os = (inR k (a * b) ∧ to X d r Q l os (.int k (a * b))) := by simp [bin_int0, intBin]
@[simp] theorem bin_quo (pl : List Nat) (k : IntKind) (a b : Int) : BinR X d .quo pl (.pv (.int k a)) (.pv (.int k b)) r Q l os = (0 ≤ a ∧ 0 < b ∧ inR k a ∧ to X d r Q l os (.int k (a / b))) := by simp [bin_int0, intBin]
@[simp] theorem bin_rem (pl : List Nat) (k : IntKind) (a b : Int) : BinR X d .rem pl (.pv (.int k a)) (.pv (.int k b)) r Q l os = (0 ≤ a ∧ 0 < b ∧ to X d r Q l os (.int k (a % b))) := by simp [bin_int0, intBin]
@[simp] theorem bin_eql (pl : List Nat) (k : IntKind) (a b : Int) : BinR X d .eql pl (.pv (.int k a)) (.pv (.int k b)) r Q l os = to X d r Q l os (.bool (decide (a = b))) := by simp [bin_int0, intBin]
@[simp] theorem bin_neq (pl : List Nat) (k : IntKind) (a b : Int) : BinR X d .neq pl (.pv (.int k a)) (.pv (.int k b)) r Q l os = to X d r Q l os (.bool (decide (a ≠ b))) := by simp [bin_int0, intBin]
@[simp] theorem bin_lss (pl : List Nat) (k : IntKind) (a b : Int) : BinR X d .lss pl (.pv (.int k a)) (.pv (.int k b)) r Q l os = to X d r Q l os (.bool (decide (a < b))) := by simp [bin_int0, intBin]
@[simp] theorem bin_leq (pl : List Nat) (k : IntKind) (a b : Int) : BinR X d .leq pl (.pv (.int k a)) (.pv (.int k b)) r Q l os = to X d r Q l os (.bool (decide (a ≤ b))) := by simp [bin_int0, intBin]
@[simp] theorem bin_gtr (pl : List Nat) (k : IntKind) (a b : Int) : BinR X d .gtr pl (.pv (.int k a)) (.pv (.int k b)) r Q l os = to X d r Q l os (.bool (decide (b < a))) := by simp [bin_int0, intBin]
@[simp] theorem bin_geq (pl : List Nat) (k : IntKind) (a b : Int) : BinR X d .geq pl (.pv (.int k a)) (.pv (.int k b)) r Q l os = to X d r Q l os (.bool (decide (b ≤ a))) := by simp [bin_int0, intBin]

theorem bin_str0 (op : BinOp) (pl : List Nat) (a b : Str) : BinR X d op pl (.pv (.str a)) (.pv (.str b)) r Q l os = strBin op a b (to X d r Q l os) := by
  simp only [BinR, OpR, mop, Opd.ev, binW, fin_eq]; rfl
@[simp] theorem bin_sadd (pl : List Nat) (a b : Str) : BinR X d .add pl (.pv (.str a)) (.pv (.str b)) r Q l os = (a.length + b.length ≤ big ∧ to X d r Q l os (.str (a ++ b))) := by simp [bin_str0, strBin]
@[simp] theorem bin_seql (pl : List Nat) (a b : Str) : BinR X d .eql pl (.pv (.str a)) (.pv (.str b)) r Q l os = to X d r Q l os (.bool (a == b)) := by simp [bin_str0, strBin]
@[simp] theorem bin_sneq (pl : List Nat) (a b : Str) : BinR X d .neq pl (.pv (.str a)) (.pv (.str b)) r Q l os = to X d r Q l os (.bool !(a == b)) := by simp [bin_str0, strBin]
@[simp] theorem bin_slss (pl : List Nat) (a b : Str) : BinR X d .lss pl (.pv (.str a)) (.pv (.str b)) r Q l os = to X d r Q l os (.bool (Op.bytesLess a b)) := by simp [bin_str0, strBin]
@[simp] theorem bin_sgtr (pl : List Nat) (a b : Str) : BinR X d .gtr pl (.pv (.str a)) (.pv (.str b)) r Q l os = to X d r Q l os (.bool !(Op.bytesLess a b || a == b)) := by simp [bin_str0, strBin]
@[simp] theorem bin_sleq (pl : List Nat) (a b : Str) : BinR X d .leq pl (.pv (.str a)) (.pv (.str b)) r Q l os = to X d r Q l os (.bool (Op.bytesLess a b || a == b)) := by simp [bin_str0, strBin]
@[simp] theorem bin_sgeq (pl : List Nat) (a b : Str) : BinR X d .geq pl (.pv (.str a)) (.pv (.str b)) r Q l os = to X d r Q l os (.bool !(Op.bytesLess a b)) := by simp [bin_str0, strBin]

def EqR (X : Ctx) (d : Nat) (neg : Bool) (v : Option Bool) (r : List It) (Q : MExit → St → Prop) (l : List (Nat × AV)) (os : List (Nat × Ob)) : Prop := match v with
  | some b => to X d r Q l os (.bool (if neg then !b else b))
  | none => False
@[simp] theorem eqR_eql (b : Bool) : EqR X d false (some b) r Q l os = to X d r Q l os (.bool b) := (rfl)
@[simp] theorem eqR_neq (b : Bool) : EqR X d true (some b) r Q l os = to X d r Q l os (.bool !b) := (rfl)
@[simp] theorem bin_beql (a b : Bool) : BinR X d .eql [3] (.pv (.bool a)) (.pv (.bool b)) r Q l os = to X d r Q l os (.bool (a == b)) := by
  simp only [BinR, OpR, mop, Opd.ev, binW, fin_eq, eqBin, true_and]; rfl
@[simp] theorem bin_bneq (a b : Bool) : BinR X d .neq [3] (.pv (.bool a)) (.pv (.bool b)) r Q l os = to X d r Q l os (.bool !(a == b)) := by
  simp only [BinR, OpR, mop, Opd.ev, binW, fin_eq, eqBin, true_and]; rfl
@[simp] theorem bin_aeql (n : Nat) (ns : List Nat) (a b : List PV) : BinR X d .eql (n :: ns) (.pv (.agg a)) (.pv (.agg b)) r Q l os = EqR X d false (cellsEq (n :: ns) a b) r Q l os := by
  simp only [BinR, OpR, mop, Opd.ev, binW, fin_eq, eqBin, ne_eq, reduceCtorEq, not_false_eq_true, true_and]
  cases cellsEq (n :: ns) a b <;> rfl
@[simp] theorem bin_aneq (n : Nat) (ns : List Nat) (a b : List PV) : BinR X d .neq (n :: ns) (.pv (.agg a)) (.pv (.agg b)) r Q l os = EqR X d true (cellsEq (n :: ns) a b) r Q l os := by
  simp only [BinR, OpR, mop, Opd.ev, binW, fin_eq, eqBin, ne_eq, reduceCtorEq, not_false_eq_true, true_and]
  cases cellsEq (n :: ns) a b <;> rfl
attribute [simp] cellEq cellsEq

@[simp] theorem bin_nil_nil_eq : BinR X d .eql [4] (.pv (.lit (.pointer none))) (.pv (.lit (.pointer none))) r Q l os = to X d r Q l os (.bool true) := by
  simp only [BinR, OpR, mop, Opd.ev, binW, fin_eq, eqBin, true_and]; rfl
@[simp] theorem bin_nil_nil_ne : BinR X d .neq [4] (.pv (.lit (.pointer none))) (.pv (.lit (.pointer none))) r Q l os = to X d r Q l os (.bool false) := by
  simp only [BinR, OpR, mop, Opd.ev, binW, fin_eq, eqBin, true_and]; rfl
@[simp] theorem bin_ptr_nil_eq (n o : Nat) : BinR X d .eql [4] (.ptr n o) (.pv (.lit (.pointer none))) r Q l os = to X d r Q l os (.bool false) := by
  simp only [BinR, OpR, mop, Opd.ev, binW, fin_eq, eqBin, true_and]; rfl
@[simp] theorem bin_ptr_nil_ne (n o : Nat) : BinR X d .neq [4] (.ptr n o) (.pv (.lit (.pointer none))) r Q l os = to X d r Q l os (.bool true) := by
  simp only [BinR, OpR, mop, Opd.ev, binW, fin_eq, eqBin, true_and]; rfl
@[simp] theorem bin_ptr_eq (n o : Nat) : BinR X d .eql [4] (.ptr n o) (.ptr n o) r Q l os = to X d r Q l os (.bool true) := by
  simp only [BinR, OpR, mop, Opd.ev, binW, fin_eq, eqBin, true_and]; rfl
@[simp] theorem bin_ptr_ne (n o : Nat) : BinR X d .neq [4] (.ptr n o) (.ptr n o) r Q l os = to X d r Q l os (.bool false) := by
  simp only [BinR, OpR, mop, Opd.ev, binW, fin_eq, eqBin, true_and]; rfl

def NotR (X : Ctx) (d : Nat) (v : AV) (r : List It) (Q : MExit → St → Prop) (l : List (Nat × AV)) (os : List (Nat × Ob)) : Prop := OpR X (some d) (.not (.v v)) r Q l os
@[simp] theorem op_not : OpR X (some d) (.not x) r Q l os = NotR X d (x.val l) r Q l os := by simp only [NotR, OpR, mop, val_ev]; rfl
@[simp] theorem not_bool (b : Bool) : NotR X d (.pv (.bool b)) r Q l os = to X d r Q l os (.bool !b) := by simp only [NotR, OpR, mop, Opd.ev, fin_eq]; rfl
def NegR (X : Ctx) (d : Nat) (v : AV) (r : List It) (Q : MExit → St → Prop) (l : List (Nat × AV)) (os : List (Nat × Ob)) : Prop := OpR X (some d) (.neg (.v v)) r Q l os
@[simp] theorem op_neg : OpR X (some d) (.neg x) r Q l os = NegR X d (x.val l) r Q l os := by simp only [NegR, OpR, mop, val_ev]; rfl
@[simp] theorem neg_int (k : IntKind) (a : Int) : NegR X d (.pv (.int k a)) r Q l os = (inR k (-a) ∧ to X d r Q l os (.int k (-a))) := by simp only [NegR, OpR, mop, Opd.ev, fin_eq]; rfl
def ConvR (X : Ctx) (d : Nat) (k : IntKind) (v : AV) (r : List It) (Q : MExit → St → Prop) (l : List (Nat × AV)) (os : List (Nat × Ob)) : Prop := OpR X (some d) (.conv k (.v v)) r Q l os
@[simp] theorem op_conv (k : IntKind) : OpR X (some d) (.conv k x) r Q l os = ConvR X d k (x.val l) r Q l os := by simp only [ConvR, OpR, mop, val_ev]; rfl
@[simp] theorem conv_int (k k' : IntKind) (a : Int) : ConvR X d k (.pv (.int k' a)) r Q l os = (inR k a ∧ to X d r Q l os (.int k a)) := by simp only [ConvR, OpR, mop, Opd.ev, fin_eq]; rfl

def FadrR (X : Ctx) (d off : Nat) (v : AV) (r : List It) (Q : MExit → St → Prop) (l : List (Nat × AV)) (os : List (Nat × Ob)) : Prop := OpR X (some d) (.fadr off (.v v)) r Q l os
@[simp] theorem op_fadr (off : Nat) : OpR X (some d) (.fadr off x) r Q l os = FadrR X d off (x.val l) r Q l os := by simp only [FadrR, OpR, mop, val_ev]; rfl
@[simp] theorem fadr_ptr (off n o : Nat) : FadrR X d off (.ptr n o) r Q l os = Run X r Q (mk (setk l d (.ptr n (o + off))) os) := by simp only [FadrR, OpR, mop, Opd.ev, fin_eq]; rfl
@[simp] theorem fadr_rp (off : Nat) (ps : List PV) (o : Nat) : FadrR X d off (.pv (.rp ps o)) r Q l os = to X d r Q l os (.rp ps (o + off)) := by simp only [FadrR, OpR, mop, Opd.ev, fin_eq]; rfl
def NilR (X : Ctx) (d : Nat) (v : AV) (r : List It) (Q : MExit → St → Prop) (l : List (Nat × AV)) (os : List (Nat × Ob)) : Prop := OpR X (some d) (.nilck (.v v)) r Q l os
@[simp] theorem op_nilck : OpR X (some d) (.nilck x) r Q l os = NilR X d (x.val l) r Q l os := by simp only [NilR, OpR, mop, val_ev]; rfl
@[simp] theorem nil_ptr (n o : Nat) : NilR X d (.ptr n o) r Q l os = Run X r Q (mk (setk l d (.ptr n o)) os) := by simp only [NilR, OpR, mop, Opd.ev, fin_eq]; rfl
@[simp] theorem nil_rp (ps : List PV) (o : Nat) : NilR X d (.pv (.rp ps o)) r Q l os = to X d r Q l os (.rp ps o) := by simp only [NilR, OpR, mop, Opd.ev, fin_eq]; rfl
@[simp] theorem nil_fnv (f : FuncId) : NilR X d (.pv (.fnv f)) r Q l os = to X d r Q l os (.fnv f) := by simp only [NilR, OpR, mop, Opd.ev, fin_eq]; rfl
@[simp] theorem nil_fn (f : FuncId) (c : List AV) : NilR X d (.fn f c) r Q l os = Run X r Q (mk (setk l d (.fn f c)) os) := by simp only [NilR, OpR, mop, Opd.ev, fin_eq]; rfl

/-- One cell. -/
def CellR (X : Ctx) (d : Nat) (v : Option PV) (r : List It) (Q : MExit → St → Prop) (l : List (Nat × AV)) (os : List (Nat × Ob)) : Prop := match v with
  | some p => to X d r Q l os p
  | none => False
@[simp] theorem cellR_some (p : PV) : CellR X d (some p) r Q l os = to X d r Q l os p := (rfl)
def CellA (X : Ctx) (d : Nat) (v : Option AV) (r : List It) (Q : MExit → St → Prop) (l : List (Nat × AV)) (os : List (Nat × Ob)) : Prop := match v with
  | some p => Run X r Q (mk (setk l d p) os)
  | none => False
@[simp] theorem cellA_some (p : AV) : CellA X d (some p) r Q l os = Run X r Q (mk (setk l d p) os) := (rfl)

def LoadR (X : Ctx) (d : Nat) (g : Bool) (s : Nat) (v : AV) (r : List It) (Q : MExit → St → Prop) (l : List (Nat × AV)) (os : List (Nat × Ob)) : Prop := OpR X (some d) (.load g s (.v v)) r Q l os
@[simp] theorem op_load (g : Bool) (s : Nat) : OpR X (some d) (.load g s x) r Q l os = LoadR X d g s (x.val l) r Q l os := by simp only [LoadR, OpR, mop, val_ev]; rfl
@[simp] theorem load_rpA (s : Nat) (ps : List PV) (o : Nat) : LoadR X d true s (.pv (.rp ps o)) r Q l os = (o + s ≤ ps.length ∧ to X d r Q l os (.agg ((ps.drop o).take s))) := by
  simp only [LoadR, OpR, mop, Opd.ev, fin_eq, if_true]; rfl
@[simp] theorem load_rp1 (s : Nat) (ps : List PV) (o : Nat) : LoadR X d false s (.pv (.rp ps o)) r Q l os = CellR X d ps[o]? r Q l os := by
  simp only [LoadR, OpR, mop, Opd.ev, fin_eq, Bool.false_eq_true, if_false]
  cases ps[o]? <;> simp [CellR, to, mk]
def BoxA (X : Ctx) (d s o : Nat) (b : Option Ob) (r : List It) (Q : MExit → St → Prop) (l : List (Nat × AV)) (os : List (Nat × Ob)) : Prop := match b with
  | some (.box _ cs) => o + s ≤ cs.length ∧ Run X r Q (mk (setk l d (aggOf (lookO os) ((cs.drop o).take s))) os)
  | _ => False
def Box1 (X : Ctx) (d o : Nat) (b : Option Ob) (r : List It) (Q : MExit → St → Prop) (l : List (Nat × AV)) (os : List (Nat × Ob)) : Prop := match b with
  | some (.box _ cs) => CellA X d cs[o]? r Q l os
  | _ => False
@[simp] theorem boxA_box (s o : Nat) (t : TypeId) (cs : List AV) : BoxA X d s o (some (.box t cs)) r Q l os = (o + s ≤ cs.length ∧ Run X r Q (mk (setk l d (aggOf (lookO os) ((cs.drop o).take s))) os)) := (rfl)
@[simp] theorem box1_box (o : Nat) (t : TypeId) (cs : List AV) : Box1 X d o (some (.box t cs)) r Q l os = CellA X d cs[o]? r Q l os := (rfl)
@[simp] theorem load_ptrA (s n o : Nat) : LoadR X d true s (.ptr n o) r Q l os = BoxA X d s o (lookO os n) r Q l os := by
  simp only [LoadR, OpR, mop, Opd.ev, fin_eq, if_true]
  unfold BoxA
  split
  · rename_i cs h
    simp only [h]; rfl
  · rename_i h
    split
    · rename_i t cs h'; exact absurd h' (h t cs)
    · rfl
@[simp] theorem load_ptr1 (s n o : Nat) : LoadR X d false s (.ptr n o) r Q l os = Box1 X d o (lookO os n) r Q l os := by
  simp only [LoadR, OpR, mop, Opd.ev, fin_eq, Bool.false_eq_true, if_false]
  unfold Box1
  split
  · rename_i cs h
    simp only [h]
    cases cs[o]? <;> simp [CellA, mk]
  · rename_i h
    split
    · rename_i t cs h'; exact absurd h' (h t cs)
    · rfl
attribute [simp] to

def FldR (X : Ctx) (d : Nat) (g : Bool) (o s : Nat) (v : AV) (r : List It) (Q : MExit → St → Prop) (l : List (Nat × AV)) (os : List (Nat × Ob)) : Prop := OpR X (some d) (.fld g o s (.v v)) r Q l os
@[simp] theorem op_fld (g : Bool) (o s : Nat) : OpR X (some d) (.fld g o s x) r Q l os = FldR X d g o s (x.val l) r Q l os := by simp only [FldR, OpR, mop, val_ev]; rfl
@[simp] theorem fld_A (s : Nat) (cs : List PV) (o : Nat) : FldR X d true o s (.pv (.agg cs)) r Q l os = (o + s ≤ cs.length ∧ to X d r Q l os (.agg ((cs.drop o).take s))) := by
  simp only [FldR, OpR, mop, Opd.ev, fin_eq, if_true]; rfl
@[simp] theorem fld_1 (s : Nat) (cs : List PV) (o : Nat) : FldR X d false o s (.pv (.agg cs)) r Q l os = CellR X d cs[o]? r Q l os := by
  simp only [FldR, OpR, mop, Opd.ev, fin_eq, Bool.false_eq_true, if_false]
  cases cs[o]? <;> simp [CellR, to, mk]

def ElemR (X : Ctx) (d sz : Nat) (e : Option PV) (r : List It) (Q : MExit → St → Prop) (l : List (Nat × AV)) (os : List (Nat × Ob)) : Prop := match e with
  | some e => e.cells.length = sz ∧ to X d r Q l os (.rp e.cells 0)
  | none => False
@[simp] theorem elemR_some (sz : Nat) (e : PV) : ElemR X d sz (some e) r Q l os = (e.cells.length = sz ∧ to X d r Q l os (.rp e.cells 0)) := (rfl)
def IadrR (X : Ctx) (d sz : Nat) (v i : AV) (r : List It) (Q : MExit → St → Prop) (l : List (Nat × AV)) (os : List (Nat × Ob)) : Prop := OpR X (some d) (.iadr sz (.v v) (.v i)) r Q l os
@[simp] theorem op_iadr (sz : Nat) : OpR X (some d) (.iadr sz x y) r Q l os = IadrR X d sz (frz os (x.val l)) (y.val l) r Q l os := by
  simp only [IadrR, OpR, mop, val_ev, val_v, toPV_frz]
@[simp] theorem iadr_sl (sz : Nat) (c : Option Nat) (es : List PV) (k : IntKind) (n : Int) : IadrR X d sz (.pv (.sl c es)) (.pv (.int k n)) r Q l os = (0 ≤ n ∧ ElemR X d sz es[n.toNat]? r Q l os) := by
  simp only [IadrR, OpR, mop, Opd.ev, toPV_pv, fin_eq]
  cases es[n.toNat]? <;> simp [ElemR, to, mk]
@[simp] theorem frz_rs (n len : Nat) : frz os (.rs n len) = frzR (lookO os n) n len := (rfl)
@[simp] theorem frz_pv (p : PV) : frz os (.pv p) = .pv p := (rfl)
@[simp] theorem frz_rh (n o : Nat) : frz os (.rh n o) = .rh n o := (rfl)
@[simp] theorem frz_ptr (n o : Nat) : frz os (.ptr n o) = .ptr n o := (rfl)
@[simp] theorem frz_sa (n g o len : Nat) (c : Option Nat) : frz os (.sa n g o len c) = .sa n g o len c := (rfl)
@[simp] theorem frzR_row (n len : Nat) (t : TypeId) (sz : Nat) (es : List PV) : frzR (some (.row t sz es)) n len = .pv (.sl none (es.take len)) := (rfl)

def ByteR (X : Ctx) (d : Nat) (e : Option UInt8) (r : List It) (Q : MExit → St → Prop) (l : List (Nat × AV)) (os : List (Nat × Ob)) : Prop := match e with
  | some c => to X d r Q l os (.int .u8 c.toNat)
  | none => False
@[simp] theorem byteR_some (c : UInt8) : ByteR X d (some c) r Q l os = to X d r Q l os (.int .u8 c.toNat) := (rfl)
def IdxR (X : Ctx) (d : Nat) (v i : AV) (r : List It) (Q : MExit → St → Prop) (l : List (Nat × AV)) (os : List (Nat × Ob)) : Prop := OpR X (some d) (.idx (.v v) (.v i)) r Q l os
@[simp] theorem op_idx : OpR X (some d) (.idx x y) r Q l os = IdxR X d (x.val l) (y.val l) r Q l os := by simp only [IdxR, OpR, mop, val_ev]; rfl
@[simp] theorem idx_str (a : Str) (k : IntKind) (n : Int) : IdxR X d (.pv (.str a)) (.pv (.int k n)) r Q l os = (0 ≤ n ∧ ByteR X d a[n.toNat]? r Q l os) := by
  simp only [IdxR, OpR, mop, Opd.ev, fin_eq]
  cases a[n.toNat]? <;> simp [ByteR, to, mk]

def ExtR (X : Ctx) (d i : Nat) (v : AV) (r : List It) (Q : MExit → St → Prop) (l : List (Nat × AV)) (os : List (Nat × Ob)) : Prop := OpR X (some d) (.ext (.v v) i) r Q l os
@[simp] theorem op_ext (i : Nat) : OpR X (some d) (.ext x i) r Q l os = ExtR X d i (x.val l) r Q l os := by simp only [ExtR, OpR, mop, val_ev]; rfl
@[simp] theorem ext_tup (i : Nat) (vs : List AV) : ExtR X d i (.tup vs) r Q l os = CellA X d vs[i]? r Q l os := by
  simp only [ExtR, OpR, mop, Opd.ev, fin_eq]
  cases vs[i]? <;> simp [CellA, mk]


/-! Building. -/
def buildV : List AV → List (Nat × Nat × AV) → Option (List AV)
  | z, [] => some z
  | z, (o, n, v) :: r => match v.cellsOf with
    | some cs => if cs.length = n ∧ o + n ≤ z.length then buildV (splice z o cs) r else none
    | none => none
def BuiltR (X : Ctx) (d : Nat) (v : Option (List AV)) (r : List It) (Q : MExit → St → Prop) (l : List (Nat × AV)) (os : List (Nat × Ob)) : Prop := match v with
  | some cs => Run X r Q (mk (setk l d (aggOf (lookO os) cs)) os)
  | none => False
@[simp] theorem builtR_some (cs : List AV) : BuiltR X d (some cs) r Q l os = Run X r Q (mk (setk l d (aggOf (lookO os) cs)) os) := (rfl)
theorem buildW_V : ∀ (ps : List (Nat × Nat × Opd)) (z : List AV), buildW z ps (look l) = buildV z (ps.map fun p => (p.1, p.2.1, p.2.2.val l))
  | [], z => rfl
  | (o, n, x) :: ps, z => by
    simp only [buildW, List.map_cons, buildV, val_ev]
    cases (x.val l).cellsOf with
    | none => rfl
    | some cs =>
      simp only
      split
      · exact buildW_V ps _
      · rfl
@[simp] theorem op_build (z : List PV) (ps : List (Nat × Nat × Opd)) : OpR X (some d) (.build z ps) r Q l os = BuiltR X d (buildV (z.map .pv) (ps.map fun p => (p.1, p.2.1, p.2.2.val l))) r Q l os := by
  simp only [OpR, mop, buildW_V, fin_eq]
  cases buildV (z.map .pv) (ps.map fun p => (p.1, p.2.1, p.2.2.val l)) <;> rfl
def buildC (z : List AV) (o n : Nat) (c : Option (List AV)) (r : List (Nat × Nat × AV)) : Option (List AV) := match c with
  | some cs => if cs.length = n ∧ o + n ≤ z.length then buildV (splice z o cs) r else none
  | none => none
@[simp] theorem buildC_some (z : List AV) (o n : Nat) (cs : List AV) (r : List (Nat × Nat × AV)) : buildC z o n (some cs) r = if cs.length = n ∧ o + n ≤ z.length then buildV (splice z o cs) r else none := (rfl)
@[simp] theorem buildV_nil (z : List AV) : buildV z [] = some z := (rfl)
@[simp] theorem buildV_cons (z : List AV) (o n : Nat) (v : AV) (r : List (Nat × Nat × AV)) : buildV z ((o, n, v) :: r) = buildC z o n v.cellsOf r := (rfl)
attribute [simp] splice

def elemsV (ob : Obs) (sz : Nat) : List PV → List (Nat × AV) → Option (List PV)
  | z, [] => some z
  | z, (i, v) :: r => match v.toPV ob with
    | some p => if p.cells.length = sz ∧ i < z.length then elemsV ob sz (z.set i p) r else none
    | none => none
def SlR (X : Ctx) (d len : Nat) (v : Option (List PV)) (r : List It) (Q : MExit → St → Prop) (l : List (Nat × AV)) (os : List (Nat × Ob)) : Prop := match v with
  | some es => to X d r Q l os (.sl (some len) es)
  | none => False
@[simp] theorem slR_some (len : Nat) (es : List PV) : SlR X d len (some es) r Q l os = to X d r Q l os (.sl (some len) es) := (rfl)
theorem elemsW_V (sz : Nat) : ∀ (ps : List (Nat × Opd)) (z : List PV), elemsW (lookO os) sz z ps (look l) = elemsV (lookO os) sz z (ps.map fun p => (p.1, p.2.val l))
  | [], z => rfl
  | (i, x) :: ps, z => by
    simp only [elemsW, List.map_cons, elemsV, val_ev]
    cases (x.val l).toPV (lookO os) with
    | none => rfl
    | some p =>
      simp only
      split
      · exact elemsW_V sz ps _
      · rfl
@[simp] theorem op_bsl (sz : Nat) (z : PV) (len : Nat) (ps : List (Nat × Opd)) : OpR X (some d) (.bsl sz z len ps) r Q l os = SlR X d len (elemsV (lookO os) sz (List.replicate len z) (ps.map fun p => (p.1, p.2.val l))) r Q l os := by
  simp only [OpR, mop, elemsW_V, fin_eq]
  cases elemsV (lookO os) sz (List.replicate len z) (ps.map fun p => (p.1, p.2.val l)) <;> rfl
def elemsC (ob : Obs) (sz : Nat) (z : List PV) (i : Nat) (c : Option PV) (r : List (Nat × AV)) : Option (List PV) := match c with
  | some p => if p.cells.length = sz ∧ i < z.length then elemsV ob sz (z.set i p) r else none
  | none => none
@[simp] theorem elemsC_some (ob : Obs) (sz : Nat) (z : List PV) (i : Nat) (p : PV) (r : List (Nat × AV)) : elemsC ob sz z i (some p) r = if p.cells.length = sz ∧ i < z.length then elemsV ob sz (z.set i p) r else none := (rfl)
@[simp] theorem elemsV_nil (ob : Obs) (sz : Nat) (z : List PV) : elemsV ob sz z [] = some z := (rfl)
@[simp] theorem elemsV_cons (ob : Obs) (sz : Nat) (z : List PV) (i : Nat) (v : AV) (r : List (Nat × AV)) : elemsV ob sz z ((i, v) :: r) = elemsC ob sz z i (v.toPV ob) r := (rfl)

theorem fin_ob (v : AV) (n : Nat) (o : Ob) : contQ X r Q .normal (St.put ⟨look l, upd (lookO os) n o⟩ (some d) v) = Run X r Q (mk (setk l d v) (setk os n o)) := by
  rw [put_mk]
  show contQ X r Q .normal _ = contQ X r Q .normal _
  simp only [mk, lookO_setk]

def BoxR (X : Ctx) (d : Nat) (t : TypeId) (cs : Option (List AV)) (r : List It) (Q : MExit → St → Prop) (l : List (Nat × AV)) (os : List (Nat × Ob)) : Prop := match cs with
  | some cs => lookO os d = none ∧ Run X r Q (mk (setk l d (.ptr d 0)) (setk os d (.box t cs)))
  | none => False
@[simp] theorem boxR_some (t : TypeId) (cs : List AV) : BoxR X d t (some cs) r Q l os = (lookO os d = none ∧ Run X r Q (mk (setk l d (.ptr d 0)) (setk os d (.box t cs)))) := (rfl)
@[simp] theorem op_box (t : TypeId) : OpR X (some d) (.box t x) r Q l os = BoxR X d t (x.val l).cellsOf r Q l os := by
  simp only [OpR, mop, val_ev, Option.getD_some]
  cases (x.val l).cellsOf with
  | none => rfl
  | some cs => simp only [fin_ob, boxR_some]
@[simp] theorem op_zero (t : TypeId) (cs : List PV) : OpR X (some d) (.zero t cs) r Q l os = (lookO os d = none ∧ Run X r Q (mk (setk l d (.ptr d 0)) (setk os d (.box t (cs.map .pv))))) := by
  simp only [OpR, mop, Option.getD_some, fin_ob]

def PutB (X : Ctx) (n off sz : Nat) (b : Option Ob) (vs : Option (List AV)) (r : List It) (Q : MExit → St → Prop) (l : List (Nat × AV)) (os : List (Nat × Ob)) : Prop := match b, vs with
  | some (.box t cs), some vs => vs.length = sz ∧ off + sz ≤ cs.length ∧ Run X r Q (mk l (setk os n (.box t (splice cs off vs))))
  | _, _ => False
@[simp] theorem putB_box (n off sz : Nat) (t : TypeId) (cs vs : List AV) : PutB X n off sz (some (.box t cs)) (some vs) r Q l os = (vs.length = sz ∧ off + sz ≤ cs.length ∧ Run X r Q (mk l (setk os n (.box t (splice cs off vs))))) := (rfl)
def StoreR (X : Ctx) (sz : Nat) (v u : AV) (r : List It) (Q : MExit → St → Prop) (l : List (Nat × AV)) (os : List (Nat × Ob)) : Prop := OpR X none (.store sz (.v v) (.v u)) r Q l os
@[simp] theorem op_store (sz : Nat) : OpR X none (.store sz x y) r Q l os = StoreR X sz (x.val l) (y.val l) r Q l os := by simp only [StoreR, OpR, mop, val_ev]; rfl
@[simp] theorem store_ptr (sz n off : Nat) (u : AV) : StoreR X sz (.ptr n off) u r Q l os = PutB X n off sz (lookO os n) u.cellsOf r Q l os := by
  simp only [StoreR, OpR, mop, Opd.ev]
  unfold PutB
  cases u.cellsOf with
  | none =>
    simp only
    split
    · rename_i h; exact absurd h (by simp)
    · rfl
  | some vs =>
    simp only
    cases lookO os n with
    | none => rfl
    | some o =>
      cases o with
      | box t cs =>
        simp only [St.put]
        show (_ ∧ _ ∧ contQ X r Q .normal _) = (_ ∧ _ ∧ contQ X r Q .normal _)
        simp only [mk, lookO_setk]
      | _ => rfl

/-! Slices. -/
def intOf : AV → Option Int
  | .pv (.int _ n) => some n
  | _ => none
@[simp] theorem intOf_int (k : IntKind) (n : Int) : intOf (.pv (.int k n)) = some n := (rfl)
def optV (l : List (Nat × AV)) (dflt : Int) : Option Opd → Option Int
  | none => some dflt
  | some x => intOf (x.val l)
@[simp] theorem optV_none (dflt : Int) : optV l dflt none = some dflt := (rfl)
@[simp] theorem optV_some (dflt : Int) : optV l dflt (some x) = intOf (x.val l) := (rfl)
theorem optI_V (dflt : Int) (x : Option Opd) : optI (look l) dflt x = optV l dflt x := by
  cases x with
  | none => rfl
  | some x =>
    simp only [optI, optV, val_ev]
    cases x.val l with
    | pv p => cases p <;> rfl
    | _ => rfl
def CutS (X : Ctx) (d : Nat) (a : Str) (lo hi : Option Int) (r : List It) (Q : MExit → St → Prop) (l : List (Nat × AV)) (os : List (Nat × Ob)) : Prop := match lo, hi with
  | some lo, some hi => 0 ≤ lo ∧ lo ≤ hi ∧ hi ≤ a.length ∧ to X d r Q l os (.str ((a.take hi.toNat).drop lo.toNat))
  | _, _ => False
@[simp] theorem cutS_some (a : Str) (lo hi : Int) : CutS X d a (some lo) (some hi) r Q l os = (0 ≤ lo ∧ lo ≤ hi ∧ hi ≤ a.length ∧ to X d r Q l os (.str ((a.take hi.toNat).drop lo.toNat))) := (rfl)
def CutR (X : Ctx) (d sz : Nat) (c : Option Nat) (es : List PV) (lo hi : Option Int) (mx : Option (Option Int)) (r : List It) (Q : MExit → St → Prop) (l : List (Nat × AV)) (os : List (Nat × Ob)) : Prop := match lo, hi, mx with
  | some lo, some hi, none => (∀ e ∈ es, e.cells.length = sz) ∧ 0 ≤ lo ∧ lo ≤ hi ∧ hi ≤ es.length ∧ to X d r Q l os (.sl (c.map (· - lo.toNat)) ((es.take hi.toNat).drop lo.toNat))
  | some lo, some hi, some (some m) => (∀ e ∈ es, e.cells.length = sz) ∧ 0 ≤ lo ∧ lo ≤ hi ∧ hi ≤ es.length ∧ hi ≤ m ∧ m ≤ es.length ∧ to X d r Q l os (.sl (some (m - lo).toNat) ((es.take hi.toNat).drop lo.toNat))
  | _, _, _ => False
@[simp] theorem cutR_2 (sz : Nat) (c : Option Nat) (es : List PV) (lo hi : Int) : CutR X d sz c es (some lo) (some hi) none r Q l os = ((∀ e ∈ es, e.cells.length = sz) ∧ 0 ≤ lo ∧ lo ≤ hi ∧ hi ≤ es.length ∧ to X d r Q l os (.sl (c.map (· - lo.toNat)) ((es.take hi.toNat).drop lo.toNat))) := (rfl)
@[simp] theorem cutR_3 (sz : Nat) (c : Option Nat) (es : List PV) (lo hi m : Int) : CutR X d sz c es (some lo) (some hi) (some (some m)) r Q l os = ((∀ e ∈ es, e.cells.length = sz) ∧ 0 ≤ lo ∧ lo ≤ hi ∧ hi ≤ es.length ∧ hi ≤ m ∧ m ≤ es.length ∧ to X d r Q l os (.sl (some (m - lo).toNat) ((es.take hi.toNat).drop lo.toNat))) := (rfl)
def SlcR (X : Ctx) (d : Nat) (str : Bool) (sz : Nat) (v : AV) (lo hi mx : Option Opd) (r : List It) (Q : MExit → St → Prop) (l : List (Nat × AV)) (os : List (Nat × Ob)) : Prop := OpR X (some d) (.slc str sz (.v v) lo hi mx) r Q l os
@[simp] theorem op_slc (str : Bool) (sz : Nat) (lo hi mx : Option Opd) : OpR X (some d) (.slc str sz x lo hi mx) r Q l os = SlcR X d str sz (frz os (x.val l)) lo hi mx r Q l os := by
  simp only [SlcR, OpR, mop, val_ev, val_v, toPV_frz]
@[simp] theorem slc_str (str : Bool) (sz : Nat) (a : Str) (lo hi mx : Option Opd) : SlcR X d str sz (.pv (.str a)) lo hi mx r Q l os = (str = true ∧ CutS X d a (optV l 0 lo) (optV l a.length hi) r Q l os) := by
  simp only [SlcR, OpR, mop, Opd.ev, toPV_pv, optI_V, fin_eq, slcStr]
  cases optV l 0 lo <;> cases optV l a.length hi <;> rfl
def optM (l : List (Nat × AV)) : Option Opd → Option (Option Int)
  | none => none
  | some x => some (intOf (x.val l))
@[simp] theorem optM_none : optM l none = none := (rfl)
@[simp] theorem optM_some : optM l (some x) = some (intOf (x.val l)) := (rfl)
theorem and_rot {a b : Prop} (c : Prop) (h : a = b) : (c ∧ a) = (c ∧ b) := by rw [h]
@[simp] theorem slc_sl2 (str : Bool) (sz : Nat) (c : Option Nat) (es : List PV) (lo hi : Option Opd) : SlcR X d str sz (.pv (.sl c es)) lo hi none r Q l os = (str = false ∧ CutR X d sz c es (optV l 0 lo) (optV l es.length hi) none r Q l os) := by
  simp only [SlcR, OpR, mop, Opd.ev, toPV_pv, optI_V, fin_eq, slcRow]
  unfold CutR
  cases optV l 0 lo <;> cases optV l es.length hi <;> simp only [and_false] <;> rfl
@[simp] theorem slc_sl3 (str : Bool) (sz : Nat) (c : Option Nat) (es : List PV) (lo : Option Opd) (hi mx : Opd) : SlcR X d str sz (.pv (.sl c es)) lo (some hi) (some mx) r Q l os = (str = false ∧ CutR X d sz c es (optV l 0 lo) (intOf (hi.val l)) (some (intOf (mx.val l))) r Q l os) := by
  simp only [SlcR, OpR, mop, Opd.ev, toPV_pv, optI_V, fin_eq, slcRow, optV_some]
  unfold CutR
  cases optV l 0 lo <;> cases intOf (hi.val l) <;> cases intOf (mx.val l) <;> simp only [and_false, Option.isSome_some, true_and] <;> rfl

@[simp] theorem op_mkfn (f : FuncId) (xs : List Opd) : OpR X (some d) (.mkfn f xs) r Q l os = Run X r Q (mk (setk l d (.fn f (xs.map (Opd.val l)))) os) := by
  have : xs.map (Opd.ev (look l)) = xs.map (Opd.val l) := List.map_congr_left fun x _ => val_ev l x
  simp only [OpR, mop, fin_eq, this]; rfl

/-! Appending. -/
def AppR (X : Ctx) (d : Nat) (t : TypeId) (sz bytes : Nat) (v u : AV) (r : List It) (Q : MExit → St → Prop) (l : List (Nat × AV)) (os : List (Nat × Ob)) : Prop := OpR X (some d) (.app t sz bytes (.v v) (.v u)) r Q l os
@[simp] theorem op_app (t : TypeId) (sz bytes : Nat) : OpR X (some d) (.app t sz bytes x y) r Q l os = AppR X d t sz bytes (x.val l) (frz os (y.val l)) r Q l os := by
  simp only [AppR, OpR, mop, val_ev, val_v, toPV_frz]
@[simp] theorem app_sl (t : TypeId) (sz bytes : Nat) (c c2 : Option Nat) (es ys : List PV) : AppR X d t sz bytes (.pv (.sl c es)) (.pv (.sl c2 ys)) r Q l os = ((∀ e ∈ ys, e.cells.length = sz) ∧ c = some es.length ∧ (es = [] ∨ ys ≠ []) ∧ lookO os d = none ∧ (∀ e ∈ es, e.cells.length = sz) ∧ (es.length + ys.length) * bytes ≤ big ∧
    Run X r Q (mk (setk l d (.rs d (es.length + ys.length))) (setk os d (.row t sz (es ++ ys))))) := by
  simp only [AppR, OpR, mop, Opd.ev, toPV_pv, Option.getD_some, fin_ob]
def RowR (X : Ctx) (d : Nat) (t : TypeId) (sz bytes n len : Nat) (b : Option Ob) (ys : List PV) (r : List It) (Q : MExit → St → Prop) (l : List (Nat × AV)) (os : List (Nat × Ob)) : Prop := match b with
  | some (.row t' sz' es) => t' = t ∧ sz' = sz ∧ len = es.length ∧ (es.length + ys.length) * bytes ≤ big ∧ Run X r Q (mk (setk l d (.rs n (es.length + ys.length))) (setk os n (.row t sz (es ++ ys))))
  | _ => False
@[simp] theorem rowR_row (t t' : TypeId) (sz bytes n len sz' : Nat) (es ys : List PV) : RowR X d t sz bytes n len (some (.row t' sz' es)) ys r Q l os = (t' = t ∧ sz' = sz ∧ len = es.length ∧ (es.length + ys.length) * bytes ≤ big ∧ Run X r Q (mk (setk l d (.rs n (es.length + ys.length))) (setk os n (.row t sz (es ++ ys))))) := (rfl)
@[simp] theorem app_rs (t : TypeId) (sz bytes n len : Nat) (c2 : Option Nat) (ys : List PV) : AppR X d t sz bytes (.rs n len) (.pv (.sl c2 ys)) r Q l os = ((∀ e ∈ ys, e.cells.length = sz) ∧ RowR X d t sz bytes n len (lookO os n) ys r Q l os) := by
  simp only [AppR, OpR, mop, Opd.ev, toPV_pv, Option.getD_some]
  unfold RowR
  cases lookO os n with
  | none => rfl
  | some o => cases o <;> first | rfl | simp only [fin_ob]

def AppS (X : Ctx) (d : Nat) (t : TypeId) (v u : AV) (r : List It) (Q : MExit → St → Prop) (l : List (Nat × AV)) (os : List (Nat × Ob)) : Prop := OpR X (some d) (.apps t (.v v) (.v u)) r Q l os
@[simp] theorem op_apps (t : TypeId) : OpR X (some d) (.apps t x y) r Q l os = AppS X d t (x.val l) (y.val l) r Q l os := by
  simp only [AppS, OpR, mop, val_ev, val_v]
@[simp] theorem apps_sl (t : TypeId) (c : Option Nat) (es : List PV) (b : Str) : AppS X d t (.pv (.sl c es)) (.pv (.str b)) r Q l os = (c = some es.length ∧ (es = [] ∨ b ≠ []) ∧ lookO os d = none ∧ (∀ e ∈ es, e.cells.length = 1) ∧ es.length + b.length ≤ big ∧
    Run X r Q (mk (setk l d (.rs d (es.length + b.length))) (setk os d (.row t 1 (es ++ bytesP b))))) := by
  simp only [AppS, OpR, mop, Opd.ev, Option.getD_some, fin_ob]
def RowS (X : Ctx) (d : Nat) (t : TypeId) (n len : Nat) (b : Option Ob) (u : Str) (r : List It) (Q : MExit → St → Prop) (l : List (Nat × AV)) (os : List (Nat × Ob)) : Prop := match b with
  | some (.row t' sz' es) => t' = t ∧ sz' = 1 ∧ len = es.length ∧ es.length + u.length ≤ big ∧ Run X r Q (mk (setk l d (.rs n (es.length + u.length))) (setk os n (.row t 1 (es ++ bytesP u))))
  | _ => False
@[simp] theorem rowS_row (t t' : TypeId) (n len sz' : Nat) (es : List PV) (u : Str) : RowS X d t n len (some (.row t' sz' es)) u r Q l os = (t' = t ∧ sz' = 1 ∧ len = es.length ∧ es.length + u.length ≤ big ∧ Run X r Q (mk (setk l d (.rs n (es.length + u.length))) (setk os n (.row t 1 (es ++ bytesP u))))) := (rfl)
@[simp] theorem apps_rs (t : TypeId) (n len : Nat) (b : Str) : AppS X d t (.rs n len) (.pv (.str b)) r Q l os = RowS X d t n len (lookO os n) b r Q l os := by
  simp only [AppS, OpR, mop, Opd.ev, Option.getD_some]
  unfold RowS
  cases lookO os n with
  | none => rfl
  | some o => cases o <;> first | rfl | simp only [fin_ob]

def MinR (X : Ctx) (d : Nat) (b : Bool) (vs : List AV) (r : List It) (Q : MExit → St → Prop) (l : List (Nat × AV)) (os : List (Nat × Ob)) : Prop := OpR X (some d) (.minmax b (vs.map .v)) r Q l os
@[simp] theorem op_minmax (b : Bool) (xs : List Opd) : OpR X (some d) (.minmax b xs) r Q l os = MinR X d b (xs.map (Opd.val l)) r Q l os := by
  simp only [MinR, OpR, mop]
  match xs with
  | [] => rfl
  | [_] => rfl
  | [p, q] => simp only [minmaxW, List.map_cons, List.map_nil, val_ev, val_v]
  | _ :: _ :: _ :: _ => rfl
@[simp] theorem min_int (b : Bool) (k k' : IntKind) (m n : Int) : MinR X d b [.pv (.int k m), .pv (.int k' n)] r Q l os = (k = k' ∧ to X d r Q l os (.int k (if b then max m n else min m n))) := by
  simp only [MinR, OpR, mop, List.map_cons, List.map_nil, minmaxW, Opd.ev, fin_eq]; rfl

/-! Pointers without a type; a row of bytes as a text. -/
def ToU (X : Ctx) (d n o : Nat) (b : Option Ob) (r : List It) (Q : MExit → St → Prop) (l : List (Nat × AV)) (os : List (Nat × Ob)) : Prop := match b with
  | some (.box _ cs) => o < cs.length ∧ Run X r Q (mk (setk l d (.ptr n o)) os)
  | _ => False
@[simp] theorem toU_box (n o : Nat) (t : TypeId) (cs : List AV) : ToU X d n o (some (.box t cs)) r Q l os = (o < cs.length ∧ Run X r Q (mk (setk l d (.ptr n o)) os)) := (rfl)
def ToUR (X : Ctx) (d : Nat) (v : AV) (r : List It) (Q : MExit → St → Prop) (l : List (Nat × AV)) (os : List (Nat × Ob)) : Prop := OpR X (some d) (.toU (.v v)) r Q l os
@[simp] theorem op_toU : OpR X (some d) (.toU x) r Q l os = ToUR X d (x.val l) r Q l os := by simp only [ToUR, OpR, mop, val_ev]; rfl
@[simp] theorem toU_ptr (n o : Nat) : ToUR X d (.ptr n o) r Q l os = ToU X d n o (lookO os n) r Q l os := by
  simp only [ToUR, OpR, mop, Opd.ev]
  unfold ToU
  cases lookO os n with
  | none => rfl
  | some b => cases b <;> first | rfl | simp only [fin_eq]; rfl
def FrU (X : Ctx) (d : Nat) (t : TypeId) (nc n o : Nat) (b : Option Ob) (r : List It) (Q : MExit → St → Prop) (l : List (Nat × AV)) (os : List (Nat × Ob)) : Prop := match b with
  | some (.box t' cs) => t' = t ∧ o = 0 ∧ cs.length = nc ∧ Run X r Q (mk (setk l d (.ptr n o)) os)
  | _ => False
@[simp] theorem frU_box (t t' : TypeId) (nc n o : Nat) (cs : List AV) : FrU X d t nc n o (some (.box t' cs)) r Q l os = (t' = t ∧ o = 0 ∧ cs.length = nc ∧ Run X r Q (mk (setk l d (.ptr n o)) os)) := (rfl)
def FrUR (X : Ctx) (d : Nat) (t : TypeId) (nc : Nat) (v : AV) (r : List It) (Q : MExit → St → Prop) (l : List (Nat × AV)) (os : List (Nat × Ob)) : Prop := OpR X (some d) (.frU t nc (.v v)) r Q l os
@[simp] theorem op_frU (t : TypeId) (nc : Nat) : OpR X (some d) (.frU t nc x) r Q l os = FrUR X d t nc (x.val l) r Q l os := by simp only [FrUR, OpR, mop, val_ev]; rfl
@[simp] theorem frU_ptr (t : TypeId) (nc n o : Nat) : FrUR X d t nc (.ptr n o) r Q l os = FrU X d t nc n o (lookO os n) r Q l os := by
  simp only [FrUR, OpR, mop, Opd.ev]
  unfold FrU
  cases lookO os n with
  | none => rfl
  | some b => cases b <;> first | rfl | simp only [fin_eq]; rfl
def SdR (X : Ctx) (d n len : Nat) (b : Option Ob) (r : List It) (Q : MExit → St → Prop) (l : List (Nat × AV)) (os : List (Nat × Ob)) : Prop := match b with
  | some (.row _ _ es) => len = es.length ∧ 0 < len ∧ Run X r Q (mk (setk l d (.rh n len)) os)
  | _ => False
@[simp] theorem sdR_row (n len : Nat) (t : TypeId) (sz : Nat) (es : List PV) : SdR X d n len (some (.row t sz es)) r Q l os = (len = es.length ∧ 0 < len ∧ Run X r Q (mk (setk l d (.rh n len)) os)) := (rfl)
def SdatR (X : Ctx) (d : Nat) (v : AV) (r : List It) (Q : MExit → St → Prop) (l : List (Nat × AV)) (os : List (Nat × Ob)) : Prop := OpR X (some d) (.sdat (.v v)) r Q l os
@[simp] theorem op_sdat : OpR X (some d) (.sdat x) r Q l os = SdatR X d (x.val l) r Q l os := by simp only [SdatR, OpR, mop, val_ev]; rfl
@[simp] theorem sdat_rs (n len : Nat) : SdatR X d (.rs n len) r Q l os = SdR X d n len (lookO os n) r Q l os := by
  simp only [SdatR, OpR, mop, Opd.ev]
  unfold SdR
  cases lookO os n with
  | none => rfl
  | some b => cases b <;> first | rfl | simp only [fin_eq]; rfl
def UsR (X : Ctx) (d : Nat) (t : TypeId) (m : Int) (len : Nat) (b : Option Ob) (r : List It) (Q : MExit → St → Prop) (l : List (Nat × AV)) (os : List (Nat × Ob)) : Prop := ustrRow t m len b (to X d r Q l os)
theorem bytesP_length' (b : Str) : (bytesP b).length = b.length := by simp [bytesP]
theorem bytesP_inj' : ∀ {a b : Str}, bytesP a = bytesP b → a = b
  | [], [], _ => rfl
  | [], _ :: _, h => by simp [bytesP] at h
  | _ :: _, [], h => by simp [bytesP] at h
  | x :: a, y :: b, h => by
    simp only [bytesP, List.map_cons, List.cons.injEq, PV.int.injEq, true_and] at h
    have h1 : x = y := by
      have := h.1
      have : x.toNat = y.toNat := by omega
      exact UInt8.toNat_inj.mp this
    rw [h1, bytesP_inj' (a := a) (b := b) h.2]
@[simp] theorem bytesP_app (a b : Str) : bytesP a ++ bytesP b = bytesP (a ++ b) := by simp [bytesP]
@[simp] theorem bytesP_nil' (b : Str) : ([] : List PV) ++ bytesP b = bytesP b := (rfl)
@[simp] theorem usR_row (t t' : TypeId) (m : Int) (len sz : Nat) (b : Str) : UsR X d t m len (some (.row t' sz (bytesP b))) r Q l os = (t' = t ∧ sz = 1 ∧ m = len ∧ len = b.length ∧ 0 < len ∧ to X d r Q l os (.str b)) := by
  simp only [UsR, ustrRow, bytesP_length', eq_iff_iff]
  constructor
  · rintro ⟨h1, h2, h3, h4, h5, c, h6, h7⟩
    rw [bytesP_inj' h6]; exact ⟨h1, h2, h3, h4 ▸ by rw [bytesP_inj' h6], h5, h7⟩
  · rintro ⟨h1, h2, h3, h4, h5, h7⟩
    exact ⟨h1, h2, h3, h4, h5, b, rfl, h7⟩
def UstrR (X : Ctx) (d : Nat) (t : TypeId) (v u : AV) (r : List It) (Q : MExit → St → Prop) (l : List (Nat × AV)) (os : List (Nat × Ob)) : Prop := OpR X (some d) (.ustr t (.v v) (.v u)) r Q l os
@[simp] theorem op_ustr (t : TypeId) : OpR X (some d) (.ustr t x y) r Q l os = UstrR X d t (x.val l) (y.val l) r Q l os := by simp only [UstrR, OpR, mop, val_ev]; rfl
@[simp] theorem ustr_rh (t : TypeId) (n len : Nat) (m : Int) : UstrR X d t (.rh n len) (.pv (.int .i64 m)) r Q l os = UsR X d t m len (lookO os n) r Q l os := by
  simp only [UstrR, OpR, mop, Opd.ev, fin_eq]; rfl

/-! Calls. -/
def CallG (X : Ctx) (d : Nat) (g : FuncId) (vs : List AV) (r : List It) (Q : MExit → St → Prop) (l : List (Nat × AV)) (os : List (Nat × Ob)) : Prop :=
  callW X.C (some g) vs (lookO os) fun v ob => contQ X r Q .normal (St.put ⟨look l, ob⟩ (some d) v)
def CallP (X : Ctx) (d : Nat) (g : FuncId) (vs : List AV) (r : List It) (Q : MExit → St → Prop) (l : List (Nat × AV)) (os : List (Nat × Ob)) : Prop :=
  callP X.C g vs (lookO os) fun v ob => contQ X r Q .normal (St.put ⟨look l, ob⟩ (some d) v)
def CallF (X : Ctx) (d : Nat) (pr : Bool) (f : AV) (vs : List AV) (r : List It) (Q : MExit → St → Prop) (l : List (Nat × AV)) (os : List (Nat × Ob)) : Prop := OpR X (some d) (.call pr (.v f) (vs.map .v)) r Q l os
@[simp] theorem op_call (pr : Bool) (f : Opd) (xs : List Opd) : OpR X (some d) (.call pr f xs) r Q l os = CallF X d pr (f.val l) (xs.map (Opd.val l)) r Q l os := by
  have e1 : xs.map (Opd.ev (look l)) = xs.map (Opd.val l) := List.map_congr_left fun x _ => val_ev l x
  have e2 : ((xs.map (Opd.val l)).map Opd.v).map (Opd.ev (look l)) = xs.map (Opd.val l) := by
    rw [List.map_map]; exact (List.map_congr_left fun x _ => rfl).trans (List.map_id _)
  simp only [CallF, OpR, mop, val_ev, val_v, e1, e2]
theorem ev_vs (vs : List AV) : (vs.map Opd.v).map (Opd.ev (look l)) = vs := by
  rw [List.map_map]; exact (List.map_congr_left fun x _ => rfl).trans (List.map_id _)
def CallY (X : Ctx) (d n : Nat) (vs : List AV) (r : List It) (Q : MExit → St → Prop) (l : List (Nat × AV)) (os : List (Nat × Ob)) : Prop :=
  callW X.C none (.yf n :: vs) (lookO os) fun v ob => contQ X r Q .normal (St.put ⟨look l, ob⟩ (some d) v)
@[simp] theorem callF_yf (n : Nat) (vs : List AV) : CallF X d false (.yf n) vs r Q l os = CallY X d n vs r Q l os := by
  simp only [CallF, OpR, mop, Opd.ev, ev_vs, Bool.false_eq_true, if_false]; rfl
@[simp] theorem callF_fnv (g : FuncId) (vs : List AV) : CallF X d false (.pv (.fnv g)) vs r Q l os = CallG X d g vs r Q l os := by
  simp only [CallF, OpR, mop, Opd.ev, ev_vs, Bool.false_eq_true, if_false]; rfl
@[simp] theorem callF_fnvp (g : FuncId) (vs : List AV) : CallF X d true (.pv (.fnv g)) vs r Q l os = CallP X d g vs r Q l os := by
  simp only [CallF, OpR, mop, Opd.ev, ev_vs, if_true]; rfl
@[simp] theorem callF_fn (g : FuncId) (caps vs : List AV) : CallF X d false (.fn g caps) vs r Q l os = CallG X d g (vs ++ caps) r Q l os := by
  simp only [CallF, OpR, mop, Opd.ev, ev_vs, Bool.false_eq_true, if_false]; rfl

theorem callP_of {g : FuncId} {vs : List AV} {ps qs rs : List PV} (hc : PCon X.P g qs rs) (hv : allPV (lookO os) vs = some ps) (hle : PLes ps qs)
    (k : Run X r Q (mk (setk l d (retA (rs.map .pv))) os)) : CallP X d g vs r Q l os := by
  simp only [CallP, callP, hv]
  exact ⟨qs, rs, hle, hc, by rw [put_mk]; exact k⟩

theorem callG_of {g : FuncId} {vs : List AV} {ps qs rs : List PV} (hc : PCon X.P g qs rs) (hv : allPV (lookO os) vs = some ps) (hle : PLes ps qs)
    (k : Run X r Q (mk (setk l d (retA (rs.map .pv))) os)) : CallG X d g vs r Q l os :=
  callP_W (callP_of d r Q l os hc hv hle k)

end
end Cr
