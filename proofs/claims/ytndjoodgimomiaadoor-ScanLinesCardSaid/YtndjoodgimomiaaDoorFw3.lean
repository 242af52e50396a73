/- What each instruction does to an abstract state; weakest preconditions over abstract states. -/
import Derived.Test.YtndjoodgimomiaaDoorFw2
namespace Cr
open Go Go.RowKit

def PReps (ro : RO) (w : World) (ps : List PV) (xs : List Value) : Prop :=
  ps.length = xs.length ∧ ∀ (i : Nat) p x, ps[i]? = some p → xs[i]? = some x → PRep ro w p x

def retv : List Value → Value
  | [v] => v
  | vs => .tuple vs.toArray

def Enters (P : Program) (g : FuncId) : Prop := ∃ fn, P.funcs[g]? = some fn ∧ (fn.name == "runtime.NumGoroutine") = false ∧ fn.body.isSome = true

def lookO : List (Nat × Ob) → Nat → Option Ob
  | [], _ => none
  | (j, v) :: r, k => if k = j then some v else lookO r k

/-- The objects are as told; since the call began, only what came in has changed. -/
structure Has (E : Ent) (ob : Obs) (w : World) (ι : Places) (ro : RO) : Prop where
  keeps : Keeps E.B E.w0 w
  objs : ∀ n o, ob n = some o → OHas ι ob ro w n o
  dom : ∀ n pl, ι n = some pl → ∃ o, ob n = some o
  inj : ∀ n m p q, ι n = some p → ι m = some q → p.b = q.b → n = m
  home : ∀ n p, ι n = some p → (E.B p.b ∨ E.w0.heap.size ≤ p.b)
  rolt : ∀ b o, ro b o → b < w.heap.size
  roold : ∀ b o, ro b o → E.ro0 b o ∨ E.B b ∨ E.w0.heap.size ≤ b
  gr : Grew E.ι0 E.ob0 E.ro0 E.w0 ι ob ro w

/-- A call's end: of a function with a body, or of one that the machine does itself. -/
def CallR (P : Program) (g : FuncId) (xs : Array Value) (w : World) (φ : Ending → World → Prop) : Prop :=
  (Enters P g ∧ Calls P g xs w φ) ∨ ∃ v w', (callFunc g xs).run P w = .ok (.value v) w' ∧ φ (.returned v) w'

/-- Called with what 'as' and the objects 'os' tell, the function g gives what 'rs' tells, the objects are then as 'os2' tells, and nothing else that was there has changed. -/
def Con (P : Program) (g : FuncId) (as : List AV) (os : List (Nat × Ob)) (rs : List AV) (os2 : List (Nat × Ob)) : Prop :=
  ∀ (w : World) (ι : Places) (ro : RO) (xs : List Value), Has ⟨w, ro, ι, lookO os⟩ (lookO os) w ι ro → RepAll ι (lookO os) ro w as xs →
    CallR P g xs.toArray w fun e w' => ∃ vs ι' ro', e = .returned (retv vs) ∧ Has ⟨w, ro, ι, lookO os⟩ (lookO os2) w' ι' ro' ∧ RepAll ι' (lookO os2) ro' w' rs vs

abbrev Cons := Option FuncId → List AV → List (Nat × Ob) → List AV → List (Nat × Ob) → Prop

def PCon (P : Program) (g : FuncId) (as rs : List PV) : Prop := Con P g (as.map .pv) [] (rs.map .pv) []

/-- What is told of a value is told of it also so. -/
def PLe (p q : PV) : Prop := ∀ ro w x, PRep ro w p x → PRep ro w q x
def PLes (ps qs : List PV) : Prop := ps.length = qs.length ∧ ∀ (i : Nat) p q, ps[i]? = some p → qs[i]? = some q → PLe p q

def AV.ren (ρ : Nat → Nat) : AV → AV
  | .ptr n o => .ptr (ρ n) o
  | .rs n l => .rs (ρ n) l
  | .sa n g o l c => .sa (ρ n) g o l c
  | .pe n g c => .pe (ρ n) g c
  | .rh n l => .rh (ρ n) l
  | .yf n => .yf (ρ n)
  | .fn f caps => .fn f (caps.map (AV.ren ρ))
  | .ag cs => .ag (cs.map (AV.ren ρ))
  | .tup cs => .tup (cs.map (AV.ren ρ))
  | .pv p => .pv p
  | .any => .any
def Ob.ren (ρ : Nat → Nat) : Ob → Ob
  | .box t cs => .box t (cs.map (AV.ren ρ))
  | .arr t g sz cs => .arr t g sz (cs.map (AV.ren ρ))
  | .lrec st r cs => .lrec st r (cs.map (AV.ren ρ))
  | o => o

def Opd.ev (s : Nat → AV) : Opd → AV
  | .t k => s k
  | .c p => .pv p
  | .v a => a

def AV.toPV (ob : Obs) : AV → Option PV
  | .pv p => some p
  | .rs n len => match ob n with
    | some (.row _ _ es) => some (.sl none (es.take len))
    | _ => none
  | _ => none

/-- What the caller tells of a value (by its own names) is what the function asks (by its names). -/
inductive MA (ob : Obs) (ρ : Nat → Nat) (ob' : Obs) : AV → AV → Prop
  | any (v : AV) : MA ob ρ ob' v .any
  | pv (v : AV) (p p' : PV) (h : v.toPV ob = some p) (hl : PLe p p') : MA ob ρ ob' v (.pv p')
  | ptr (n off : Nat) (t : TypeId) (cs : List AV) (h : ob' n = some (.box t cs)) : MA ob ρ ob' (.ptr (ρ n) off) (.ptr n off)
  | rs (n len : Nat) (t : TypeId) (sz : Nat) (es : List PV) (h : ob' n = some (.row t sz es)) : MA ob ρ ob' (.rs (ρ n) len) (.rs n len)
  | sa (n gen off len : Nat) (cap : Option Nat) (t : TypeId) (g sz : Nat) (cs : List AV) (h : ob' n = some (.arr t g sz cs)) : MA ob ρ ob' (.sa (ρ n) gen off len cap) (.sa n gen off len cap)
  | pe (n gen c : Nat) (t : TypeId) (g sz : Nat) (cs : List AV) (h : ob' n = some (.arr t g sz cs)) : MA ob ρ ob' (.pe (ρ n) gen c) (.pe n gen c)
  | yf (n : Nat) (b : Nat) (r : Loop) (cs : List AV) (h : ob' n = some (.lrec b r cs)) : MA ob ρ ob' (.yf (ρ n)) (.yf n)
  | rh (n len : Nat) (t : TypeId) (sz : Nat) (es : List PV) (h : ob' n = some (.row t sz es)) : MA ob ρ ob' (.rh (ρ n) len) (.rh n len)
  | fn (f : FuncId) (cs cs' : List AV) (hl : cs.length = cs'.length) (h : ∀ (i : Nat) p p', cs[i]? = some p → cs'[i]? = some p' → MA ob ρ ob' p p') : MA ob ρ ob' (.fn f cs) (.fn f cs')
  | ag (cs cs' : List AV) (hl : cs.length = cs'.length) (h : ∀ (i : Nat) p p', cs[i]? = some p → cs'[i]? = some p' → MA ob ρ ob' p p') : MA ob ρ ob' (.ag cs) (.ag cs')
  | tup (cs cs' : List AV) (hl : cs.length = cs'.length) (h : ∀ (i : Nat) p p', cs[i]? = some p → cs'[i]? = some p' → MA ob ρ ob' p p') : MA ob ρ ob' (.tup cs) (.tup cs')

def MAs (ob : Obs) (ρ : Nat → Nat) (ob' : Obs) (cs cs' : List AV) : Prop := cs.length = cs'.length ∧ ∀ (i : Nat) p p', cs[i]? = some p → cs'[i]? = some p' → MA ob ρ ob' p p'

def MO (ob : Obs) (ρ : Nat → Nat) (ob' : Obs) (n : Nat) : Ob → Prop
  | .box t cs' => ∃ cs, ob (ρ n) = some (.box t cs) ∧ MAs ob ρ ob' cs cs'
  | .arr t g sz cs' => ∃ cs, ob (ρ n) = some (.arr t g sz cs) ∧ MAs ob ρ ob' cs cs'
  | .lrec st r cs' => ∃ cs, ob (ρ n) = some (.lrec st r cs) ∧ MAs ob ρ ob' cs cs'
  | o => ob (ρ n) = some o

structure Sub (ob : Obs) (ρ : Nat → Nat) (ob' : Obs) : Prop where
  obj : ∀ n o, ob' n = some o → MO ob ρ ob' n o
  inj : ∀ n m o p, ob' n = some o → ob' m = some p → ρ n = ρ m → n = m

/-- The caller's objects behind a call. -/
structure Back (ob : Obs) (ρ : Nat → Nat) (ob1 : Obs) (ρ' : Nat → Nat) (ob2 : Obs) (ob' : Obs) : Prop where
  same : ∀ n o, ob1 n = some o → ρ' n = ρ n
  inj : ∀ n m o p, ob2 n = some o → ob2 m = some p → ρ' n = ρ' m → n = m
  fresh : ∀ n o, ob2 n = some o → ob1 n = none → ob (ρ' n) = none
  here : ∀ n o, ob2 n = some o → ob' (ρ' n) = some (o.ren ρ')
  other : ∀ m, (∀ n o, ob2 n = some o → ρ' n ≠ m) → ob' m = ob m

def allPV (ob : Obs) : List AV → Option (List PV)
  | [] => some []
  | v :: r => match v.toPV ob, allPV ob r with
    | some p, some l => some (p :: l)
    | _, _ => none

def AV.cellsOf : AV → Option (List AV)
  | .pv p => some (p.cells.map .pv)
  | .ag cs => some cs
  | .ptr n o => some [.ptr n o]
  | .rs n l => some [.rs n l]
  | .sa n g o l c => some [.sa n g o l c]
  | .pe n g c => some [.pe n g c]
  | .yf n => some [.yf n]
  | .rh n l => some [.rh n l]
  | .fn f c => some [.fn f c]
  | _ => none

def splice {α : Type} (z : List α) (o : Nat) (cs : List α) : List α := z.take o ++ cs ++ z.drop (o + cs.length)
def upd (ob : Obs) (n : Nat) (x : Ob) : Obs := fun m => if m = n then some x else ob m
def aggOf (ob : Obs) (cs : List AV) : AV := match allPV ob cs with
  | some l => .pv (.agg l)
  | none => .ag cs

def inR (k : IntKind) (n : Int) : Prop := match k with
  | .i64 => -9223372036854775808 ≤ n ∧ n ≤ 9223372036854775807
  | .i32 => -2147483648 ≤ n ∧ n ≤ 2147483647
  | .i16 => -32768 ≤ n ∧ n ≤ 32767
  | .i8 => -128 ≤ n ∧ n ≤ 127
  | .u64 => 0 ≤ n ∧ n ≤ 18446744073709551615
  | .u32 => 0 ≤ n ∧ n ≤ 4294967295
  | .u16 => 0 ≤ n ∧ n ≤ 65535
  | .u8 => 0 ≤ n ∧ n ≤ 255

def cellEq : Nat → PV → PV → Option Bool
  | 0, .int k a, .int k' b => if k = k' then some (a == b) else none
  | 1, .bool a, .bool b => some (a == b)
  | 2, .str a, .str b => some (a == b)
  | _, _, _ => none
def cellsEq : List Nat → List PV → List PV → Option Bool
  | [], [], [] => some true
  | n :: ns, p :: ps, q :: qs => match cellEq n p q, cellsEq ns ps qs with
    | some a, some b => some (a && b)
    | _, _ => none
  | _, _, _ => none

def intBin (op : BinOp) (k : IntKind) (a b : Int) (K : PV → Prop) : Prop := match op with
  | .add => inR k (a + b) ∧ K (.int k (a + b))
  | .sub => inR k (a - b) ∧ K (.int k (a - b))
  | .mul => inR k (a * b) ∧ K (.int k (a * b))
  | .quo => 0 ≤ a ∧ 0 < b ∧ inR k a ∧ K (.int k (a / b))
  | .rem => 0 ≤ a ∧ 0 < b ∧ K (.int k (a % b))
  | .eql => K (.bool (decide (a = b)))
  | .neq => K (.bool (decide (a ≠ b)))
  | .lss => K (.bool (decide (a < b)))
  | .leq => K (.bool (decide (a ≤ b)))
  | .gtr => K (.bool (decide (b < a)))
  | .geq => K (.bool (decide (b ≤ a)))
  | _ => False

def strBin (op : BinOp) (a b : Str) (K : PV → Prop) : Prop := match op with
  | .add => a.length + b.length ≤ big ∧ K (.str (a ++ b))
  | .eql => K (.bool (a == b))
  | .neq => K (.bool !(a == b))
  | .lss => K (.bool (Op.bytesLess a b))
  | .leq => K (.bool (Op.bytesLess a b || a == b))
  | .gtr => K (.bool !(Op.bytesLess a b || a == b))
  | .geq => K (.bool !(Op.bytesLess a b))
  | _ => False

def eqBin (op : BinOp) (r : Option Bool) (K : PV → Prop) : Prop := match op, r with
  | .eql, some b => K (.bool b)
  | .neq, some b => K (.bool !b)
  | _, _ => False

def binW (op : BinOp) (plain : List Nat) (x y : AV) (K : PV → Prop) : Prop := match x, y with
  | .pv (.int k a), .pv (.int k' b) => k = k' ∧ intBin op k a b K
  | .pv (.str a), .pv (.str b) => strBin op a b K
  | .pv (.bool a), .pv (.bool b) => plain = [3] ∧ eqBin op (some (a == b)) K
  | .pv (.agg a), .pv (.agg b) => plain ≠ [] ∧ eqBin op (cellsEq plain a b) K
  | .pv (.lit (.pointer none)), .pv (.lit (.pointer none)) => plain = [4] ∧ eqBin op (some true) K
  | .ptr _ _, .pv (.lit (.pointer none)) => plain = [4] ∧ eqBin op (some false) K
  | .ptr n o, .ptr m p => plain = [4] ∧ n = m ∧ o = p ∧ eqBin op (some true) K
  | _, _ => False

def buildW : List AV → List (Nat × Nat × Opd) → (Nat → AV) → Option (List AV)
  | z, [], _ => some z
  | z, (o, n, x) :: r, s => match (x.ev s).cellsOf with
    | some cs => if cs.length = n ∧ o + n ≤ z.length then buildW (splice z o cs) r s else none
    | none => none

def elemsW (ob : Obs) (sz : Nat) : List PV → List (Nat × Opd) → (Nat → AV) → Option (List PV)
  | z, [], _ => some z
  | z, (i, x) :: r, s => match (x.ev s).toPV ob with
    | some p => if p.cells.length = sz ∧ i < z.length then elemsW ob sz (z.set i p) r s else none
    | none => none

def optI (s : Nat → AV) (dflt : Int) : Option Opd → Option Int
  | none => some dflt
  | some x => match x.ev s with
    | .pv (.int _ n) => some n
    | _ => none

def retA : List AV → AV
  | [p] => p
  | l => .tup l

def callW (C : Cons) (g : Option FuncId) (vs : List AV) (ob : Obs) (K : AV → Obs → Prop) : Prop :=
  ∃ (as : List AV) (os : List (Nat × Ob)) (rs : List AV) (os2 : List (Nat × Ob)) (ρ ρ' : Nat → Nat) (ob2 : Obs), C g as os rs os2 ∧ Sub ob ρ (lookO os) ∧ MAs ob ρ (lookO os) vs as ∧ Back ob ρ (lookO os) ρ' (lookO os2) ob2 ∧ K (retA (rs.map (AV.ren ρ'))) ob2

/-- A call that touches no object. -/
def callP (C : Cons) (g : FuncId) (vs : List AV) (ob : Obs) (K : AV → Obs → Prop) : Prop :=
  match allPV ob vs with
  | some ps => ∃ qs rs : List PV, PLes ps qs ∧ C (some g) (qs.map .pv) [] (rs.map .pv) [] ∧ K (retA (rs.map .pv)) ob
  | none => False

def slcStr (x : Str) (l h : Int) (K : PV → Prop) : Prop := 0 ≤ l ∧ l ≤ h ∧ h ≤ x.length ∧ K (.str ((x.take h.toNat).drop l.toNat))
def slcRow (cap : Option Nat) (es : List PV) (l h : Int) (m : Option Int) (K : PV → Prop) : Prop :=
  0 ≤ l ∧ l ≤ h ∧ h ≤ es.length ∧
  match m with
  | some m => h ≤ m ∧ m ≤ es.length ∧ K (.sl (some (m - l).toNat) ((es.take h.toNat).drop l.toNat))
  | none => K (.sl (cap.map (· - l.toNat)) ((es.take h.toNat).drop l.toNat))

def minmaxW (isMax : Bool) (s : Nat → AV) : List Opd → (PV → Prop) → Prop
  | [x, y], K => match x.ev s, y.ev s with
    | .pv (.int k a), .pv (.int k' b) => k = k' ∧ K (.int k (if isMax then max a b else min a b))
    | _, _ => False
  | _, _ => False

def bytesP (b : Str) : List PV := b.map fun c => .int .u8 c.toNat

def ustrRow (t : TypeId) (m : Int) (len : Nat) (b : Option Ob) (K : PV → Prop) : Prop := match b with
  | some (.row t' sz es) => t' = t ∧ sz = 1 ∧ m = len ∧ len = es.length ∧ 0 < len ∧ ∃ b, es = bytesP b ∧ K (.str b)
  | _ => False

def mop (C : Cons) (d : Nat) (m : MOp) (s : Nat → AV) (ob : Obs) (K : AV → Obs → Prop) : Prop :=
  match m with
  | .mv x => K (x.ev s) ob
  | .box t x => match (x.ev s).cellsOf with
    | some cs => ob d = none ∧ K (.ptr d 0) (upd ob d (.box t cs))
    | none => False
  | .zero t cs => ob d = none ∧ K (.ptr d 0) (upd ob d (.box t (cs.map .pv)))
  | .build z ps => match buildW (z.map .pv) ps s with
    | some cs => K (aggOf ob cs) ob
    | none => False
  | .bsl sz z len ps => match elemsW ob sz (List.replicate len z) ps s with
    | some es => K (.pv (.sl (some len) es)) ob
    | none => False
  | .load g sz x => match x.ev s with
    | .pv (.rp ps off) => if g then off + sz ≤ ps.length ∧ K (.pv (.agg ((ps.drop off).take sz))) ob else ∃ p, ps[off]? = some p ∧ K (.pv p) ob
    | .ptr n off => match ob n with
      | some (.box _ cs) => if g then off + sz ≤ cs.length ∧ K (aggOf ob ((cs.drop off).take sz)) ob else ∃ v, cs[off]? = some v ∧ K v ob
      | _ => False
    | _ => False
  | .store sz x v => match x.ev s, (v.ev s).cellsOf with
    | .ptr n off, some vs => match ob n with
      | some (.box t cs) => vs.length = sz ∧ off + sz ≤ cs.length ∧ K .any (upd ob n (.box t (splice cs off vs)))
      | _ => False
    | _, _ => False
  | .nilck x => match x.ev s with
    | .ptr n o => K (.ptr n o) ob
    | .pv (.rp ps o) => K (.pv (.rp ps o)) ob
    | .pv (.fnv f) => K (.pv (.fnv f)) ob
    | .fn f c => K (.fn f c) ob
    | _ => False
  | .bin op plain x y => binW op plain (x.ev s) (y.ev s) fun p => K (.pv p) ob
  | .not x => match x.ev s with
    | .pv (.bool b) => K (.pv (.bool !b)) ob
    | _ => False
  | .neg x => match x.ev s with
    | .pv (.int k a) => inR k (-a) ∧ K (.pv (.int k (-a))) ob
    | _ => False
  | .conv k x => match x.ev s with
    | .pv (.int _ a) => inR k a ∧ K (.pv (.int k a)) ob
    | _ => False
  | .fadr off x => match x.ev s with
    | .ptr n o => K (.ptr n (o + off)) ob
    | .pv (.rp ps o) => K (.pv (.rp ps (o + off))) ob
    | _ => False
  | .fld g off sz x => match x.ev s with
    | .pv (.agg cs) => if g then off + sz ≤ cs.length ∧ K (.pv (.agg ((cs.drop off).take sz))) ob else ∃ p, cs[off]? = some p ∧ K (.pv p) ob
    | _ => False
  | .iadr sz x i => match (x.ev s).toPV ob, i.ev s with
    | some (.sl _ es), .pv (.int _ n) => 0 ≤ n ∧ ∃ e, es[n.toNat]? = some e ∧ e.cells.length = sz ∧ K (.pv (.rp e.cells 0)) ob
    | _, _ => False
  | .idx x i => match x.ev s, i.ev s with
    | .pv (.str a), .pv (.int _ n) => 0 ≤ n ∧ ∃ c, a[n.toNat]? = some c ∧ K (.pv (.int .u8 c.toNat)) ob
    | _, _ => False
  | .slc str sz x lo hi mx => match (x.ev s).toPV ob with
    | some (.str a) => str = true ∧ match optI s 0 lo, optI s a.length hi with
      | some l, some h => slcStr a l h fun p => K (.pv p) ob
      | _, _ => False
    | some (.sl cap es) => str = false ∧ (∀ e ∈ es, e.cells.length = sz) ∧ match optI s 0 lo, optI s es.length hi with
      | some l, some h => match mx with
        | none => slcRow cap es l h none fun p => K (.pv p) ob
        | some _ => match optI s 0 mx with
          | some m => hi.isSome = true ∧ slcRow cap es l h (some m) fun p => K (.pv p) ob
          | none => False
      | _, _ => False
    | _ => False
  | .ext x i => match x.ev s with
    | .tup vs => ∃ v, vs[i]? = some v ∧ K v ob
    | _ => False
  | .pick c x y => match c.ev s with
    | .pv (.bool t) => (t = true → K (x.ev s) ob) ∧ (t = false → K (y.ev s) ob)
    | _ => False
  | .mkfn f caps => K (.fn f (caps.map (Opd.ev s))) ob
  | .call pr f args => match f.ev s with
    | .pv (.fnv g) => if pr then callP C g (args.map (Opd.ev s)) ob K else callW C (some g) (args.map (Opd.ev s)) ob K
    | .fn g caps => if pr then False else callW C (some g) (args.map (Opd.ev s) ++ caps) ob K
    | .yf n => if pr then False else callW C none (.yf n :: args.map (Opd.ev s)) ob K
    | _ => False
  | .len str x => match x.ev s with
    | .pv (.str a) => str = true ∧ K (.pv (.int .i64 a.length)) ob
    | .pv (.sl _ es) => str = false ∧ K (.pv (.int .i64 es.length)) ob
    | .rs _ n => str = false ∧ K (.pv (.int .i64 n)) ob
    | _ => False
  | .app t sz bytes x y => match (y.ev s).toPV ob with
    | some (.sl _ ys) => (∀ e ∈ ys, e.cells.length = sz) ∧ match x.ev s with
      | .pv (.sl cap es) => cap = some es.length ∧ (es = [] ∨ ys ≠ []) ∧ ob d = none ∧ (∀ e ∈ es, e.cells.length = sz) ∧ (es.length + ys.length) * bytes ≤ big ∧ K (.rs d (es.length + ys.length)) (upd ob d (.row t sz (es ++ ys)))
      | .rs n len => match ob n with
        | some (.row t' sz' es) => t' = t ∧ sz' = sz ∧ len = es.length ∧ (es.length + ys.length) * bytes ≤ big ∧ K (.rs n (es.length + ys.length)) (upd ob n (.row t sz (es ++ ys)))
        | _ => False
      | _ => False
    | _ => False
  | .apps t x y => match y.ev s with
    | .pv (.str b) => match x.ev s with
      | .pv (.sl cap es) => cap = some es.length ∧ (es = [] ∨ b ≠ []) ∧ ob d = none ∧ (∀ e ∈ es, e.cells.length = 1) ∧ es.length + b.length ≤ big ∧ K (.rs d (es.length + b.length)) (upd ob d (.row t 1 (es ++ bytesP b)))
      | .rs n len => match ob n with
        | some (.row t' sz' es) => t' = t ∧ sz' = 1 ∧ len = es.length ∧ es.length + b.length ≤ big ∧ K (.rs n (es.length + b.length)) (upd ob n (.row t 1 (es ++ bytesP b)))
        | _ => False
      | _ => False
    | _ => False
  | .minmax b xs => minmaxW b s xs fun p => K (.pv p) ob
  | .toU x => match x.ev s with
    | .ptr n o => match ob n with
      | some (.box _ cs) => o < cs.length ∧ K (.ptr n o) ob
      | _ => False
    | _ => False
  | .frU t nc x => match x.ev s with
    | .ptr n o => match ob n with
      | some (.box t' cs) => t' = t ∧ o = 0 ∧ cs.length = nc ∧ K (.ptr n o) ob
      | _ => False
    | _ => False
  | .sdat x => match x.ev s with
    | .rs n len => match ob n with
      | some (.row _ _ es) => len = es.length ∧ 0 < len ∧ K (.rh n len) ob
      | _ => False
    | _ => False
  | .ustr t x y => match x.ev s, y.ev s with
    | .rh n len, .pv (.int .i64 m) => ustrRow t m len (ob n) fun p => K (.pv p) ob
    | _, _ => False

def St.put (σ : St) (d : Option Nat) (v : AV) : St := match d with
  | none => σ
  | some k => ⟨fun j => if j = k then v else σ.sl j, σ.ob⟩

def mstep (C : Cons) (m : MIns) (σ : St) (K : St → Prop) : Prop :=
  match m.guard with
  | none => mop C (m.dst.getD 0) m.op σ.sl σ.ob fun v ob => K (St.put ⟨σ.sl, ob⟩ m.dst v)
  | some (g, b) => match σ.sl g with
    | .pv (.bool c) => (c = b → mop C (m.dst.getD 0) m.op σ.sl σ.ob fun v ob => K (St.put ⟨σ.sl, ob⟩ m.dst v)) ∧ (c ≠ b → K (σ.put m.dst .any))
    | _ => False

def wpL (C : Cons) : List MIns → St → (St → Prop) → Prop
  | [], σ, K => K σ
  | m :: r, σ, K => mstep C m σ fun σ' => wpL C r σ' K

inductive MExit where
  | normal
  | exit (id : Nat)
  | ret

/-- The fence of a frame: a plain one, or a loop's round. -/
def fenceOf (rd : Option Nat) : Fence := { Fence.wide with round := rd }

/-- A call of yield: a round of the loop. -/
def YieldR (P : Program) (rd : Option Nat) (xs : List Value) (w : World) (φ : Ending → World → Prop) : Prop :=
  ∃ l ys f tmps assign body, xs = .func (.yield l) #[] #[] :: ys ∧ (Instr.yield l ys.toArray).run P w = .ok (.round l f tmps assign body) w ∧ RoundIn (fenceOf rd) 0 P l f tmps assign body w φ

abbrev YRel := List AV → List (Nat × Ob) → List AV → List (Nat × Ob) → Prop

/-- What is told of the rounds holds. -/
def YOK (P : Program) (rd : Option Nat) (Y : YRel) : Prop :=
  ∀ (as : List AV) (os : List (Nat × Ob)) (rs : List AV) (os2 : List (Nat × Ob)), Y as os rs os2 → ∀ (w : World) (ι : Places) (ro : RO) (xs : List Value), Has ⟨w, ro, ι, lookO os⟩ (lookO os) w ι ro → RepAll ι (lookO os) ro w as xs →
    YieldR P rd xs w fun e w' => ∃ vs ι' ro', e = .returned (retv vs) ∧ Has ⟨w, ro, ι, lookO os⟩ (lookO os2) w' ι' ro' ∧ RepAll ι' (lookO os2) ro' w' rs vs

structure Ctx where
  P : Program
  N : Nat
  E : Ent
  rd : Option Nat
  Y : YRel
  hY : YOK P rd Y

def noY : YRel := fun _ _ _ _ => False
theorem yok_no (P : Program) (rd : Option Nat) : YOK P rd noY := fun _ _ _ _ h => h.elim

def Ctx.C (X : Ctx) : Cons := fun g as os rs os2 => match g with
  | some g => Con X.P g as os rs os2
  | none => X.Y as os rs os2

def Ctx.Sat (X : Ctx) (σ : St) (a : Act) (w : World) : Prop := Cr.Sat X.N X.E σ a w

def Ctx.lift (X : Ctx) (Q : MExit → St → Prop) : Exit → Act → World → Prop
  | .normal, a, w => ∃ σ, Q .normal σ ∧ X.Sat σ a w
  | .exit id, a, w => ∃ σ, Q (.exit id) σ ∧ X.Sat σ a w
  | .ret, a, w => ∃ σ, Q .ret σ ∧ X.Sat σ a w
  | _, _, _ => False

/-- Run from a state that is as σ says, the code ends as Q says. -/
def Ctx.Ok (X : Ctx) (m : MCode) (Q : MExit → St → Prop) (σ : St) : Prop :=
  ∀ code, comp X.P X.N code = some m → ∀ a w, X.Sat σ a w → code.wpIn (fenceOf X.rd) 0 X.P (X.lift Q) a w

def thenQ (n : St → Prop) (Q : MExit → St → Prop) : MExit → St → Prop
  | .normal, σ => n σ
  | e, σ => Q e σ
def blockQ (id : Nat) (Q : MExit → St → Prop) : MExit → St → Prop
  | .exit j, σ => if j = id then Q .normal σ else Q (.exit j) σ
  | e, σ => Q e σ

def Ctx.awp (X : Ctx) : MCode → (MExit → St → Prop) → St → Prop
  | .skip, Q, σ => Q .normal σ
  | .reg ops, Q, σ => wpL X.C ops σ (Q .normal)
  | .seq a b, Q, σ => X.awp a (thenQ (X.awp b Q) Q) σ
  | .cond c a b, Q, σ => match c.ev σ.sl with
    | .pv (.bool t) => (t = true → X.awp a Q σ) ∧ (t = false → X.awp b Q σ)
    | _ => False
  | .block id c, Q, σ => X.awp c (blockQ id Q) σ
  | .loop c, Q, σ => X.Ok (.loop c) Q σ
  | .range f ps a b, Q, σ => X.Ok (.range f ps a b) Q σ
  | .exit id, Q, σ => Q (.exit id) σ
  | .ret, Q, σ => Q .ret σ
  | .stuck, _, _ => False

end Cr
