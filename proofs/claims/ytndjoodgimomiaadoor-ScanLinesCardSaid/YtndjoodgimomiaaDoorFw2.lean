/- The instructions of the logic over abstract states: how Go's operations are told as such, and what each does to an abstract state. -/
import Derived.Test.YtndjoodgimomiaaDoorFw1
namespace Cr
open Go Go.RowKit

inductive Opd where
  | t (k : Nat)
  | c (p : PV)
  | v (a : AV)
  deriving Inhabited

inductive MOp where
  | mv (x : Opd)
  | box (t : TypeId) (x : Opd)
  | zero (t : TypeId) (cs : List PV)
  | build (z : List PV) (ps : List (Nat × Nat × Opd))
  | bsl (sz : Nat) (z : PV) (len : Nat) (ps : List (Nat × Opd))
  | load (agg : Bool) (sz : Nat) (x : Opd)
  | store (sz : Nat) (x v : Opd)
  | nilck (x : Opd)
  | bin (op : BinOp) (plain : List Nat) (x y : Opd)
  | not (x : Opd)
  | neg (x : Opd)
  | conv (k : IntKind) (x : Opd)
  | fadr (off : Nat) (x : Opd)
  | fld (agg : Bool) (off sz : Nat) (x : Opd)
  | iadr (sz : Nat) (x i : Opd)
  | idx (x i : Opd)
  | slc (str : Bool) (sz : Nat) (x : Opd) (lo hi mx : Option Opd)
  | ext (x : Opd) (i : Nat)
  | pick (c x y : Opd)
  | mkfn (f : FuncId) (caps : List Opd)
  | call (pure : Bool) (f : Opd) (args : List Opd)
  | len (str : Bool) (x : Opd)
  | app (t : TypeId) (sz bytes : Nat) (x y : Opd)
  | apps (t : TypeId) (x y : Opd)
  | minmax (isMax : Bool) (xs : List Opd)
  | toU (x : Opd)
  | frU (t : TypeId) (nc : Nat) (x : Opd)
  | sdat (x : Opd)
  | ustr (t : TypeId) (x y : Opd)
  deriving Inhabited

structure MIns where
  dst : Option Nat
  op : MOp
  guard : Option (Nat × Bool)
  deriving Inhabited

inductive MCode where
  | skip
  | reg (ops : List MIns)
  | seq (a b : MCode)
  | cond (x : Opd) (a b : MCode)
  | block (id : Nat) (c : MCode)
  | loop (c : MCode)
  | range (f : Opd) (ps : List Nat) (a b : MCode)
  | exit (id : Nat)
  | ret
  | stuck
  deriving Inhabited

/-! ### From Go's code -/

def okConst : Value → Bool
  | .int _ _ | .bool _ => true
  | .string s => s.size ≤ big
  | .slice none 0 0 => true
  | .pointer none | .map none | .nilFunc | .nilIface => true
  | _ => false

def pvOf : Value → PV
  | .int k n => .int k n
  | .bool b => .bool b
  | .string s => .str s.data.toList
  | .slice none 0 0 => .sl (some 0) []
  | v => .lit v

def zpv : Value → PV
  | .agg cs => .agg (cs.toList.map pvOf)
  | v => pvOf v

def cOpd (N : Nat) : Operand → Option Opd
  | .tmp k => if k < N then some (.t k) else none
  | .const v => if okConst v then some (.c (pvOf v)) else none
  | .func f => some (.c (.fnv f))
  | .global _ => none

def cOpds (N : Nat) : List Operand → Option (List Opd)
  | [] => some []
  | x :: r => (cOpd N x).bind fun a => (cOpds N r).bind fun b => some (a :: b)

def isAggD : TypeDesc → Bool
  | .struct _ | .array _ _ => true
  | _ => false

/-- Is it a struct or an array, and how many cells has it? -/
def cTy (P : Program) (t : TypeId) : Option (Bool × Nat) :=
  (P.underlying t).bind fun d => (P.info? t).bind fun i => some (isAggD d, i.size)

def cZero (P : Program) (t : TypeId) : Option Value :=
  (P.info? t).bind fun i => i.zero.bind fun z => if z.cells.toList.all (fun v => okConst v) then some z else none

def plainFs (P : Program) (p : TypeId → Option (List Nat)) : Nat → List Field → Option (List Nat)
  | _, [] => some []
  | off, f :: r => if f.offset = off ∧ f.name ≠ "_" then (p f.type).bind fun l => if P.cellsOf f.type = l.length ∧ 0 < l.length then (plainFs P p (off + l.length) r).bind fun m => some (l ++ m) else none else none

/-- Types of which '==' compares cell by cell: what each cell is (0: a number, 1: a bool, 2: a text). -/
def plainT (P : Program) : Nat → TypeId → Option (List Nat)
  | 0, _ => none
  | d + 1, t =>
    match P.underlying t with
    | some (.int _) => some [0]
    | some .bool => some [1]
    | some .string => some [2]
    | some (.struct fs) => if P.stoodInHeld t = false then plainFs P (plainT P d) 0 fs.toList else none
    | _ => none

def cPlainT (P : Program) (t : TypeId) : List Nat :=
  match P.underlying t with
  | some .bool => [3]
  | some (.pointer e) => if (P.info? e).isSome then [4] else []
  | some (.struct _) => if P.eqGuardType P.depth t then [] else (plainT P 20 t).getD []
  | _ => []

def cPlain (P : Program) (op : BinOp) (t : TypeId) : List Nat :=
  match op with
  | .eql | .neq => cPlainT P t
  | _ => []

def cPlaces (P : Program) (fs : List Field) : Option (List (Nat × Nat)) :=
  match fs with
  | [] => some []
  | f :: r => (P.info? f.type).bind fun i => (cPlaces P r).bind fun l => some ((f.offset, i.size) :: l)

def cParts (N : Nat) (pl : List (Nat × Nat)) : List (Nat × Operand) → Option (List (Nat × Nat × Opd))
  | [] => some []
  | (i, x) :: r => (pl[i]?).bind fun (o, s) => (cOpd N x).bind fun a => (cParts N pl r).bind fun l => some ((o, s, a) :: l)

def cElems (N : Nat) : List (Nat × Operand) → Option (List (Nat × Opd))
  | [] => some []
  | (i, x) :: r => (cOpd N x).bind fun a => (cElems N r).bind fun l => some ((i, a) :: l)

def cOptOpd (N : Nat) : Option Operand → Option (Option Opd)
  | none => some none
  | some x => (cOpd N x).map some

def isStrD : Option TypeDesc → Bool
  | some .string => true
  | _ => false
def isZ8 : Option Value → Bool
  | some (.int .u8 0) => true
  | _ => false
theorem isStrD_spec {d : Option TypeDesc} (h : isStrD d = true) : d = some .string := by
  unfold isStrD at h; split at h
  · rfl
  · cases h
theorem isZ8_spec {d : Option Value} (h : isZ8 d = true) : d = some (.int .u8 0) := by
  unfold isZ8 at h; split at h
  · rfl
  · cases h

def cOp (P : Program) (N : Nat) (pr : Bool) (o : Oper) : Option MOp :=
  match o.op with
  | .move x | .assign x => (cOpd N x).map .mv
  | .alloc t => (cZero P t).map fun z => .zero t (z.cells.toList.map pvOf)
  | .box t x => (cOpd N x).map (.box t)
  | .build t parts =>
    match P.underlying t with
    | some (.struct fs) => (cZero P t).bind fun z => (cPlaces P fs.toList).bind fun pl => (cParts N pl parts.toList).map fun ps => .build (z.cells.toList.map pvOf) ps
    | _ => none
  | .buildSlice t len parts =>
    match P.underlying t with
    | some (.slice e) => (cZero P e).bind fun z => (P.info? e).bind fun i =>
      if len ≤ 10000 ∧ 0 < i.size ∧ i.size ≤ 1000 ∧ z.cells.size = i.size then (cElems N parts.toList).map fun ps => .bsl i.size (zpv z) len ps else none
    | _ => none
  | .load t x => (cTy P t).bind fun (g, s) => if g ∨ s = 1 then (cOpd N x).map (.load g s) else none
  | .store t x v => (P.info? t).bind fun i => (cOpd N x).bind fun a => (cOpd N v).map (.store i.size a)
  | .nilCheck x => (cOpd N x).map .nilck
  | .binOp op t x y _ => (cOpd N x).bind fun a => (cOpd N y).map fun b => .bin op (cPlain P op t) a b
  | .unOp .not _ x => (cOpd N x).map .not
  | .unOp .neg _ x => (cOpd N x).map .neg
  | .convert src dst x =>
    match P.underlying src, P.underlying dst with
    | some (.int _), some (.int k) => (cOpd N x).map (.conv k)
    | some (.pointer t), some .unsafePointer => (P.info? t).bind fun j => if j.size = 0 then none else (cOpd N x).map .toU
    | some .unsafePointer, some (.pointer t) => (P.info? t).bind fun _ => if P.cellsOf t ≠ 0 ∧ liesAt P P.depth t 1 0 t 1 = true then (cOpd N x).map (.frU t (P.cellsOf t)) else none
    | _, _ => none
  | .fieldAddr t x f =>
    match P.underlying t with
    | some (.struct fs) => (fs[f]?).bind fun fd => (P.info? fd.type).bind fun i => if i.size = 0 then none else (cOpd N x).map (.fadr fd.offset)
    | _ => none
  | .field t x f =>
    match P.underlying t with
    | some (.struct fs) => (fs[f]?).bind fun fd => (cTy P fd.type).bind fun (g, s) => if g ∨ s = 1 then (cOpd N x).map (.fld g fd.offset s) else none
    | _ => none
  | .indexAddr t x i =>
    match P.underlying t with
    | some (.slice e) => (P.info? e).bind fun j => (cOpd N x).bind fun a => (cOpd N i).map (.iadr j.size a)
    | _ => none
  | .index t x i =>
    match P.underlying t with
    | some .string => (cOpd N x).bind fun a => (cOpd N i).map (.idx a)
    | _ => none
  | .slice t x lo hi mx =>
    match P.underlying t with
    | some .string => (cOpd N x).bind fun a => (cOptOpd N lo).bind fun l => (cOptOpd N hi).bind fun h => if mx.isSome then none else some (.slc true 0 a l h none)
    | some (.slice e) => (P.info? e).bind fun i => (cOpd N x).bind fun a => (cOptOpd N lo).bind fun l => (cOptOpd N hi).bind fun h => (cOptOpd N mx).bind fun m => some (.slc false i.size a l h m)
    | _ => none
  | .pick c x y => (cOpd N c).bind fun z => (cOpd N x).bind fun a => (cOpd N y).map (.pick z a)
  | .extract x i => (cOpd N x).map fun a => .ext a i
  | .makeFunc (.func f) first caps => if first.size = 0 then (cOpds N caps.toList).map (.mkfn f) else none
  | .call c =>
    match c.callee with
    | .value f => (cOpd N f).bind fun g => (cOpds N c.args.toList).map (.call pr g)
    | .builtin .len =>
      match c.argTypes.toList, c.args.toList with
      | [t], [x] =>
        match P.underlying t with
        | some .string => (cOpd N x).map (.len true)
        | some (.slice _) => (cOpd N x).map (.len false)
        | _ => none
      | _, _ => none
    | .builtin .append =>
      match c.argTypes.toList, c.args.toList with
      | [t, u], [x, y] =>
        match P.underlying t with
        | some (.slice e) => (cZero P e).bind fun z => (P.info? e).bind fun i => if u = t ∧ z.cells.size = i.size ∧ 0 < i.size ∧ 0 < i.bytes then (cOpd N x).bind fun a => (cOpd N y).map (.app e i.size i.bytes a)
          else if isStrD (P.underlying u) && isZ8 i.zero && i.size == 1 && i.bytes == 1 then (cOpd N x).bind fun a => (cOpd N y).map (.apps e a) else none
        | _ => none
      | _, _ => none
    | .builtin .min => (cOpds N c.args.toList).map (.minmax false)
    | .builtin .max => (cOpds N c.args.toList).map (.minmax true)
    | .builtin .unsafeSliceData =>
      match c.args.toList with
      | [x] => (cOpd N x).map .sdat
      | _ => none
    | .builtin .unsafeString =>
      match c.argTypes.toList, c.args.toList with
      | [pt, _], [x, y] =>
        match P.underlying pt with
        | some (.pointer e) => if P.cellsOf e = 1 then (cOpd N x).bind fun a => (cOpd N y).map (.ustr e a) else none
        | _ => none
      | _, _ => none
    | _ => none
  | _ => none

def cIns (P : Program) (N : Nat) (pr : Bool) (ops : Array Oper) (o : Oper) : Option MIns :=
  (cOp P N pr o).bind fun m =>
  (match o.dst with | none => some none | some d => if d < N then some (some d) else none).bind fun d =>
  (match o.guard with | none => some none | some (j, b) => ((ops[j]?).bind (·.dst)).bind fun g => if g < N then some (some (g, b)) else none).bind fun g =>
  some { dst := d, op := m, guard := g }

def cList (P : Program) (N : Nat) (pr : Bool) (ops : Array Oper) : List Oper → Option (List MIns)
  | [] => some []
  | o :: r => (cIns P N pr ops o).bind fun m => (cList P N pr ops r).bind fun l => some (m :: l)

/-! ### Regions that draw their order -/

/-- 0: it looks at the operands alone; 1: it reads variables and rows; 2: it makes or changes some. -/
def MOp.kind : MOp → Nat
  | .mv _ | .pick .. | .nilck _ | .bin .. | .not _ | .neg _ | .conv .. | .fadr .. | .fld .. | .idx .. | .ext .. | .mkfn .. | .len .. | .minmax .. => 0
  | .build .. | .bsl .. | .load .. | .iadr .. | .slc .. | .toU .. | .frU .. | .sdat .. => 1
  | .call b _ _ => if b then 1 else 2
  | .box .. | .zero .. | .store .. | .app .. | .apps .. | .ustr .. => 2

def Opd.slots : Opd → List Nat
  | .t k => [k]
  | .c _ => []
  | .v _ => []
def optSlots : Option Opd → List Nat
  | none => []
  | some x => x.slots

def MOp.slots : MOp → List Nat
  | .mv x | .box _ x | .load _ _ x | .nilck x | .not x | .neg x | .conv _ x | .fadr _ x | .fld _ _ _ x | .ext x _ | .len _ x | .toU x | .frU _ _ x | .sdat x => x.slots
  | .zero .. => []
  | .build _ ps => ps.flatMap fun p => p.2.2.slots
  | .bsl _ _ _ ps => ps.flatMap fun p => p.2.slots
  | .store _ x v | .bin _ _ x v | .iadr _ x v | .idx x v | .app _ _ _ x v | .apps _ x v | .ustr _ x v => x.slots ++ v.slots
  | .pick c x y => c.slots ++ x.slots ++ y.slots
  | .slc _ _ x lo hi mx => x.slots ++ optSlots lo ++ optSlots hi ++ optSlots mx
  | .mkfn _ xs | .minmax _ xs => xs.flatMap Opd.slots
  | .call _ f xs => f.slots ++ xs.flatMap Opd.slots

def MIns.slots (m : MIns) : List Nat := m.op.slots ++ (match m.guard with | some (g, _) => [g] | none => [])

def MIns.apart (x y : MIns) : Bool :=
  (match x.dst with | some d => !y.slots.contains d && y.dst != some d | none => true) &&
  (match y.dst with | some d => !x.slots.contains d | none => true)

def predsOf (o : Oper) : List Nat := (o.after.toList.filter fun e => Region.binds .any e).map (·.on)

def ancStep (acc : List (List Nat)) (o : Oper) : List (List Nat) :=
  acc ++ [(predsOf o).flatMap fun j => j :: (acc[j]?).getD []]

def ancs (ops : Array Oper) : List (List Nat) := ops.toList.foldl ancStep []

def anAt (an : List (List Nat)) (i : Nat) : List Nat := (an[i]?).getD []

def indep (a b : MIns) : Bool := (a.op.kind == 0 || b.op.kind == 0 || (a.op.kind == 1 && b.op.kind == 1)) && a.apart b

def drawAt (ops : Array Oper) (ms : List MIns) (an : List (List Nat)) (i : Nat) : Bool :=
  match ops[i]?, ms[i]? with
  | some o, some m =>
    (anAt an i).all (fun j => (predsOf o).contains j || (predsOf o).any fun p => (anAt an p).contains j) &&
    (predsOf o).all (fun p => decide (p < i)) &&
    (List.range i).all fun j => (anAt an i).contains j || (match ms[j]? with | some b => indep m b | none => false)
  | _, _ => false

def drawOK (P : Program) (ops : Array Oper) (ms : List MIns) : Bool :=
  P.follows .mixedOrders && (List.range ops.size).all (drawAt ops ms (ancs ops))

def comp (P : Program) (N : Nat) : Code → Option MCode
  | .skip => some .skip
  | .region _ ops draw => some (match cList P N draw ops ops.toList with
    | none => .stuck
    | some ms => if draw && !drawOK P ops ms then .stuck else .reg ms)
  | .seq a b => (comp P N a).bind fun x => (comp P N b).bind fun y => some (.seq x y)
  | .cond c a b => match cOpd N c with
    | none => some .stuck
    | some z => (comp P N a).bind fun x => (comp P N b).bind fun y => some (.cond z x y)
  | .block id c => (comp P N c).map (.block id)
  | .loop c => (comp P N c).map .loop
  | .rangeFunc f ps a b => match cOpd N f with
    | none => some .stuck
    | some z => if ps.toList.all (fun t => decide (t < N)) then (comp P N a).bind fun x => (comp P N b).bind fun y => some (.range z ps.toList x y) else some .stuck
  | .exit id => some (.exit id)
  | .ret => some .ret
  | _ => some .stuck

end Cr
