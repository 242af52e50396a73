/- The values of the logic over abstract states, and what they stand for in memory. -/
import Derived.Calls
import Derived.Below
import Derived.Orders
import Derived.Laws.Tables
import Derived.RangeFuncIn
import Derived.RangeFuncRecord
import Derived.RangeFuncLeaves
import Derived.OrdersIn
namespace Cr
open Go Go.RowKit

abbrev Str := List UInt8
abbrev RO := Nat → Nat → Prop

/-- A value that never changes: numbers, texts, lists, structs, pointers to what is only read. -/
inductive PV where
  | lit (v : Value)
  | int (k : IntKind) (n : Int)
  | bool (b : Bool)
  | str (s : Str)
  | sl (cap : Option Nat) (es : List PV)
  | agg (cs : List PV)
  | rp (ps : List PV) (off : Nat)
  | fnv (f : FuncId)
  deriving Inhabited

def PV.cells : PV → List PV
  | .agg cs => cs
  | p => [p]

def big : Nat := 140737488355328
def huge : Nat := 9223372036854775807

inductive PRep (ro : RO) (w : World) : PV → Value → Prop
  | lit (v : Value) (h : v.oneCell' = true) : PRep ro w (.lit v) v
  | int (k : IntKind) (n : Int) : PRep ro w (.int k n) (.int k n)
  | bool (b : Bool) : PRep ro w (.bool b) (.bool b)
  | str (s : Str) (h : s.length ≤ big) : PRep ro w (.str s) (.string ⟨s.toArray⟩)
  | sl (cap : Option Nat) (es : List PV) (a : Option Addr) (c b o sz : Nat) (f : Nat → Value) (hcap : ∀ q, cap = some q → q = c)
      (hlen : es.length ≤ c) (hmax : es.length ≤ big) (hc : c ≤ huge) (hsz : ∀ e ∈ es, e.cells.length = sz)
      (ha : es = [] ∨ a = some ⟨b, o, none⟩)
      (hro : ∀ (i : Nat) p, (es.flatMap PV.cells)[i]? = some p → ro b (o + i) ∧ w.cell? ⟨b, o + i, none⟩ = some (f i))
      (h1 : ∀ (i : Nat) p, (es.flatMap PV.cells)[i]? = some p → (f i).oneCell' = true)
      (hrep : ∀ (i : Nat) p, (es.flatMap PV.cells)[i]? = some p → PRep ro w p (f i)) : PRep ro w (.sl cap es) (.slice a es.length c)
  | agg (cs : List PV) (xs : List Value) (hl : cs.length = xs.length) (h1 : ∀ x ∈ xs, x.oneCell' = true) (hrep : ∀ (i : Nat) p x, cs[i]? = some p → xs[i]? = some x → PRep ro w p x) : PRep ro w (.agg cs) (.agg xs.toArray)
  | fnv (f : FuncId) : PRep ro w (.fnv f) (.func (.func f) #[] #[])
  | rp (ps : List PV) (off b o : Nat) (f : Nat → Value)
      (hro : ∀ (i : Nat) p, ps[i]? = some p → ro b (o + i) ∧ w.cell? ⟨b, o + i, none⟩ = some (f i))
      (h1 : ∀ (i : Nat) p, ps[i]? = some p → (f i).oneCell' = true)
      (hrep : ∀ (i : Nat) p, ps[i]? = some p → PRep ro w p (f i)) : PRep ro w (.rp ps off) (.pointer (some ⟨b, o + off, none⟩))

/-- What is only read reads the same in a later world. -/
def Later (ro : RO) (w : World) (ro' : RO) (w' : World) : Prop := ∀ b o, ro b o → ro' b o ∧ w'.cell? ⟨b, o, none⟩ = w.cell? ⟨b, o, none⟩

theorem Later.refl (ro : RO) (w : World) : Later ro w ro w := fun _ _ h => ⟨h, rfl⟩
theorem Later.trans {ro ro' ro'' : RO} {w w' w'' : World} (h : Later ro w ro' w') (k : Later ro' w' ro'' w'') : Later ro w ro'' w'' :=
  fun b o hr => ⟨(k b o (h b o hr).1).1, ((k b o (h b o hr).1).2).trans (h b o hr).2⟩

theorem PRep.later {ro ro' : RO} {w w' : World} (hl : Later ro w ro' w') {p : PV} {x : Value} (h : PRep ro w p x) : PRep ro' w' p x := by
  induction h with
  | lit v h => exact .lit v h
  | int k n => exact .int k n
  | bool b => exact .bool b
  | str s h => exact .str s h
  | sl cap es a c b o sz f hcap hlen hmax hc hsz ha hro h1 hrep ih =>
    exact .sl cap es a c b o sz f hcap hlen hmax hc hsz ha (fun i p hp => ⟨(hl _ _ (hro i p hp).1).1, ((hl _ _ (hro i p hp).1).2).trans (hro i p hp).2⟩) h1 ih
  | agg cs xs hlen h1 hrep ih => exact .agg cs xs hlen h1 ih
  | fnv f => exact .fnv f
  | rp ps off b o f hro h1 hrep ih =>
    exact .rp ps off b o f (fun i p hp => ⟨(hl _ _ (hro i p hp).1).1, ((hl _ _ (hro i p hp).1).2).trans (hro i p hp).2⟩) h1 ih

/-- A value in a slot. 'ptr n off': into the variable named n; 'rs n len': the first len elements of the growing row named n; 'rh n len': where that row began when it had len elements; 'sa n gen off len cap': a slice of the array named n as it is since its generation gen; 'pe n gen c': its cell c; 'yf n': the function yield of the loop n. -/
inductive AV where
  | pv (p : PV)
  | ptr (n off : Nat)
  | rs (n len : Nat)
  | sa (n gen off len : Nat) (cap : Option Nat)
  | pe (n gen c : Nat)
  | rh (n len : Nat)
  | yf (n : Nat)
  | fn (f : FuncId) (caps : List AV)
  | ag (cs : List AV)
  | tup (vs : List AV)
  | any
  deriving Inhabited

inductive Ob where
  | box (t : TypeId) (cs : List AV)
  | row (t : TypeId) (sz : Nat) (es : List PV)
  | arr (t : TypeId) (gen sz : Nat) (cs : List AV)
  | lrec (st : Nat) (r : Loop) (cs : List AV)
  deriving Inhabited

structure Place where
  b : Nat
  o : Nat
  c : Nat

abbrev Places := Nat → Option Place
abbrev Obs := Nat → Option Ob

inductive ARep (ι : Places) (ob : Obs) (ro : RO) (w : World) : AV → Value → Prop
  | any (x : Value) : ARep ι ob ro w .any x
  | pv (p : PV) (x : Value) (h : PRep ro w p x) : ARep ι ob ro w (.pv p) x
  | ptr (n off : Nat) (pl : Place) (t : TypeId) (cs : List AV) (h : ι n = some pl) (hb : ob n = some (.box t cs)) (h0 : pl.o = 0) : ARep ι ob ro w (.ptr n off) (.pointer (some ⟨pl.b, off, none⟩))
  | rs (n len : Nat) (t : TypeId) (sz : Nat) (es : List PV) (x : Value) (ho : ob n = some (.row t sz es)) (hl : len ≤ es.length) (hp : PRep ro w (.sl none (es.take len)) x)
      (hfull : len = es.length → ι n = none → ∃ a, x = .slice a len len)
      (hown : ∀ pl, len = es.length → ι n = some pl → x = .slice (some ⟨pl.b, pl.o, none⟩) len pl.c) : ARep ι ob ro w (.rs n len) x
  | sa (n gen off len : Nat) (cap : Option Nat) (t : TypeId) (g sz : Nat) (cs : List AV) (x : Value) (ho : ob n = some (.arr t g sz cs)) (hg : gen ≤ g) (hx : ∃ a k c, x = .slice a k c)
      (h : gen = g → (off + len) * sz ≤ cs.length ∧ (ι n = none → len = 0 ∧ off = 0 ∧ ∃ a, x = .slice a 0 0) ∧ ∀ pl, ι n = some pl → len ≤ cap.getD (pl.c - off) ∧ x = .slice (some ⟨pl.b, off * sz, none⟩) len (cap.getD (pl.c - off))) : ARep ι ob ro w (.sa n gen off len cap) x
  | pe (n gen c : Nat) (t : TypeId) (g sz : Nat) (cs : List AV) (x : Value) (ho : ob n = some (.arr t g sz cs)) (hg : gen ≤ g) (hx : ∃ a, x = .pointer a)
      (h : gen = g → c < cs.length ∧ ∃ pl, ι n = some pl ∧ x = .pointer (some ⟨pl.b, c, none⟩)) : ARep ι ob ro w (.pe n gen c) x
  | yf (n : Nat) (b : Nat) (r : Loop) (cs : List AV) (pl : Place) (ho : ob n = some (.lrec b r cs)) (hp : ι n = some pl) : ARep ι ob ro w (.yf n) (.func (.yield pl.b) #[] #[])
  | rh (n len : Nat) (t : TypeId) (sz : Nat) (es : List PV) (x : Value) (ho : ob n = some (.row t sz es)) (hl : len ≤ es.length) (hx : ∃ a c, x = .pointer a ∧ PRep ro w (.sl none (es.take len)) (.slice a len c))
      (hown : ∀ pl, len = es.length → ι n = some pl → x = .pointer (some ⟨pl.b, pl.o, none⟩)) : ARep ι ob ro w (.rh n len) x
  | fn (f : FuncId) (caps : List AV) (xs : List Value) (hl : caps.length = xs.length) (hrep : ∀ (i : Nat) p x, caps[i]? = some p → xs[i]? = some x → ARep ι ob ro w p x) : ARep ι ob ro w (.fn f caps) (.func (.func f) #[] xs.toArray)
  | ag (cs : List AV) (xs : List Value) (hl : cs.length = xs.length) (h1 : ∀ x ∈ xs, x.oneCell' = true) (hrep : ∀ (i : Nat) p x, cs[i]? = some p → xs[i]? = some x → ARep ι ob ro w p x) : ARep ι ob ro w (.ag cs) (.agg xs.toArray)
  | tup (cs : List AV) (xs : List Value) (hl : cs.length = xs.length) (hrep : ∀ (i : Nat) p x, cs[i]? = some p → xs[i]? = some x → ARep ι ob ro w p x) : ARep ι ob ro w (.tup cs) (.tuple xs.toArray)

/-- A later state: variables stay where they are, rows grow. -/
structure Grew (ι : Places) (ob : Obs) (ro : RO) (w : World) (ι' : Places) (ob' : Obs) (ro' : RO) (w' : World) : Prop where
  later : Later ro w ro' w'
  box : ∀ n t cs, ob n = some (.box t cs) → ∃ cs', ob' n = some (.box t cs') ∧ ι' n = ι n
  row : ∀ n t sz es, ob n = some (.row t sz es) → ∃ es', ob' n = some (.row t sz (es ++ es')) ∧ (es' = [] → ι' n = ι n)
  arr : ∀ n t g sz es, ob n = some (.arr t g sz es) → ∃ g' es', ob' n = some (.arr t g' sz es') ∧ g ≤ g' ∧ (g = g' → es'.length = es.length ∧ ι' n = ι n)
  lrec : ∀ n b r cs, ob n = some (.lrec b r cs) → ∃ b' cs', ob' n = some (.lrec b' r cs') ∧ ι' n = ι n

theorem Grew.refl (ι : Places) (ob : Obs) (ro : RO) (w : World) : Grew ι ob ro w ι ob ro w :=
  ⟨.refl _ _, fun n t cs h => ⟨cs, h, rfl⟩, fun n t sz es h => ⟨[], by simpa using h, fun _ => rfl⟩, fun n t g sz es h => ⟨g, es, h, Nat.le_refl _, fun _ => ⟨rfl, rfl⟩⟩, fun n b r cs h => ⟨b, cs, h, rfl⟩⟩

theorem Grew.trans {ι ι' ι'' : Places} {ob ob' ob'' : Obs} {ro ro' ro'' : RO} {w w' w'' : World} (h : Grew ι ob ro w ι' ob' ro' w') (k : Grew ι' ob' ro' w' ι'' ob'' ro'' w'') : Grew ι ob ro w ι'' ob'' ro'' w'' := by
  refine ⟨h.later.trans k.later, ?_, ?_, ?_, ?_⟩
  · intro n t cs e
    obtain ⟨c1, a1, a2⟩ := h.box n t cs e
    obtain ⟨c2, b1, b2⟩ := k.box n t c1 a1
    exact ⟨c2, b1, b2.trans a2⟩
  · intro n t sz es e
    obtain ⟨c1, a1, a2⟩ := h.row n t sz es e
    obtain ⟨c2, b1, b2⟩ := k.row n t sz _ a1
    refine ⟨c1 ++ c2, by rw [← List.append_assoc]; exact b1, fun e' => ?_⟩
    obtain ⟨e1, e2⟩ := List.append_eq_nil_iff.mp e'
    exact (b2 e2).trans (a2 e1)
  · intro n t g sz es e
    obtain ⟨g1, c1, a1, a2, a3⟩ := h.arr n t g sz es e
    obtain ⟨g2, c2, b1, b2, b3⟩ := k.arr n t g1 sz c1 a1
    refine ⟨g2, c2, b1, Nat.le_trans a2 b2, fun e' => ?_⟩
    obtain ⟨x1, x2⟩ := a3 (by omega)
    obtain ⟨y1, y2⟩ := b3 (by omega)
    exact ⟨y1.trans x1, y2.trans x2⟩
  · intro n b r cs e
    obtain ⟨b1, d1, a1, a2⟩ := h.lrec n b r cs e
    obtain ⟨b2, d2, c1, c2⟩ := k.lrec n b1 r d1 a1
    exact ⟨b2, d2, c1, c2.trans a2⟩

theorem ARep.grew {ι ι' : Places} {ob ob' : Obs} {ro ro' : RO} {w w' : World} (g : Grew ι ob ro w ι' ob' ro' w') {v : AV} {x : Value} (h : ARep ι ob ro w v x) : ARep ι' ob' ro' w' v x := by
  induction h with
  | any x => exact .any x
  | pv p x h => exact .pv p x (h.later g.later)
  | ptr n off pl t cs h hb h0 =>
    obtain ⟨cs', h1, h2⟩ := g.box n t cs hb
    exact .ptr n off pl t cs' (h2.trans h) h1 h0
  | rs n len t sz es x ho hl hp hfull hown =>
    obtain ⟨es', h1, h2⟩ := g.row n t sz es ho
    refine .rs n len t sz (es ++ es') x h1 (by simp; omega) ?_ ?_ ?_
    · rw [List.take_append_of_le_length hl]; exact hp.later g.later
    · intro he hn
      have : es' = [] := by
        have : es'.length = 0 := by simp at he; omega
        exact List.length_eq_zero_iff.mp this
      subst this
      exact hfull (by simpa using he) ((h2 rfl).symm.trans hn)
    · intro pl he hn
      have : es' = [] := by
        have : es'.length = 0 := by simp at he; omega
        exact List.length_eq_zero_iff.mp this
      subst this
      exact hown pl (by simpa using he) ((h2 rfl).symm.trans hn)
  | sa n gen off len cap t g1 sz es x ho hg hx h =>
    obtain ⟨g2, es', h1, h2, h3⟩ := g.arr n t g1 sz es ho
    refine .sa n gen off len cap t g2 sz es' x h1 (Nat.le_trans hg h2) hx fun e => ?_
    obtain ⟨k1, k2⟩ := h3 (by omega)
    rw [k1, k2]
    exact h (by omega)
  | pe n gen c t g1 sz es x ho hg hx h =>
    obtain ⟨g2, es', h1, h2, h3⟩ := g.arr n t g1 sz es ho
    refine .pe n gen c t g2 sz es' x h1 (Nat.le_trans hg h2) hx fun e => ?_
    obtain ⟨k1, k2⟩ := h3 (by omega)
    rw [k1, k2]
    exact h (by omega)
  | rh n len t sz es x ho hl hx hown =>
    obtain ⟨es', h1, h2⟩ := g.row n t sz es ho
    refine .rh n len t sz (es ++ es') x h1 (by simp; omega) (by obtain ⟨a, c, h1, h2⟩ := hx; rw [List.take_append_of_le_length hl]; exact ⟨a, c, h1, h2.later g.later⟩) ?_
    intro pl he hn
    have : es' = [] := by
      have : es'.length = 0 := by simp at he; omega
      exact List.length_eq_zero_iff.mp this
    subst this
    exact hown pl (by simpa using he) ((h2 rfl).symm.trans hn)
  | yf n b r cs pl ho hp =>
    obtain ⟨b', cs', h1, h2⟩ := g.lrec n b r cs ho
    exact .yf n b' r cs' pl h1 (h2.trans hp)
  | fn f caps xs hl hrep ih => exact .fn f caps xs hl ih
  | ag cs xs hl h1 hrep ih => exact .ag cs xs hl h1 ih
  | tup cs xs hl hrep ih => exact .tup cs xs hl ih

/-- Of what lay there only the blocks of B may have changed. -/
structure Keeps (B : Nat → Prop) (w w' : World) : Prop where
  os : w'.os = w.os
  tape : w'.tape = w.tape
  output : w'.output = w.output
  size : w.heap.size ≤ w'.heap.size
  block : ∀ k, k < w.heap.size → ¬ B k → w'.heap[k]? = w.heap[k]?

theorem Keeps.refl (B : Nat → Prop) (w : World) : Keeps B w w := ⟨rfl, rfl, rfl, Nat.le_refl _, fun _ _ _ => rfl⟩
theorem Keeps.trans {B : Nat → Prop} {a b c : World} (h : Keeps B a b) (k : Keeps B b c) : Keeps B a c :=
  ⟨k.os.trans h.os, k.tape.trans h.tape, k.output.trans h.output, Nat.le_trans h.size k.size, fun i hi hB => (k.block i (Nat.lt_of_lt_of_le hi h.size) hB).trans (h.block i hi hB)⟩
theorem Keeps.below {B : Nat → Prop} {w w' : World} (h : Keeps B w w') (hB : ∀ b, ¬ B b) : Below w.heap.size w w' := ⟨h.os, h.tape, h.output, h.size, fun k hk => h.block k hk (hB k)⟩
theorem Keeps.of_below {B : Nat → Prop} {w w' : World} (h : Below w.heap.size w w') : Keeps B w w' := ⟨h.os, h.tape, h.output, h.size, fun k hk _ => h.block k hk⟩

/-- A loop's record: 0: between two rounds; 1: left by 'return'; 2: in a round; 3, 4: over. -/
def lrecObj (st : Nat) (r : Loop) : Obj := .loop { r with state := if st = 0 then .ready else if st = 1 then .done else if st = 2 then .busy else .exhausted, pending := if st = 1 ∨ st = 4 then some .ret else none }

def RepAll (ι : Places) (ob : Obs) (ro : RO) (w : World) (cs : List AV) (xs : List Value) : Prop :=
  cs.length = xs.length ∧ ∀ (i : Nat) p x, cs[i]? = some p → xs[i]? = some x → ARep ι ob ro w p x

def OHas (ι : Places) (ob : Obs) (ro : RO) (w : World) (n : Nat) : Ob → Prop
  | .box ety cs => ∃ pl cur, ι n = some pl ∧ pl.o = 0 ∧ w.heap[pl.b]? = some (.cells cur ety (0, 0)) ∧ RepAll ι ob ro w cs cur.toList ∧ (∀ v ∈ cur.toList, v.oneCell' = true) ∧ ∀ o, ¬ ro pl.b o
  | .row ety sz es => (∀ e ∈ es, e.cells.length = sz) ∧ (ι n = none → es = []) ∧ ∀ pl, ι n = some pl → ∃ cur fz, w.heap[pl.b]? = some (.cells cur ety fz) ∧ fz.2 ≤ es.length * sz ∧ pl.o = 0 ∧ pl.c * sz ≤ cur.size ∧ es.length ≤ pl.c ∧ pl.c ≤ huge ∧ ∀ o, es.length * sz ≤ o → ¬ ro pl.b o
  | .arr t _ sz cs => (ι n = none → cs = []) ∧ ∀ pl, ι n = some pl → ∃ cur, w.heap[pl.b]? = some (.cells cur t (0, 0)) ∧ pl.o = 0 ∧ pl.c * sz ≤ cur.size ∧ cs.length ≤ pl.c * sz ∧ pl.c ≤ huge ∧ (∀ o, ¬ ro pl.b o) ∧
      RepAll ι ob ro w cs (cur.toList.take cs.length) ∧ (∀ v ∈ cur.toList, v.oneCell' = true)
  | .lrec st r cs => ∃ pl, ι n = some pl ∧ w.heap[pl.b]? = some (lrecObj st r) ∧ RepAll ι ob ro w cs r.tmps.toList

structure St where
  sl : Nat → AV
  ob : Obs

/-- How it was when the call began: the objects that came in, and what was only read. -/
structure Ent where
  w0 : World
  ro0 : RO
  ι0 : Places
  ob0 : Obs

def Ent.B (E : Ent) (b : Nat) : Prop := ∃ n pl, E.ι0 n = some pl ∧ pl.b = b

def coll (D : Nat) : Deferred := { target := .collected D, args := #[] }
/-- The loops over functions behind it have left their marks. -/
def DefsOK (E : Ent) (a : Act) (w : World) : Prop := ∃ ds : List Nat, a.defers = ds.map coll ∧ ds.Nodup ∧ ∀ D ∈ ds, E.w0.heap.size ≤ D ∧ w.heap[D]? = some (.deferred (some []))
theorem DefsOK.nil (E : Ent) (w : World) {a : Act} (h : a.defers = []) : DefsOK E a w := ⟨[], h, List.nodup_nil, fun _ h => by cases h⟩
theorem DefsOK.later {E : Ent} {a : Act} {w w' : World} (h : DefsOK E a w) (k : ∀ D : Nat, w.heap[D]? = some (.deferred (some [])) → w'.heap[D]? = some (.deferred (some []))) : DefsOK E a w' := by
  obtain ⟨ds, h1, h2, h3⟩ := h
  exact ⟨ds, h1, h2, fun D hD => ⟨(h3 D hD).1, k D (h3 D hD).2⟩⟩
theorem DefsOK.put {E : Ent} {a : Act} {w : World} (h : DefsOK E a w) (d : Option Nat) (x : Value) : DefsOK E (a.put d x) w := by
  cases d <;> exact h
theorem DefsOK.setRow {E : Ent} {a : Act} {w : World} (h : DefsOK E a w) {g : Nat} {cur : Array Value} {t : TypeId} {fz : Nat × Nat} (hg : w.heap[g]? = some (.cells cur t fz)) (cs : Array Value) : DefsOK E a (w.setRow g cs) :=
  h.later fun D hD => by
    by_cases e : D = g
    · subst e; rw [hg] at hD; cases hD
    · rw [setRow_other w g D cs e]; exact hD
theorem DefsOK.alloc {E : Ent} {a : Act} {w : World} (h : DefsOK E a w) (o : Obj) : DefsOK E a (w.alloc o) :=
  h.later fun D hD => (Below.heap_alloc w o D (Array.getElem?_eq_some_iff.1 hD).1).trans hD

/-- The machine's state is as the abstract state says. -/
structure SatI (N : Nat) (E : Ent) (σ : St) (a : Act) (w : World) (ι : Places) (ro : RO) : Prop where
  keeps : Keeps E.B E.w0 w
  size : a.tmps.size = N
  defers : DefsOK E a w
  slots : ∀ k, ARep ι σ.ob ro w (σ.sl k) (a.tmps.getD k undef)
  objs : ∀ n o, σ.ob n = some o → OHas ι σ.ob ro w n o
  dom : ∀ n pl, ι n = some pl → ∃ o, σ.ob n = some o
  inj : ∀ n m p q, ι n = some p → ι m = some q → p.b = q.b → n = m
  home : ∀ n p, ι n = some p → (E.B p.b ∨ E.w0.heap.size ≤ p.b)
  rolt : ∀ b o, ro b o → b < w.heap.size
  roold : ∀ b o, ro b o → E.ro0 b o ∨ E.B b ∨ E.w0.heap.size ≤ b
  gr : Grew E.ι0 E.ob0 E.ro0 E.w0 ι σ.ob ro w

def Sat (N : Nat) (E : Ent) (σ : St) (a : Act) (w : World) : Prop := ∃ ι ro, SatI N E σ a w ι ro

end Cr
