/- Loops, calls and functions over states as lists. -/
import Derived.Test.YtndjoodgimomiaaDoorFw18
import Derived.Laws.Externs
namespace Cr
open Go Go.RowKit

section
variable {X : Ctx}

theorem lookO_mem : ∀ {os : List (Nat × Ob)} {n : Nat} {o : Ob}, lookO os n = some o → (n, o) ∈ os
  | [], _, _, h => by cases h
  | (j, v) :: r, n, o, h => by
    simp only [lookO] at h
    split at h
    · rename_i e; cases h; rw [e]; exact List.mem_cons_self
    · exact List.mem_cons_of_mem _ (lookO_mem h)

theorem look_mem : ∀ {l : List (Nat × AV)} {k : Nat}, look l k = .any ∨ (k, look l k) ∈ l
  | [], _ => .inl rfl
  | (j, v) :: r, k => by
    simp only [look]
    split
    · rename_i e; right; rw [e]; exact List.mem_cons_self
    · rcases look_mem (l := r) (k := k) with h | h
      · exact .inl h
      · exact .inr (List.mem_cons_of_mem _ h)

/-- All of a list, one by one. -/
def AllL {α : Type} (p : α → Prop) : List α → Prop
  | [] => True
  | x :: r => p x ∧ AllL p r
@[simp] theorem allL_nil {α : Type} (p : α → Prop) : AllL p [] = True := (rfl)
@[simp] theorem allL_cons {α : Type} (p : α → Prop) (x : α) (r : List α) : AllL p (x :: r) = (p x ∧ AllL p r) := (rfl)
theorem allL_mem {α : Type} {p : α → Prop} : ∀ {l : List α}, AllL p l → ∀ x ∈ l, p x
  | _ :: r, h, x, hx => by
    rcases List.mem_cons.mp hx with e | e
    · rw [e]; exact h.1
    · exact allL_mem h.2 x e

theorem nodup_inj (f : Nat → Nat) : ∀ {os : List (Nat × Ob)}, (os.map fun p => f p.1).Nodup → ∀ n m o p, lookO os n = some o → lookO os m = some p → f n = f m → n = m := by
  intro os h n m o p hn hm e
  have h1 := lookO_mem hn
  have h2 := lookO_mem hm
  induction os with
  | nil => cases h1
  | cons x r ih =>
    simp only [List.map_cons, List.nodup_cons, List.mem_map, not_exists, not_and] at h
    rcases List.mem_cons.mp h1 with e1 | e1 <;> rcases List.mem_cons.mp h2 with e2 | e2
    · rw [← e1] at e2; cases e2; rfl
    · exact absurd (by rw [← e1]; exact e.symm) (h.1 _ e2)
    · exact absurd (by rw [← e2]; exact e) (h.1 _ e1)
    · have hn' : n ≠ x.1 := fun e' => h.1 _ e1 (by rw [e'])
      have hm' : m ≠ x.1 := fun e' => h.1 _ e2 (by rw [e'])
      obtain ⟨x1, x2⟩ := x
      simp only [lookO] at hn hm
      rw [if_neg hn'] at hn
      rw [if_neg hm'] at hm
      exact ih h.2 hn hm e1 e2

/-- The objects of os2, by the function's names, as the caller knows them. -/
theorem sub_of {os os2 : List (Nat × Ob)} {ρ : Nat → Nat} (h : AllL (fun p => MO (lookO os) ρ (lookO os2) p.1 p.2) os2) (hnd : (os2.map fun p => ρ p.1).Nodup) : Sub (lookO os) ρ (lookO os2) :=
  ⟨fun n o ho => allL_mem h _ (lookO_mem ho), fun n m o p hn hm e => nodup_inj ρ hnd n m o p hn hm e⟩

def backL (os : List (Nat × Ob)) (ρ : Nat → Nat) (os2 : List (Nat × Ob)) : List (Nat × Ob) := os2.foldl (fun a p => setk a (ρ p.1) (p.2.ren ρ)) os
@[simp] theorem backL_nil (os : List (Nat × Ob)) (ρ : Nat → Nat) : backL os ρ [] = os := (rfl)
@[simp] theorem backL_cons (os : List (Nat × Ob)) (ρ : Nat → Nat) (n : Nat) (o : Ob) (r : List (Nat × Ob)) : backL os ρ ((n, o) :: r) = backL (setk os (ρ n) (o.ren ρ)) ρ r := (rfl)

theorem backL_other {ρ : Nat → Nat} {m : Nat} : ∀ {os2 os : List (Nat × Ob)}, (∀ p ∈ os2, ρ p.1 ≠ m) → lookO (backL os ρ os2) m = lookO os m
  | [], os, _ => rfl
  | (n, o) :: r, os, h => by
    rw [backL_cons, backL_other fun p hp => h p (List.mem_cons_of_mem _ hp), lookO_setk]
    have : m ≠ ρ n := fun e => h (n, o) List.mem_cons_self e.symm
    simp [upd, this]

theorem backL_here {ρ : Nat → Nat} {n : Nat} {o : Ob} : ∀ {os2 os : List (Nat × Ob)}, (os2.map fun p => ρ p.1).Nodup → (n, o) ∈ os2 → lookO (backL os ρ os2) (ρ n) = some (o.ren ρ)
  | (j, v) :: r, os, hnd, h => by
    simp only [List.map_cons, List.nodup_cons, List.mem_map, not_exists, not_and] at hnd
    rw [backL_cons]
    rcases List.mem_cons.mp h with e | e
    · cases e
      rw [backL_other fun p hp => hnd.1 p hp, lookO_setk]
      simp [upd]
    · exact backL_here hnd.2 e

theorem back_of {os os1 os2 : List (Nat × Ob)} {ρ : Nat → Nat} (hnd : (os2.map fun p => ρ p.1).Nodup) (hf : AllL (fun p => lookO os1 p.1 = none → lookO os (ρ p.1) = none) os2) :
    Back (lookO os) ρ (lookO os1) ρ (lookO os2) (lookO (backL os ρ os2)) := by
  refine ⟨fun _ _ _ => rfl, fun n m o p hn hm e => nodup_inj ρ hnd n m o p hn hm e, fun n o hn h1 => allL_mem hf _ (lookO_mem hn) h1, fun n o hn => backL_here hnd (lookO_mem hn), ?_⟩
  intro m hm
  refine backL_other fun p hp => ?_
  intro e
  have : ∃ o, lookO os2 p.1 = some o := by
    cases h : lookO os2 p.1 with
    | some o => exact ⟨o, rfl⟩
    | none =>
      exfalso
      have : ∀ {l : List (Nat × Ob)}, p ∈ l → lookO l p.1 ≠ none := by
        intro l
        induction l with
        | nil => intro h; cases h
        | cons x r ih =>
          intro h
          obtain ⟨x1, x2⟩ := x
          simp only [lookO]
          split
          · simp
          · rename_i hne
            rcases List.mem_cons.mp h with e' | e'
            · rw [e'] at hne; exact absurd rfl hne
            · exact ih e'
      exact this hp h
  obtain ⟨o, ho⟩ := this
  exact hm _ o ho e

variable (d : Nat) (r : List It) (Q : MExit → St → Prop) (l : List (Nat × AV)) (os : List (Nat × Ob))

/-- A call by its contract; ρ: what the function's names are here. -/
theorem call_con {g : FuncId} {vs as rs : List AV} {os1 os2 : List (Nat × Ob)} (hc : Con X.P g as os1 rs os2) (ρ : Nat → Nat)
    (h1 : AllL (fun p => MO (lookO os) ρ (lookO os1) p.1 p.2) os1) (hnd1 : (os1.map fun p => ρ p.1).Nodup) (hnd2 : (os2.map fun p => ρ p.1).Nodup)
    (hf : AllL (fun p => lookO os1 p.1 = none → lookO os (ρ p.1) = none) os2) (hm : MAs (lookO os) ρ (lookO os1) vs as)
    (k : Run X r Q (mk (setk l d (retA (rs.map (AV.ren ρ)))) (backL os ρ os2))) : CallG X d g vs r Q l os := by
  refine ⟨as, os1, rs, os2, ρ, ρ, _, hc, sub_of h1 hnd1, hm, back_of hnd2 hf, ?_⟩
  show contQ X r Q .normal (St.put _ _ _)
  rw [put_mk]; exact k

variable {d r Q l os}

/-- One round of a loop. -/
theorem LoopG.step {c : MCode} {σ : St} (h : ∀ c', c' = c → Run X (.code c :: .again c' :: r) Q σ) : LoopG X c r Q σ := by
  refine Ok.unroll ?_
  have e : thenQ (X.Ok (.loop c) (contQ X r Q)) (contQ X r Q) = contQ X (.again c :: r) Q := by
    funext e σ'; cases e <;> rfl
  rw [e]; exact h c rfl

/-- What is told of a state, told less. -/
theorem LoopG.weaken {c : MCode} {l' : List (Nat × AV)} {os' : List (Nat × Ob)} (h : LoopG X c r Q (mk l' os')) (h1 : AllL (fun p => MO (lookO os) id (lookO os') p.1 p.2) os') (hnd : (os'.map fun p => p.1).Nodup)
    (hh : ∀ n o, X.E.ob0 n = some o → ∃ o', lookO os' n = some o') (hl : AllL (fun p => MA (lookO os) id (lookO os') (look l p.1) p.2) l') : LoopG X c r Q (mk l os) := by
  refine Ok.weaken h ⟨sub_of h1 hnd, fun n o hn => ⟨rfl, hh n o hn⟩, fun k => ?_⟩
  show MA (lookO os) id (lookO os') (look l k) (look l' k)
  rcases look_mem (l := l') (k := k) with e | e
  · rw [e]; exact .any _
  · exact allL_mem hl _ e

/-- A loop by a measure: 'inv' and 'ob' tell the states between its rounds. -/
theorem LoopG.ind {α : Type} {c : MCode} (μ : α → Nat) (good : α → Prop) (inv : α → List (Nat × AV)) (ob : α → List (Nat × Ob)) (a : α) (hh : ∀ b, good b → ∀ n o, X.E.ob0 n = some o → ∃ o', lookO (ob b) n = some o')
    (ha : good a) (h1 : AllL (fun p => MO (lookO os) id (lookO (ob a)) p.1 p.2) (ob a)) (hnd : ((ob a).map fun p => p.1).Nodup) (hl : AllL (fun p => MA (lookO os) id (lookO (ob a)) (look l p.1) p.2) (inv a))
    (step : ∀ a c', good a → (∀ b l os, μ b < μ a → good b → AllL (fun p => MO (lookO os) id (lookO (ob b)) p.1 p.2) (ob b) → ((ob b).map fun p => p.1).Nodup → AllL (fun p => MA (lookO os) id (lookO (ob b)) (look l p.1) p.2) (inv b) → LoopG X c' r Q (mk l os)) →
      Run X (.code c :: .again c' :: r) Q (mk (inv a) (ob a))) : LoopG X c r Q (mk l os) := by
  have key : ∀ n a, μ a < n → good a → LoopG X c r Q (mk (inv a) (ob a)) := by
    intro n
    induction n with
    | zero => intro a h; omega
    | succ n ih =>
      intro a hn hg
      refine LoopG.step fun c' hc => ?_
      subst hc
      exact step a c' hg fun b l os hb hgb k1 k2 k3 => LoopG.weaken (ih b (by omega) hgb) k1 k2 (hh b hgb) k3
  exact LoopG.weaken (key _ a (Nat.lt_succ_self _) ha) h1 hnd (hh a ha) hl

/-- A row that has no place yet: a slice without room. -/
theorem Sat.ghost {k n sz : Nat} {t : TypeId} {es : List PV} (hk : look l k = .pv (.sl (some es.length) es)) (hes : es = []) (hn : lookO os n = none) (hsz : ∀ e ∈ es, e.cells.length = sz) {a : Act} {w : World}
    (h : X.Sat (mk l os) a w) : X.Sat (mk (setk l k (.rs n es.length)) (setk os n (.row t sz es))) a w := by
  obtain ⟨ι, ro, hS⟩ := h
  have hn' : (mk l os).ob n = none := hn
  have hnot : ∀ m pl, ι m = some pl → m ≠ n := fun m pl hm e' => by
    subst e'
    obtain ⟨ob, hob⟩ := hS.dom _ _ hm
    rw [hn'] at hob; cases hob
  have hιn : ι n = none := by
    cases h : ι n with
    | none => rfl
    | some pl => exact absurd rfl (hnot n pl h)
  have g : Grew ι (mk l os).ob ro w ι (upd (mk l os).ob n (.row t sz es)) ro w := by
    refine ⟨.refl _ _, ?_, ?_, ?_, fun m b r c3 hc => ⟨b, c3, by simp [upd, show m ≠ n from fun e' => by (subst e'; rw [hn'] at hc; cases hc), hc], rfl⟩⟩
    · intro m t' cs hc
      have e' : m ≠ n := fun e' => by subst e'; rw [hn'] at hc; cases hc
      exact ⟨cs, by simp [upd, e', hc], rfl⟩
    · intro m t' sz es' hc
      have e' : m ≠ n := fun e' => by subst e'; rw [hn'] at hc; cases hc
      exact ⟨[], by simp [upd, e', hc], fun _ => rfl⟩
    · intro m t' gn sz es' hc
      have e' : m ≠ n := fun e' => by subst e'; rw [hn'] at hc; cases hc
      exact ⟨gn, es', by simp [upd, e', hc], Nat.le_refl _, fun _ => ⟨rfl, rfl⟩⟩
  have hob : (mk (setk l k (.rs n es.length)) (setk os n (.row t sz es))).ob = upd (mk l os).ob n (.row t sz es) := lookO_setk os n _
  refine ⟨ι, ro, ⟨hS.keeps, hS.size, hS.defers, ?_, ?_, ?_, hS.inj, hS.home, hS.rolt, hS.roold, ?_⟩⟩
  · intro j
    rw [hob]
    show ARep ι _ ro w (look (setk l k (.rs n es.length)) j) _
    rw [look_setk]
    split
    · rename_i e; subst e
      have hr := hS.slots j
      rw [show (mk l os).sl j = .pv (.sl (some es.length) es) from hk] at hr
      generalize a.tmps.getD j undef = x at hr
      cases hr with
      | pv _ _ hp =>
        cases hp with
        | sl _ _ ad c b o sz2 f hcap hlen hmax hc hsz2 ha hro h1 hrep =>
          have hcc := hcap _ rfl
          refine .rs n es.length t sz es _ (by simp [upd]) (Nat.le_refl _) ?_ ?_ ?_
          · rw [List.take_length]
            exact .sl none es ad c b o sz2 f (fun _ h => by cases h) hlen hmax hc hsz2 ha hro h1 hrep
          · intro _ _; exact ⟨ad, by rw [← hcc]⟩
          · intro pl _ h; rw [hιn] at h; cases h
    · exact (hS.slots j).grew g
  · intro m ob hob'
    rw [hob] at hob' ⊢
    simp only [upd] at hob'
    split at hob'
    · rename_i e'; subst e'; cases hob'
      exact ⟨hsz, fun _ => hes, fun pl hpl => by rw [hιn] at hpl; cases hpl⟩
    · exact (hS.objs m ob hob').moved g rfl (fun _ _ => rfl) (fun _ _ _ h => h)
  · intro m pl hpl
    rw [hob]
    obtain ⟨ob, hob'⟩ := hS.dom m pl hpl
    exact ⟨ob, by simp [upd, hnot m pl hpl, hob']⟩
  · rw [hob]; exact hS.gr.trans g

theorem LoopG.ghost {c : MCode} (k n : Nat) (t : TypeId) (sz : Nat) {es : List PV} (hk : look l k = .pv (.sl (some es.length) es)) (hn : lookO os n = none) (hsz : ∀ e ∈ es, e.cells.length = sz)
    (h : LoopG X c r Q (mk (setk l k (.rs n es.length)) (setk os n (.row t sz es)))) (hes : es = [] := by rfl) : LoopG X c r Q (mk l os) :=
  fun code hc a w hS => h code hc a w (Sat.ghost hk hes hn hsz hS)

/-! What is told of a value is told of it also so. -/
theorem PLe.refl (p : PV) : PLe p p := fun _ _ _ h => h
theorem PLe.cap (c : Option Nat) (es : List PV) : PLe (.sl c es) (.sl none es) := by
  intro ro w x h
  cases h with
  | sl _ _ a c b o sz f hcap hlen hmax hc hsz ha hro h1 hrep => exact .sl none es a c b o sz f (fun _ h => by cases h) hlen hmax hc hsz ha hro h1 hrep
theorem ma_pv {ob ob' : Obs} {ρ : Nat → Nat} {p q : PV} (h : p = q) : MA ob ρ ob' (.pv p) (.pv q) := by rw [h]; exact .pv _ q q rfl (.refl q)
@[simp] theorem ma_refl {ob ob' : Obs} {ρ : Nat → Nat} {p : PV} : MA ob ρ ob' (.pv p) (.pv p) := ma_pv rfl
@[simp] theorem ma_refl_any {ob ob' : Obs} {ρ : Nat → Nat} {v : AV} : MA ob ρ ob' v .any := .any v
@[simp] theorem ma_refl_sl {ob ob' : Obs} {ρ : Nat → Nat} {c : Option Nat} {es : List PV} : MA ob ρ ob' (.pv (.sl c es)) (.pv (.sl none es)) := .pv _ _ _ rfl (.cap c es)
theorem ma_sl {ob ob' : Obs} {ρ : Nat → Nat} {c : Option Nat} {es fs : List PV} (h : es = fs) : MA ob ρ ob' (.pv (.sl c es)) (.pv (.sl none fs)) := by rw [h]; exact .pv _ _ _ rfl (.cap c fs)
theorem ma_row {os os' : List (Nat × Ob)} {ρ : Nat → Nat} {n len : Nat} {fs : List PV} {t : TypeId} {sz : Nat} {es : List PV} (h : lookO os n = some (.row t sz es)) (h2 : es.take len = fs) : MA (lookO os) ρ (lookO os') (.rs n len) (.pv (.sl none fs)) :=
  .pv _ (.sl none fs) _ (by simp [h, h2]) (.refl _)
theorem ma_any {ob ob' : Obs} {ρ : Nat → Nat} {v : AV} : MA ob ρ ob' v .any := .any v
theorem ma_ptr {ob : Obs} {os' : List (Nat × Ob)} {ρ : Nat → Nat} {n m off : Nat} {t : TypeId} {cs : List AV} (h : lookO os' n = some (.box t cs)) (e : m = ρ n) : MA ob ρ (lookO os') (.ptr m off) (.ptr n off) := by rw [e]; exact .ptr n off t cs h
theorem ma_rs {ob : Obs} {os' : List (Nat × Ob)} {ρ : Nat → Nat} {n m len k : Nat} {t : TypeId} {sz : Nat} {es : List PV} (h : lookO os' n = some (.row t sz es)) (e : m = ρ n) (e2 : len = k) : MA ob ρ (lookO os') (.rs m len) (.rs n k) := by rw [e, e2]; exact .rs n k t sz es h
theorem mas_nil {ob ob' : Obs} {ρ : Nat → Nat} : MAs ob ρ ob' [] [] := ⟨rfl, by simp⟩
theorem mas_cons {ob ob' : Obs} {ρ : Nat → Nat} {v v' : AV} {r r' : List AV} (h : MA ob ρ ob' v v') (k : MAs ob ρ ob' r r') : MAs ob ρ ob' (v :: r) (v' :: r') := by
  refine ⟨by simp [k.1], ?_⟩
  intro i p p' hp hp'
  cases i with
  | zero => simp at hp hp'; subst hp hp'; exact h
  | succ i => exact k.2 i p p' (by simpa using hp) (by simpa using hp')
theorem ma_fn {ob ob' : Obs} {ρ : Nat → Nat} {f : FuncId} {cs cs' : List AV} (h : MAs ob ρ ob' cs cs') : MA ob ρ ob' (.fn f cs) (.fn f cs') := .fn f cs cs' h.1 h.2
theorem ma_ag {ob ob' : Obs} {ρ : Nat → Nat} {cs cs' : List AV} (h : MAs ob ρ ob' cs cs') : MA ob ρ ob' (.ag cs) (.ag cs') := .ag cs cs' h.1 h.2
theorem mo_box {os os' : List (Nat × Ob)} {ρ : Nat → Nat} {n : Nat} {t : TypeId} {cs cs' : List AV} (h : lookO os (ρ n) = some (.box t cs)) (k : MAs (lookO os) ρ (lookO os') cs cs') : MO (lookO os) ρ (lookO os') n (.box t cs') := ⟨cs, h, k⟩
theorem mo_row {os os' : List (Nat × Ob)} {ρ : Nat → Nat} {n sz sz' : Nat} {t : TypeId} {es es' : List PV} (h : lookO os (ρ n) = some (.row t sz' es')) (e : sz' = sz) (e2 : es' = es) : MO (lookO os) ρ (lookO os') n (.row t sz es) := by
  subst e e2; exact h
theorem ples_nil : PLes [] [] := ⟨rfl, by simp⟩
theorem ples_cons {p q : PV} {ps qs : List PV} (h : PLe p q) (k : PLes ps qs) : PLes (p :: ps) (q :: qs) := by
  refine ⟨by simp [k.1], ?_⟩
  intro i a b ha hb
  cases i with
  | zero => simp at ha hb; subst ha hb; exact h
  | succ i => exact k.2 i a b (by simpa using ha) (by simpa using hb)

def IsRow : Option Ob → Prop
  | some (.row _ _ _) => True
  | _ => False
def IsBox : Option Ob → Prop
  | some (.box _ _) => True
  | _ => False
@[simp] theorem isRow_row (t : TypeId) (sz : Nat) (es : List PV) : IsRow (some (.row t sz es)) = True := (rfl)
@[simp] theorem isBox_box (t : TypeId) (cs : List AV) : IsBox (some (.box t cs)) = True := (rfl)
@[simp] theorem MA_rs {ob ob' : Obs} {ρ : Nat → Nat} {m n len k : Nat} : MA ob ρ ob' (.rs m len) (.rs n k) = (m = ρ n ∧ len = k ∧ IsRow (ob' n)) := by
  apply propext
  constructor
  · intro h
    cases h with
    | rs _ _ t sz es h => exact ⟨rfl, rfl, by rw [h]; trivial⟩
  · rintro ⟨rfl, rfl, h⟩
    unfold IsRow at h
    split at h
    · rename_i t sz es e; exact .rs n len t sz es e
    · exact h.elim
@[simp] theorem MA_ptr {ob ob' : Obs} {ρ : Nat → Nat} {m n o o' : Nat} : MA ob ρ ob' (.ptr m o) (.ptr n o') = (m = ρ n ∧ o = o' ∧ IsBox (ob' n)) := by
  apply propext
  constructor
  · intro h
    cases h with
    | ptr _ _ t cs h => exact ⟨rfl, rfl, by rw [h]; trivial⟩
  · rintro ⟨rfl, rfl, h⟩
    unfold IsBox at h
    split at h
    · rename_i t cs e; exact .ptr n o t cs e
    · exact h.elim
@[simp] theorem MAs_nil {ob ob' : Obs} {ρ : Nat → Nat} : MAs ob ρ ob' [] [] = True := eq_true mas_nil
@[simp] theorem MAs_cons {ob ob' : Obs} {ρ : Nat → Nat} {v v' : AV} {r r' : List AV} : MAs ob ρ ob' (v :: r) (v' :: r') = (MA ob ρ ob' v v' ∧ MAs ob ρ ob' r r') := by
  apply propext
  constructor
  · intro h
    exact ⟨h.2 0 v v' rfl rfl, by simpa using h.1, fun i p p' hp hp' => h.2 (i + 1) p p' (by simpa using hp) (by simpa using hp')⟩
  · intro h; exact mas_cons h.1 h.2
@[simp] theorem MA_fn {ob ob' : Obs} {ρ : Nat → Nat} {f g : FuncId} {cs cs' : List AV} : MA ob ρ ob' (.fn f cs) (.fn g cs') = (f = g ∧ MAs ob ρ ob' cs cs') := by
  apply propext
  constructor
  · intro h
    cases h with
    | fn _ _ _ h1 h2 => exact ⟨rfl, h1, h2⟩
  · rintro ⟨rfl, h⟩; exact ma_fn h
@[simp] theorem MO_row {ob ob' : Obs} {ρ : Nat → Nat} {n sz : Nat} {t : TypeId} {es : List PV} : MO ob ρ ob' n (.row t sz es) = (ob (ρ n) = some (.row t sz es)) := (rfl)
def BoxM (t : TypeId) (b : Option Ob) (ob : Obs) (ρ : Nat → Nat) (ob' : Obs) (cs' : List AV) : Prop := match b with
  | some (.box t2 cs) => t2 = t ∧ MAs ob ρ ob' cs cs'
  | _ => False
@[simp] theorem boxM_box {ob ob' : Obs} {ρ : Nat → Nat} {t t2 : TypeId} {cs cs' : List AV} : BoxM t (some (.box t2 cs)) ob ρ ob' cs' = (t2 = t ∧ MAs ob ρ ob' cs cs') := (rfl)
@[simp] theorem MO_box {ob ob' : Obs} {ρ : Nat → Nat} {n : Nat} {t : TypeId} {cs' : List AV} : MO ob ρ ob' n (.box t cs') = BoxM t (ob (ρ n)) ob ρ ob' cs' := by
  apply propext
  unfold BoxM
  constructor
  · rintro ⟨cs, h, k⟩; rw [h]; exact ⟨rfl, k⟩
  · intro h
    split at h
    · rename_i t2 cs e; obtain ⟨rfl, h⟩ := h; exact ⟨cs, e, h⟩
    · exact h.elim

/-! ### Functions -/

def argsL : Nat → List AV → List (Nat × AV)
  | _, [] => []
  | i, a :: r => (i, a) :: argsL (i + 1) r
@[simp] theorem argsL_nil (i : Nat) : argsL i [] = [] := (rfl)
@[simp] theorem argsL_cons (i : Nat) (a : AV) (r : List AV) : argsL i (a :: r) = (i, a) :: argsL (i + 1) r := (rfl)

theorem argsL_look : ∀ (as : List AV) (i k : Nat), look (argsL i as) k = if i ≤ k then argL as (k - i) else .any
  | [], i, k => by simp [look, argL]
  | a :: r, i, k => by
    simp only [argsL_cons, look]
    split
    · rename_i e; subst e; simp [argL]
    · rename_i e
      rw [argsL_look r (i + 1) k]
      by_cases h : i + 1 ≤ k
      · rw [if_pos h, if_pos (by omega)]
        simp only [argL]
        rw [show k - i = (k - (i + 1)) + 1 by omega, List.getElem?_cons_succ]
      · rw [if_neg h, if_neg (by omega)]

theorem argL_look (as : List AV) : argL as = look (argsL 0 as) := by
  funext k; rw [argsL_look]; simp

/-- Where a result lies. -/
def PV.nc : PV → PV
  | .sl _ es => .sl none es
  | p => p
@[simp] theorem nc_sl (c : Option Nat) (es : List PV) : (PV.sl c es).nc = .sl none es := (rfl)
@[simp] theorem nc_int (k : IntKind) (n : Int) : (PV.int k n).nc = .int k n := (rfl)
@[simp] theorem nc_bool (b : Bool) : (PV.bool b).nc = .bool b := (rfl)
@[simp] theorem nc_str (b : Str) : (PV.str b).nc = .str b := (rfl)
@[simp] theorem nc_agg (cs : List PV) : (PV.agg cs).nc = .agg cs := (rfl)
@[simp] theorem nc_lit (v : Value) : (PV.lit v).nc = .lit v := (rfl)
@[simp] theorem nc_fnv (f : FuncId) : (PV.fnv f).nc = .fnv f := (rfl)
theorem PLe.nc (p : PV) : PLe p p.nc := by
  cases p <;> first | exact PLe.refl _ | exact PLe.cap _ _

def boxAtV (os : List (Nat × Ob)) (g : Bool) (s off : Nat) : Option Ob → Option AV
  | some (.box _ cs) => if g then (if off + s ≤ cs.length then some (aggOf (lookO os) ((cs.drop off).take s)) else none) else cs[off]?
  | _ => none
@[simp] theorem boxAtV_box (os : List (Nat × Ob)) (g : Bool) (s off : Nat) (t : TypeId) (cs : List AV) : boxAtV os g s off (some (.box t cs)) = if g then (if off + s ≤ cs.length then some (aggOf (lookO os) ((cs.drop off).take s)) else none) else cs[off]? := (rfl)
def resAtV (os : List (Nat × Ob)) (g : Bool) (s : Nat) : AV → Option AV
  | .ptr n off => boxAtV os g s off (lookO os n)
  | _ => none
@[simp] theorem resAtV_ptr (os : List (Nat × Ob)) (g : Bool) (s n off : Nat) : resAtV os g s (.ptr n off) = boxAtV os g s off (lookO os n) := (rfl)
def resV (l : List (Nat × AV)) (os : List (Nat × Ob)) : List RK → Option (List AV)
  | [] => some []
  | .tmp t :: r => consA (some (look l t)) (resV l os r)
  | .cell c g s :: r => consA (resAtV os g s (look l c)) (resV l os r)
where consA : Option AV → Option (List AV) → Option (List AV)
  | some v, some l => some (v :: l)
  | _, _ => none
@[simp] theorem consA_some (v : AV) (l : List AV) : resV.consA (some v) (some l) = some (v :: l) := (rfl)
@[simp] theorem resV_nil : resV l os [] = some [] := (rfl)
@[simp] theorem resV_tmp (t : Nat) (r : List RK) : resV l os (.tmp t :: r) = resV.consA (some (look l t)) (resV l os r) := (rfl)
@[simp] theorem resV_cell (c : Nat) (g : Bool) (s : Nat) (r : List RK) : resV l os (.cell c g s :: r) = resV.consA (resAtV os g s (look l c)) (resV l os r) := (rfl)

theorem resAll_V : ∀ (ks : List RK), resAll (mk l os) ks = resV l os ks
  | [] => rfl
  | .tmp t :: r => by
    simp only [resAll, resV, resA, resAll_V r]
    show (match some (look l t), resV l os r with | some v, some l => some (v :: l) | _, _ => none) = _
    cases resV l os r <;> rfl
  | .cell c g s :: r => by
    simp only [resAll, resV, resA, resAll_V r]
    have : resAt (mk l os).ob g s ((mk l os).sl c) = resAtV os g s (look l c) := by
      show resAt (lookO os) g s (look l c) = _
      cases look l c with
      | ptr n off =>
        simp only [resAt, resAtV]
        cases lookO os n with
        | none => rfl
        | some o => cases o <;> rfl
      | _ => rfl
    rw [this]
    cases resAtV os g s (look l c) <;> cases resV l os r <;> rfl

/-- The results are as told, and they touch no object. -/
def RetP (ks : List RK) (rs : List PV) : MExit → St → Prop
  | .exit _, _ => False
  | _, σ => ∃ vs ps, resAll σ ks = some vs ∧ allPV σ.ob vs = some ps ∧ ps.map PV.nc = rs

def andMap (o : Option (List PV)) (rs : List PV) : Prop := match o with
  | some ps => ps.map PV.nc = rs
  | none => False
@[simp] theorem andMap_some (ps rs : List PV) : andMap (some ps) rs = (ps.map PV.nc = rs) := (rfl)
def bindPV (os : List (Nat × Ob)) : Option (List AV) → Option (List PV)
  | some vs => allPV (lookO os) vs
  | none => none
@[simp] theorem bindPV_some (os : List (Nat × Ob)) (vs : List AV) : bindPV os (some vs) = allPV (lookO os) vs := (rfl)
theorem retP_any (ks : List RK) (rs : List PV) : (∃ vs ps, resAll (mk l os) ks = some vs ∧ allPV (mk l os).ob vs = some ps ∧ ps.map PV.nc = rs) = andMap (bindPV os (resV l os ks)) rs := by
  rw [resAll_V]
  show (∃ vs ps, resV l os ks = some vs ∧ allPV (lookO os) vs = some ps ∧ ps.map PV.nc = rs) = _
  cases resV l os ks with
  | none => simp [bindPV, andMap]
  | some vs =>
    simp only [bindPV, Option.some.injEq]
    cases h : allPV (lookO os) vs with
    | none =>
      simp only [andMap, eq_iff_iff, iff_false]
      rintro ⟨vs', ps, rfl, h2, _⟩
      rw [h] at h2; cases h2
    | some ps =>
      simp only [andMap, eq_iff_iff]
      constructor
      · rintro ⟨vs', ps', rfl, h2, h3⟩
        rw [h] at h2; cases h2; exact h3
      · intro h3; exact ⟨vs, ps, rfl, h, h3⟩
@[simp] theorem retP_ret (ks : List RK) (rs : List PV) : RetP ks rs .ret (mk l os) = andMap (bindPV os (resV l os ks)) rs := retP_any ks rs
@[simp] theorem retP_normal (ks : List RK) (rs : List PV) : RetP ks rs .normal (mk l os) = andMap (bindPV os (resV l os ks)) rs := retP_any ks rs

theorem nc_ma {ob : Obs} {vs : List AV} : ∀ {ps : List PV}, allPV ob vs = some ps → MAs ob id (lookO []) vs ((ps.map PV.nc).map .pv) := by
  induction vs with
  | nil => intro ps h; cases h; exact mas_nil
  | cons v r ih =>
    intro ps h
    rw [allPV_cons] at h
    cases hv : v.toPV ob with
    | none => rw [hv] at h; cases h
    | some p =>
      rw [hv] at h
      cases hl : allPV ob r with
      | none => rw [hl] at h; cases h
      | some l =>
        rw [hl] at h; cases h
        exact mas_cons (.pv v p _ hv (.nc p)) (ih hl)

theorem andMap_spec {o : Option (List PV)} {qs : List PV} (h : andMap o qs) : ∃ ps, o = some ps ∧ PLes ps qs := by
  cases o with
  | none => exact h.elim
  | some ps =>
    refine ⟨ps, rfl, ?_⟩
    simp only [andMap_some] at h
    subst h
    refine ⟨by simp, ?_⟩
    intro i p q hp hq
    simp [hp] at hq
    subst hq
    exact .nc p

/-- A call by the contract of a function that touches no object. -/
theorem call_ok {P : Program} {d : Nat} {g : FuncId} {vs : List AV} {qs rs : List PV} (hX : X.P = P) (hc : PCon P g qs rs) (hv : andMap (allPV (lookO os) vs) qs)
    (k : Run X r Q (mk (setk l d (retA (rs.map .pv))) os)) : CallG X d g vs r Q l os := by
  subst hX
  obtain ⟨ps, h1, h2⟩ := andMap_spec hv
  exact callG_of d r Q l os hc h1 h2 k
theorem callp_ok {P : Program} {d : Nat} {g : FuncId} {vs : List AV} {qs rs : List PV} (hX : X.P = P) (hc : PCon P g qs rs) (hv : andMap (allPV (lookO os) vs) qs)
    (k : Run X r Q (mk (setk l d (retA (rs.map .pv))) os)) : CallP X d g vs r Q l os := by
  subst hX
  obtain ⟨ps, h1, h2⟩ := andMap_spec hv
  exact callP_of d r Q l os hc h1 h2 k

@[simp] theorem retA_one (p : PV) : retA ([p].map AV.pv) = .pv p := (rfl)
@[simp] theorem retA_one' (v : AV) : retA [v] = v := (rfl)
@[simp] theorem retA_nil : retA [] = .tup [] := (rfl)
@[simp] theorem retA_two (p q : AV) (r : List AV) : retA (p :: q :: r) = .tup (p :: q :: r) := (rfl)

/-! ### What a value that is there tells of itself -/

def Fits (p : PV) : Prop := ∃ ro w x, PRep ro w p x
theorem Fits.str {s : Str} (h : Fits (.str s)) : s.length ≤ big := by obtain ⟨ro, w, x, h⟩ := h; cases h; assumption
theorem Fits.sl {c : Option Nat} {es : List PV} (h : Fits (.sl c es)) : es.length ≤ big := by obtain ⟨ro, w, x, h⟩ := h; cases h; assumption
theorem Fits.agg {cs : List PV} (h : Fits (.agg cs)) : ∀ p ∈ cs, Fits p := by
  obtain ⟨ro, w, x, h⟩ := h
  cases h with
  | agg _ xs hl h1 hrep =>
    intro p hp
    obtain ⟨i, hi⟩ := List.getElem?_of_mem hp
    have hlt : i < xs.length := by rw [← hl]; exact (List.getElem?_eq_some_iff.1 hi).1
    exact ⟨ro, w, _, hrep i p _ hi (List.getElem?_eq_getElem hlt)⟩
theorem Fits.elem {c : Option Nat} {es : List PV} (h : Fits (.sl c es)) : ∀ e ∈ es, ∀ p ∈ e.cells, Fits p := by
  obtain ⟨ro, w, x, h⟩ := h
  cases h with
  | sl _ _ a c b o sz f hcap hlen hmax hc hsz ha hro h1 hrep =>
    intro e he p hp
    obtain ⟨i, hi⟩ := List.getElem?_of_mem (List.mem_flatMap.mpr ⟨e, he, hp⟩)
    exact ⟨ro, w, _, hrep i p hi⟩

/-- The same value many times. -/
def rep (n : Nat) (p : PV) : List PV := List.replicate n p

def cFn (P : Program) (fn : Func) : Option (Nat × MCode × List RK) := match fn.body with
  | some code => if fn.name == "runtime.NumGoroutine" then none else match comp P fn.ntmps code, cRes P fn.ntmps fn.results.toList with
    | some m, some ks => some (fn.ntmps, m, ks)
    | _, _ => none
  | none => none

theorem cFn_spec {P : Program} {fn : Func} {N : Nat} {m : MCode} {ks : List RK} (h : cFn P fn = some (N, m, ks)) : ∃ code, fn.body = some code ∧ (fn.name == "runtime.NumGoroutine") = false ∧ comp P fn.ntmps code = some m ∧ cRes P fn.ntmps fn.results.toList = some ks ∧ N = fn.ntmps := by
  unfold cFn at h
  split at h
  · rename_i code hb
    split at h
    · cases h
    · rename_i hn
      split at h
      · rename_i m' ks' h1 h2
        cases h
        exact ⟨code, hb, by simpa using hn, h1, h2, rfl⟩
      · cases h
  · cases h

theorem wpL_mono {C : Cons} {K K' : St → Prop} (h : ∀ σ, K σ → K' σ) : ∀ {ms : List MIns} {σ : St}, wpL C ms σ K → wpL C ms σ K'
  | [], σ, hk => h σ hk
  | m :: r, σ, hk => mstep_mono (fun σ' h' => wpL_mono h h') hk

theorem lift_mono {Q Q' : MExit → St → Prop} (h : ∀ e σ, Q e σ → Q' e σ) : ∀ e a w, X.lift Q e a w → X.lift Q' e a w := by
  intro e a w hl
  cases e with
  | normal => obtain ⟨σ, h1, h2⟩ := hl; exact ⟨σ, h _ _ h1, h2⟩
  | exit id => obtain ⟨σ, h1, h2⟩ := hl; exact ⟨σ, h _ _ h1, h2⟩
  | ret => obtain ⟨σ, h1, h2⟩ := hl; exact ⟨σ, h _ _ h1, h2⟩
  | goto l => exact hl
  | panic c => exact hl
  | outgrown => exact hl

theorem awp_mono {Q Q' : MExit → St → Prop} (h : ∀ e σ, Q e σ → Q' e σ) {m : MCode} {σ : St} (hk : X.awp m Q σ) : X.awp m Q' σ := by
  induction m generalizing Q Q' σ with
  | skip => exact h _ _ hk
  | reg ops => exact wpL_mono (fun σ h' => h _ _ h') hk
  | seq a b iha ihb =>
    refine iha (Q := thenQ (X.awp b Q) Q) (fun e σ he => ?_) hk
    cases e with
    | normal => exact ihb h he
    | exit id => exact h _ _ he
    | ret => exact h _ _ he
  | cond c a b iha ihb =>
    simp only [Ctx.awp] at hk ⊢
    split at hk
    · rename_i t ht
      exact ⟨fun e => iha h (hk.1 e), fun e => ihb h (hk.2 e)⟩
    · exact hk.elim
  | block id c ih =>
    refine ih (Q := blockQ id Q) (fun e σ he => ?_) hk
    cases e with
    | normal => exact h _ _ he
    | exit j =>
      simp only [blockQ] at he ⊢
      split
      · rename_i e'; rw [if_pos e'] at he; exact h _ _ he
      · rename_i e'; rw [if_neg e'] at he; exact h _ _ he
    | ret => exact h _ _ he
  | range f ps a b _ _ => exact fun code hc a w hS => wpIn_mono (hk code hc a w hS) (lift_mono h)
  | loop c _ => exact fun code hc a w hS => wpIn_mono (hk code hc a w hS) (lift_mono h)
  | exit id => exact h _ _ hk
  | ret => exact h _ _ hk
  | stuck => exact hk

/-- A function that touches no object of the caller. -/
theorem PCon.fnR {P : Program} {g : FuncId} {fn : Func} {N : Nat} {m : MCode} {ks : List RK} {as rs : List PV} (hf : P.funcs[g]? = some fn) (hc : cFn P fn = some (N, m, ks)) (hlen : as.length ≤ N)
    (h : ∀ X : Ctx, X.P = P → X.rd = none ∧ X.N = N → X.E.ob0 = (fun _ => none) → AllL Fits as → Run X [.code m] (RetP ks rs) (mk (argsL 0 (as.map .pv)) [])) : PCon P g as rs := by
  obtain ⟨code, h1, h2, h3, h4, rfl⟩ := cFn_spec hc
  intro w0 ι0 r0 xs hH hps
  have hfit : ∀ {as : List PV} {xs : List Value}, RepAll ι0 (lookO []) r0 w0 (as.map .pv) xs → AllL Fits as := by
    intro as
    induction as with
    | nil => intro xs _; trivial
    | cons p r ih =>
      intro xs hp
      cases xs with
      | nil => simp [RepAll] at hp
      | cons x xs =>
        refine ⟨?_, ih (xs := xs) ⟨by simpa using hp.1, fun i p y hp' hy => hp.2 (i + 1) p y (by simpa using hp') (by simpa using hy)⟩⟩
        have := hp.2 0 (.pv p) x rfl rfl
        cases this with
        | pv _ _ h => exact ⟨_, _, _, h⟩
  have hfits := hfit hps
  refine Con.of hf h2 h1 (by simpa using hlen) h3 h4 (fun X hX hrN h0 => ?_) w0 ι0 r0 xs hH hps
  have he : ∀ e σ, RetP ks rs e σ → retX X.E ks (rs.map .pv) [] e σ := by
    intro e σ hr
    cases e with
    | exit id => exact hr
    | ret =>
      obtain ⟨vs, ps, k1, k2, rfl⟩ := hr
      exact ⟨vs, id, k1, noNames _ _, fun n o hn => (by rw [h0] at hn; cases hn), nc_ma k2⟩
    | normal =>
      obtain ⟨vs, ps, k1, k2, rfl⟩ := hr
      exact ⟨vs, id, k1, noNames _ _, fun n o hn => (by rw [h0] at hn; cases hn), nc_ma k2⟩
  have hrun := h X hX hrN (by rw [h0]; rfl) hfits
  rw [argL_look]
  refine awp_mono he ?_
  exact hrun


theorem PCon.fn {P : Program} {g : FuncId} {fn : Func} {N : Nat} {m : MCode} {ks : List RK} {as rs : List PV} (hf : P.funcs[g]? = some fn) (hc : cFn P fn = some (N, m, ks)) (hlen : as.length ≤ N)
    (h : ∀ X : Ctx, X.P = P → X.E.ob0 = (fun _ => none) → AllL Fits as → Run X [.code m] (RetP ks rs) (mk (argsL 0 (as.map .pv)) [])) : PCon P g as rs :=
  PCon.fnR hf hc hlen fun X hX _ h0 hfit => h X hX h0 hfit

theorem pReps_of {ι : Places} {ob : Obs} {ro : RO} {w : World} {ps : List PV} {xs : List Value} (h : RepAll ι ob ro w (ps.map .pv) xs) : PReps ro w ps xs := by
  refine ⟨by simpa using h.1, fun i p x hp hx => ?_⟩
  have := h.2 i (.pv p) x (by simp [hp]) hx
  cases this with
  | pv _ _ h => exact h

/-- A function that the machine does itself. -/
theorem PCon.extern {P : Program} {g : FuncId} {fn : Func} {e : Array Value → Sem Value} (hf : P.funcs[g]? = some fn) (hname : (fn.name == "runtime.NumGoroutine") = false)
    (hb : fn.body.isNone = true) (hn : Extern.findNext fn = none) (he : Extern.find fn = some e) {as rs : List PV}
    (h : ∀ ro w xs, PReps ro w as xs → ∃ vs, (e xs.toArray).run P w = .ok (retv vs) w ∧ PReps ro w rs vs) : PCon P g as rs := by
  intro w ι ro xs hH hps
  obtain ⟨vs, h1, h2⟩ := h ro w xs (pReps_of hps)
  refine .inr ⟨retv vs, w, ?_, vs, ι, ro, rfl, hH, repAll_pv h2⟩
  rw [run_callFunc_extern hf hname hb hn he, h1]
  rfl

/-! ### Functions that touch objects -/

def FitA : AV → Prop
  | .pv p => Fits p
  | _ => True
@[simp] theorem fitA_pv (p : PV) : FitA (.pv p) = Fits p := (rfl)

/-- The results and the objects are as told; the objects that came in bear their names. -/
def RetC (os : List (Nat × Ob)) (ks : List RK) (ρ : Nat → Nat) (rs : List AV) (os2 : List (Nat × Ob)) : MExit → St → Prop
  | .exit _, _ => False
  | _, σ => ∃ vs, resAll σ ks = some vs ∧ AllL (fun p => MO σ.ob ρ (lookO os2) p.1 p.2) os2 ∧ (os2.map fun p => ρ p.1).Nodup ∧ AllL (fun p => ρ p.1 = p.1 ∧ (lookO os2 p.1).isSome = true) os ∧ MAs σ.ob ρ (lookO os2) vs rs

def masO (os : List (Nat × Ob)) (ρ : Nat → Nat) (os2 : List (Nat × Ob)) (rs : List AV) : Option (List AV) → Prop
  | some vs => MAs (lookO os) ρ (lookO os2) vs rs
  | none => False
@[simp] theorem masO_some (ρ : Nat → Nat) (os2 : List (Nat × Ob)) (rs vs : List AV) : masO os ρ os2 rs (some vs) = MAs (lookO os) ρ (lookO os2) vs rs := (rfl)

theorem retC_any (os0 : List (Nat × Ob)) (ks : List RK) (ρ : Nat → Nat) (rs : List AV) (os2 : List (Nat × Ob)) :
    (∃ vs, resAll (mk l os) ks = some vs ∧ AllL (fun p => MO (mk l os).ob ρ (lookO os2) p.1 p.2) os2 ∧ (os2.map fun p => ρ p.1).Nodup ∧ AllL (fun p => ρ p.1 = p.1 ∧ (lookO os2 p.1).isSome = true) os0 ∧ MAs (mk l os).ob ρ (lookO os2) vs rs) =
    (masO os ρ os2 rs (resV l os ks) ∧ AllL (fun p => MO (lookO os) ρ (lookO os2) p.1 p.2) os2 ∧ (os2.map fun p => ρ p.1).Nodup ∧ AllL (fun p => ρ p.1 = p.1 ∧ (lookO os2 p.1).isSome = true) os0) := by
  rw [resAll_V]
  apply propext
  constructor
  · rintro ⟨vs, h1, h2, h3, h4, h5⟩
    rw [h1]; exact ⟨h5, h2, h3, h4⟩
  · rintro ⟨h1, h2, h3, h4⟩
    cases h : resV l os ks with
    | none => rw [h] at h1; exact h1.elim
    | some vs => rw [h] at h1; exact ⟨vs, rfl, h2, h3, h4, h1⟩
@[simp] theorem retC_ret (os0 : List (Nat × Ob)) (ks : List RK) (ρ : Nat → Nat) (rs : List AV) (os2 : List (Nat × Ob)) : RetC os0 ks ρ rs os2 .ret (mk l os) =
    (masO os ρ os2 rs (resV l os ks) ∧ AllL (fun p => MO (lookO os) ρ (lookO os2) p.1 p.2) os2 ∧ (os2.map fun p => ρ p.1).Nodup ∧ AllL (fun p => ρ p.1 = p.1 ∧ (lookO os2 p.1).isSome = true) os0) := retC_any ..
@[simp] theorem retC_normal (os0 : List (Nat × Ob)) (ks : List RK) (ρ : Nat → Nat) (rs : List AV) (os2 : List (Nat × Ob)) : RetC os0 ks ρ rs os2 .normal (mk l os) =
    (masO os ρ os2 rs (resV l os ks) ∧ AllL (fun p => MO (lookO os) ρ (lookO os2) p.1 p.2) os2 ∧ (os2.map fun p => ρ p.1).Nodup ∧ AllL (fun p => ρ p.1 = p.1 ∧ (lookO os2 p.1).isSome = true) os0) := retC_any ..

/-- A function with objects; ρ: what the names in the contract's second half are in the function's last state. -/
theorem Con.fnR {P : Program} {g : FuncId} {fn : Func} {N : Nat} {m : MCode} {ks : List RK} {as rs : List AV} {os os2 : List (Nat × Ob)} (ρ : Nat → Nat) (hf : P.funcs[g]? = some fn) (hc : cFn P fn = some (N, m, ks)) (hlen : as.length ≤ N)
    (h : ∀ (X : Ctx) (Q : MExit → St → Prop), X.P = P → X.rd = none ∧ X.N = N → X.E.ob0 = lookO os → AllL FitA as → RetC os ks ρ rs os2 = Q → Run X [.code m] Q (mk (argsL 0 as) os)) : Con P g as os rs os2 := by
  obtain ⟨code, h1, h2, h3, h4, rfl⟩ := cFn_spec hc
  intro w0 ι0 r0 xs hH hps
  have hfit : ∀ {as : List AV} {xs : List Value}, RepAll ι0 (lookO os) r0 w0 as xs → AllL FitA as := by
    intro as
    induction as with
    | nil => intro xs _; trivial
    | cons p r ih =>
      intro xs hp
      cases xs with
      | nil => simp [RepAll] at hp
      | cons x xs =>
        refine ⟨?_, ih (xs := xs) ⟨by simpa using hp.1, fun i p y hp' hy => hp.2 (i + 1) p y (by simpa using hp') (by simpa using hy)⟩⟩
        have := hp.2 0 p x rfl rfl
        cases this <;> first | trivial | skip
        rename_i h
        exact ⟨_, _, _, h⟩
  have hfits := hfit hps
  refine Con.of hf h2 h1 hlen h3 h4 (fun X hX hrN h0 => ?_) w0 ι0 r0 xs hH hps
  have he : ∀ e σ, RetC os ks ρ rs os2 e σ → retX X.E ks rs os2 e σ := by
    intro e σ hr
    have key : (∃ vs, resAll σ ks = some vs ∧ AllL (fun p => MO σ.ob ρ (lookO os2) p.1 p.2) os2 ∧ (os2.map fun p => ρ p.1).Nodup ∧ AllL (fun p => ρ p.1 = p.1 ∧ (lookO os2 p.1).isSome = true) os ∧ MAs σ.ob ρ (lookO os2) vs rs) →
        ∃ vs ρ, resAll σ ks = some vs ∧ Sub σ.ob ρ (lookO os2) ∧ Holds X.E ρ (lookO os2) ∧ MAs σ.ob ρ (lookO os2) vs rs := by
      rintro ⟨vs, k1, k2, k3, k4, k5⟩
      refine ⟨vs, ρ, k1, ⟨fun n o ho => allL_mem k2 _ (lookO_mem ho), fun n m o p hn hm e => nodup_inj ρ k3 n m o p hn hm e⟩, fun n o hn => ?_, k5⟩
      rw [h0] at hn
      have := allL_mem k4 _ (lookO_mem hn)
      obtain ⟨o', ho'⟩ := Option.isSome_iff_exists.mp this.2
      exact ⟨this.1, o', ho'⟩
    cases e with
    | exit id => exact hr
    | ret => exact key hr
    | normal => exact key hr
  have hrun := h X _ hX hrN h0 hfits rfl
  rw [argL_look]
  exact awp_mono he hrun

theorem Con.fn {P : Program} {g : FuncId} {fn : Func} {N : Nat} {m : MCode} {ks : List RK} {as rs : List AV} {os os2 : List (Nat × Ob)} (ρ : Nat → Nat) (hf : P.funcs[g]? = some fn) (hc : cFn P fn = some (N, m, ks)) (hlen : as.length ≤ N)
    (h : ∀ (X : Ctx) (Q : MExit → St → Prop), X.P = P → X.E.ob0 = lookO os → AllL FitA as → RetC os ks ρ rs os2 = Q → Run X [.code m] Q (mk (argsL 0 as) os)) : Con P g as os rs os2 :=
  Con.fnR ρ hf hc hlen fun X Q hX _ h0 hfit hQ => h X Q hX h0 hfit hQ

/-- A function of the machine's that hands back what it is given. -/
theorem Con.same {P : Program} {g : FuncId} {fn : Func} {e : Array Value → Sem Value} (hf : P.funcs[g]? = some fn) (hname : (fn.name == "runtime.NumGoroutine") = false)
    (hb : fn.body.isNone = true) (hn : Extern.findNext fn = none) (he : Extern.find fn = some e) (h : ∀ x w, (e #[x]).run P w = .ok x w) (v : AV) (os : List (Nat × Ob)) : Con P g [v] os [v] os := by
  intro w ι ro xs hH hps
  match xs, hps with
  | [x], hps =>
    refine .inr ⟨x, w, ?_, [x], ι, ro, rfl, hH, hps⟩
    rw [run_callFunc_extern hf hname hb hn he, h]
    rfl
  | [], hps => simp [RepAll] at hps
  | _ :: _ :: _, hps => simp [RepAll] at hps

end
end Cr
