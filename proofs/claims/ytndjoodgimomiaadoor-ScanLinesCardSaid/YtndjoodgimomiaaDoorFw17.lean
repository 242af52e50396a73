/- Code and functions: the weakest preconditions over abstract states are sound. -/
import Derived.Test.YtndjoodgimomiaaDoorFw16
namespace Cr
open Go Go.RowKit

section
variable {X : Ctx} {σ : St} {a : Act} {w : World}

theorem stepsF {P : Program} {rd : Option Nat} {m m' : Machine} : StepsIn (Machine.fenced P (fenceOf rd)) P m m' ↔ Steps P m m' := stepsIn_wide

theorem steps_tail {P : Program} {rd : Option Nat} {m m1 m' : Machine} (h : step P m = .next m1) (hs : StepsIn (Machine.fenced P (fenceOf rd)) P m m') (hne : m ≠ m') : StepsIn (Machine.fenced P (fenceOf rd)) P m1 m' := by
  rw [stepsF] at hs ⊢
  obtain ⟨n, hn⟩ := hs
  cases n with
  | zero => simp [runN] at hn; exact absurd hn hne
  | succ n =>
    simp only [runN, h] at hn
    exact ⟨n, hn⟩

theorem exitTo_len {id : Nat} : ∀ {k k' : List Item}, exitTo id k = some k' → k'.length < k.length
  | [], _, h => by simp [exitTo] at h
  | x :: k, k', h => by
    cases x <;> simp only [exitTo] at h
    case inBlock id' =>
      split at h
      · cases h; simp
      · have := exitTo_len h; simp; omega
    all_goals (have := exitTo_len h; simp; omega)

/-- One round of a loop, then the loop again. -/
theorem wp_loop_once {P : Program} {rd : Option Nat} {Q : Exit → Act → World → Prop} (hg : ∀ l a w, ¬ Q (.goto l) a w) (hpn : ∀ c a w, ¬ Q (.panic c) a w) (ho : ∀ a w, ¬ Q .outgrown a w) {c : Code} {a : Act} {w : World}
    (h : c.wpIn (fenceOf rd) 0 P (Exit.then ((Code.loop c).wpIn (fenceOf rd) 0 P Q) Q) a w) : (Code.loop c).wpIn (fenceOf rd) 0 P Q a w := by
  intro b k cs hro hb hr
  have one : ∀ {m m' : Machine}, step P m = .next m' → StepsIn (Machine.fenced P (fenceOf rd)) P m m' := fun h => stepsF.mpr (.one h)
  obtain ⟨e, a₁, w₁, hq, harr⟩ := h b (.inLoop c :: k) cs hro hb hr
  cases e with
  | normal =>
    obtain ⟨e₂, a₂, w₂, hq₂, harr₂⟩ := hq b k cs hro hb hr
    have s1 : step P (lone (b.atR a₁ (.code (.loop c) :: k)) cs w₁) = .next (lone (b.atR a₁ (.code c :: .inLoop c :: k)) cs w₁) := stepR_loop
    have s2 : step P (lone (b.atR a₁ (.inLoop c :: k)) cs w₁) = .next (lone (b.atR a₁ (.code c :: .inLoop c :: k)) cs w₁) := stepR_inLoop
    have todoNe' : ∀ (k' : List Item) (a' : Act) (w' : World), (Item.code (.loop c) :: k) ≠ k' → lone (b.atR a₁ (.code (.loop c) :: k)) cs w₁ ≠ lone (b.atR a' k') cs w' := by
      intro k' a' w' hl e
      have : (b.atR a₁ (.code (.loop c) :: k)).todo = (b.atR a' k').todo := by
        have := congrArg (fun m : Machine => (m.gs[0]?).map (·.frame.todo)) e
        simpa [lone] using this
      simp only [Frame.atR] at this
      exact hl this
    have todoNe : ∀ (k' : List Item) (a' : Act) (w' : World), k'.length < (Item.code (.loop c) :: k).length → lone (b.atR a₁ (.code (.loop c) :: k)) cs w₁ ≠ lone (b.atR a' k') cs w' := by
      intro k' a' w' hl
      refine todoNe' k' a' w' fun e => ?_
      rw [← e] at hl
      exact Nat.lt_irrefl _ hl
    refine ⟨e₂, a₂, w₂, hq₂, .of_steps (StepsIn.trans (one stepR_loop) (StepsIn.trans harr (one s2))) ?_⟩
    cases e₂ with
    | normal => exact steps_tail s1 harr₂ (todoNe _ _ _ (by simp))
    | exit id =>
      refine ⟨fun k' hk => steps_tail s1 (harr₂.1 k' hk) (todoNe _ _ _ (by have := exitTo_len hk; simp; omega)), fun h1 h2 => ?_⟩
      obtain ⟨k₁, h3, h4⟩ := harr₂.2 h1 h2
      exact ⟨k₁, h3, steps_tail s1 h4 (todoNe' _ _ _ (by simp))⟩
    | goto l => exact absurd hq₂ (hg _ _ _)
    | ret =>
      refine ⟨fun h1 => ?_, fun h1 => ?_⟩
      · obtain ⟨todo, hs⟩ := harr₂.1 h1
        refine ⟨todo, steps_tail s1 hs ?_⟩
        intro e
        have := congrArg (fun m : Machine => (m.gs[0]?).map (·.frame.mode)) e
        simp [lone, Frame.atR] at this
      · obtain ⟨k₁, hs⟩ := harr₂.2 h1
        exact ⟨k₁, steps_tail s1 hs (todoNe' _ _ _ (by simp))⟩
    | panic ch => exact absurd hq₂ (hpn _ _ _)
    | outgrown => exact absurd hq₂ (ho _ _)
  | exit id => exact ⟨_, a₁, w₁, hq, .of_steps (one stepR_loop) (.pass (x := .inLoop c) rfl (fun _ _ => .inl (by simp)) harr)⟩
  | goto l => exact ⟨_, a₁, w₁, hq, .of_steps (one stepR_loop) (.pass (x := .inLoop c) rfl (fun _ _ => .inl (by simp)) harr)⟩
  | ret => exact ⟨_, a₁, w₁, hq, .of_steps (one stepR_loop) (.pass (x := .inLoop c) rfl (fun _ _ => .inl (by simp)) harr)⟩
  | panic ch => exact ⟨_, a₁, w₁, hq, .of_steps (one stepR_loop) (.pass (x := .inLoop c) rfl (fun _ _ => .inl (by simp)) harr)⟩
  | outgrown => exact ⟨_, a₁, w₁, hq, .of_steps (one stepR_loop) (.pass (x := .inLoop c) rfl (fun _ _ => .inl (by simp)) harr)⟩

theorem lift_then {n : St → Prop} {Q : MExit → St → Prop} {K : Act → World → Prop} (hK : ∀ σ a w, n σ → X.Sat σ a w → K a w) : ∀ e a w, X.lift (thenQ n Q) e a w → Exit.then K (X.lift Q) e a w := by
  intro e a w h
  cases e with
  | normal => obtain ⟨σ, h1, h2⟩ := h; exact hK σ a w h1 h2
  | exit id => exact h
  | ret => exact h
  | goto l => exact h
  | panic c => exact h
  | outgrown => exact h

theorem lift_block {id : Nat} {Q : MExit → St → Prop} : ∀ e a w, X.lift (blockQ id Q) e a w → Exit.inBlock id (X.lift Q) e a w := by
  intro e a w h
  cases e with
  | normal => exact h
  | exit j =>
    obtain ⟨σ, h1, h2⟩ := h
    simp only [Exit.inBlock]
    simp only [blockQ] at h1
    split
    · rename_i e; rw [if_pos e] at h1; exact ⟨σ, h1, h2⟩
    · rename_i e; rw [if_neg e] at h1; exact ⟨σ, h1, h2⟩
  | ret => exact h
  | goto l => exact h
  | panic c => exact h
  | outgrown => exact h

def CompAs (P : Program) (N : Nat) (code : Code) : MCode → Prop
  | .skip => code = .skip
  | .reg ms => ∃ id ops draw, code = .region id ops draw ∧ cList P N draw ops ops.toList = some ms ∧ (draw = true → drawOK P ops ms = true)
  | .seq x y => ∃ c1 c2, code = .seq c1 c2 ∧ comp P N c1 = some x ∧ comp P N c2 = some y
  | .cond z x y => ∃ c c1 c2, code = .cond c c1 c2 ∧ cOpd N c = some z ∧ comp P N c1 = some x ∧ comp P N c2 = some y
  | .block id x => ∃ c, code = .block id c ∧ comp P N c = some x
  | .loop x => ∃ c, code = .loop c ∧ comp P N c = some x
  | .range z ps x y => ∃ f as c1 c2, code = .rangeFunc f as c1 c2 ∧ as.toList = ps ∧ (∀ t ∈ ps, t < N) ∧ cOpd N f = some z ∧ comp P N c1 = some x ∧ comp P N c2 = some y
  | .exit id => code = .exit id
  | .ret => code = .ret
  | .stuck => True

theorem comp_as {P : Program} {N : Nat} {code : Code} {m : MCode} (h : comp P N code = some m) : CompAs P N code m := by
  cases code <;> simp only [comp] at h <;> first | (cases h; rfl) | (cases h; exact trivial) | skip
  case region id ops draw =>
    split at h
    · cases h; exact trivial
    · rename_i ms h1
      split at h
      · cases h; exact trivial
      · rename_i hd
        cases h
        exact ⟨id, ops, draw, rfl, h1, fun e => by subst e; simpa using hd⟩
  case seq => simp only [Option.bind_eq_some_iff] at h; obtain ⟨_, h1, _, h2, h⟩ := h; cases h; exact ⟨_, _, rfl, h1, h2⟩
  case cond =>
    split at h
    · cases h; exact trivial
    · rename_i z h1
      simp only [Option.bind_eq_some_iff] at h
      obtain ⟨_, h2, _, h3, h⟩ := h; cases h; exact ⟨_, _, _, rfl, h1, h2, h3⟩
  case block => simp only [Option.map_eq_some_iff] at h; obtain ⟨_, h1, h⟩ := h; cases h; exact ⟨_, rfl, h1⟩
  case loop => simp only [Option.map_eq_some_iff] at h; obtain ⟨_, h1, h⟩ := h; cases h; exact ⟨_, rfl, h1⟩
  case rangeFunc f ps c1 c2 =>
    split at h
    · cases h; exact trivial
    · rename_i z h1
      split at h
      · rename_i hps
        simp only [Option.bind_eq_some_iff] at h
        obtain ⟨_, h2, _, h3, h⟩ := h; cases h; exact ⟨_, _, _, _, rfl, rfl, fun t ht => of_decide_eq_true (List.all_eq_true.mp hps t ht), h1, h2, h3⟩
      · cases h; exact trivial

theorem awp_sound : ∀ (m : MCode) (Q : MExit → St → Prop) (σ : St), X.awp m Q σ → X.Ok m Q σ := by
  intro m
  induction m with
  | skip =>
    intro Q σ h code hc a w hS
    obtain rfl := comp_as hc
    exact wpIn_skip ⟨σ, h, hS⟩
  | reg ops =>
    intro Q σ h code hc a w hS
    obtain ⟨id, ops', draw, rfl, h1, h2⟩ := comp_as hc
    exact reg_sound h1 h2 h hS
  | seq x y ihx ihy =>
    intro Q σ h code hc a w hS
    obtain ⟨c1, c2, rfl, h1, h2⟩ := comp_as hc
    exact wpIn_seq (wpIn_mono (ihx _ σ h c1 h1 a w hS) (lift_then fun σ' a' w' hn hs => ihy Q σ' hn c2 h2 a' w' hs))
  | cond z x y ihx ihy =>
    intro Q σ h code hc a w hS
    obtain ⟨c, c1, c2, rfl, hz, h1, h2⟩ := comp_as hc
    simp only [Ctx.awp] at h
    split at h
    · rename_i t hev
      obtain ⟨ι, ro, hSI⟩ := hS
      have hr := opd_rep hSI.slots hz
      rw [hev] at hr
      refine wpIn_cond_split (pv_bool hr) (fun e => ?_) (fun e => ?_)
      · exact ihx Q σ (h.1 e) c1 h1 a w ⟨ι, ro, hSI⟩
      · exact ihy Q σ (h.2 e) c2 h2 a w ⟨ι, ro, hSI⟩
    · exact h.elim
  | block id x ih =>
    intro Q σ h code hc a w hS
    obtain ⟨c, rfl, h1⟩ := comp_as hc
    exact wpIn_block (wpIn_mono (ih _ σ h c h1 a w hS) lift_block)
  | loop x ih => intro Q σ h; exact h
  | range f ps x y _ _ => intro Q σ h; exact h
  | exit id =>
    intro Q σ h code hc a w hS
    obtain rfl := comp_as hc
    exact wpIn_exit ⟨σ, h, hS⟩
  | ret =>
    intro Q σ h code hc a w hS
    obtain rfl := comp_as hc
    exact wpIn_ret ⟨σ, h, hS⟩
  | stuck => intro Q σ h; exact h.elim

/-- A loop: one round, then the loop again. -/
theorem Ok.unroll {c : MCode} {Q : MExit → St → Prop} (h : X.awp c (thenQ (X.Ok (.loop c) Q) Q) σ) : X.Ok (.loop c) Q σ := by
  intro code hc a w hS
  obtain ⟨c1, rfl, h1⟩ := comp_as hc
  refine wp_loop_once (fun _ _ _ h => h) (fun _ _ _ h => h) (fun _ _ h => h) ?_
  refine wpIn_mono (awp_sound _ _ σ h c1 h1 a w hS) (lift_then fun σ' a' w' hn hs => ?_)
  exact hn (.loop c1) (by simp [comp, h1]) a' w' hs

/-! ### Weaker states -/

/-- What the entry had is still there. -/
def Holds (E : Ent) (ρ : Nat → Nat) (ob' : Obs) : Prop := ∀ n o, E.ob0 n = some o → ρ n = n ∧ ∃ o', ob' n = some o'

theorem Has.sub {E : Ent} {ob ob' : Obs} {ρ : Nat → Nat} {ι : Places} {ro : RO} (h : Has E ob w ι ro) (hs : Sub ob ρ ob') (hh : Holds E ρ ob') : Has E ob' w (renP ι ρ ob') ro := by
  have h2 := hs.has h
  have box : ∀ {n : Nat} {o' : Ob} {t : TypeId} {cs : List AV}, MO ob ρ ob' n o' → ob (ρ n) = some (.box t cs) → ∃ c2, o' = .box t c2 := by
    intro n o' t cs hm e
    cases o' with
    | box t2 c2 => obtain ⟨_, hm, _⟩ := hm; rw [e] at hm; cases hm; exact ⟨c2, rfl⟩
    | row t2 sz es => rw [show ob (ρ n) = _ from hm] at e; cases e
    | arr t2 g sz es => obtain ⟨_, hm, _⟩ := hm; rw [e] at hm; cases hm
    | lrec b r c3 => obtain ⟨_, hm, _⟩ := hm; rw [e] at hm; cases hm
  refine ⟨h.keeps, h2.objs, h2.dom, h2.inj, ?_, h.rolt, h.roold, h.gr.later, ?_, ?_, ?_, ?_⟩
  · intro n p hn
    simp only [renP] at hn
    split at hn
    · exact h.home _ _ hn
    · cases hn
  · intro n t cs hc
    obtain ⟨c1, e1, e2⟩ := h.gr.box n t cs hc
    obtain ⟨hr, o', ho'⟩ := hh n _ hc
    have hm := hs.obj n o' ho'
    rw [renP_some ho', hr]
    obtain ⟨c2, rfl⟩ := box hm (by rw [hr]; exact e1)
    exact ⟨c2, ho', e2⟩
  · intro n t sz es hc
    obtain ⟨c1, e1, e2⟩ := h.gr.row n t sz es hc
    obtain ⟨hr, o', ho'⟩ := hh n _ hc
    have hm := hs.obj n o' ho'
    rw [renP_some ho', hr]
    cases o' with
    | box t2 c2 => obtain ⟨_, hm, _⟩ := hm; rw [hr, e1] at hm; cases hm
    | row t2 sz es => have : ob (ρ n) = _ := hm; rw [hr, e1] at this; cases this; exact ⟨c1, ho', e2⟩
    | arr t2 g sz es => obtain ⟨_, hm, _⟩ := hm; rw [hr, e1] at hm; cases hm
    | lrec b r c3 => obtain ⟨_, hm, _⟩ := hm; rw [hr, e1] at hm; cases hm
  · intro n t g sz es hc
    obtain ⟨g1, c1, e1, e2, e3⟩ := h.gr.arr n t g sz es hc
    obtain ⟨hr, o', ho'⟩ := hh n _ hc
    have hm := hs.obj n o' ho'
    rw [renP_some ho', hr]
    cases o' with
    | box t2 c2 => obtain ⟨_, hm, _⟩ := hm; rw [hr, e1] at hm; cases hm
    | row t2 sz es => have : ob (ρ n) = _ := hm; rw [hr, e1] at this; cases this
    | arr t2 g sz es => obtain ⟨c3, hm, hms⟩ := hm; rw [hr, e1] at hm; cases hm; exact ⟨_, _, ho', e2, fun e => ⟨by rw [← (e3 e).1, ← hms.1], (e3 e).2⟩⟩
    | lrec b r c3 => obtain ⟨_, hm, _⟩ := hm; rw [hr, e1] at hm; cases hm
  · intro n b r cs hc
    obtain ⟨b1, c1, e1, e2⟩ := h.gr.lrec n b r cs hc
    obtain ⟨hr, o', ho'⟩ := hh n _ hc
    have hm := hs.obj n o' ho'
    rw [renP_some ho', hr]
    cases o' with
    | box t2 c2 => obtain ⟨_, hm, _⟩ := hm; rw [hr, e1] at hm; cases hm
    | row t2 sz es => have : ob (ρ n) = _ := hm; rw [hr, e1] at this; cases this
    | arr t2 g sz es => obtain ⟨c3, hm, hms⟩ := hm; rw [hr, e1] at hm; cases hm
    | lrec b2 r2 c3 => obtain ⟨_, hm, _⟩ := hm; rw [hr, e1] at hm; cases hm; exact ⟨_, _, ho', e2⟩

/-- The one state tells all that the other one tells. -/
structure Wk (E : Ent) (σ σ' : St) : Prop where
  sub : Sub σ.ob id σ'.ob
  holds : Holds E id σ'.ob
  slots : ∀ k, MA σ.ob id σ'.ob (σ.sl k) (σ'.sl k)

theorem Sat.weaken {σ' : St} (hl : Wk X.E σ σ') (h : X.Sat σ a w) : X.Sat σ' a w := by
  obtain ⟨ι, ro, hS⟩ := h
  have h2 := hS.has.sub hl.sub hl.holds
  exact ⟨_, ro, h2.keeps, hS.size, hS.defers, fun k => (hl.slots k).rep hl.sub (hS.slots k), h2.objs, h2.dom, h2.inj, h2.home, h2.rolt, h2.roold, h2.gr⟩

theorem Ok.weaken {m : MCode} {Q : MExit → St → Prop} {σ' : St} (h : X.Ok m Q σ') (hl : Wk X.E σ σ') : X.Ok m Q σ := fun code hc a w hS => h code hc a w (Sat.weaken hl hS)

/-! ### Functions -/

inductive RK where
  | tmp (k : Nat)
  | cell (k : Nat) (agg : Bool) (sz : Nat)
  deriving DecidableEq

def cRes (P : Program) (N : Nat) : List ResultVar → Option (List RK)
  | [] => some []
  | .tmp t :: r => (cRes P N r).bind fun l => if t < N then some (.tmp t :: l) else none
  | .cell c t :: r => (cRes P N r).bind fun l => (cTy P t).bind fun (g, s) => if (g ∨ s = 1) ∧ c < N then some (.cell c g s :: l) else none

def boxAt (ob : Obs) (g : Bool) (s off : Nat) : Option Ob → Option AV
  | some (.box _ cs) => if g then (if off + s ≤ cs.length then some (aggOf ob ((cs.drop off).take s)) else none) else cs[off]?
  | _ => none
def resAt (ob : Obs) (g : Bool) (s : Nat) : AV → Option AV
  | .ptr n off => boxAt ob g s off (ob n)
  | _ => none
def resA (σ : St) : RK → Option AV
  | .tmp t => some (σ.sl t)
  | .cell c g s => resAt σ.ob g s (σ.sl c)

def resAll (σ : St) : List RK → Option (List AV)
  | [] => some []
  | k :: r => match resA σ k, resAll σ r with
    | some v, some l => some (v :: l)
    | _, _ => none

def argL (as : List AV) : Nat → AV := fun k => (as[k]?).getD .any

/-- At its end the function gives what rs tells, and the objects are as os2 tells. -/
def retX (E : Ent) (ks : List RK) (rs : List AV) (os2 : List (Nat × Ob)) : MExit → St → Prop
  | .exit _, _ => False
  | _, σ => ∃ vs ρ, resAll σ ks = some vs ∧ Sub σ.ob ρ (lookO os2) ∧ Holds E ρ (lookO os2) ∧ MAs σ.ob ρ (lookO os2) vs rs

def resOne (tmps : Array Value) : ResultVar → Sem Value
  | .tmp t => pure (tmps.getD t undef)
  | .cell c t => do loadVar t (← asAddr (tmps.getD c undef))

theorem res_run {N : Nat} {E : Ent} {P : Program} {ι : Places} {ro : RO} (hS : SatI N E σ a w ι ro) : ∀ {rv : List ResultVar} {ks : List RK} {us : List AV}, cRes P N rv = some ks → resAll σ ks = some us →
    ∃ vs : List Value, (rv.mapM (resOne a.tmps) : Sem (List Value)).run P w = .ok vs w ∧ RepAll ι σ.ob ro w us vs
  | [], ks, us, hc, hr => by cases hc; cases hr; exact ⟨[], rfl, rfl, by simp⟩
  | r0 :: r, ks, us, hc, hr => by
    have key : ∀ (k : RK) (l : List RK), ks = k :: l → cRes P N r = some l → (∀ v, resA σ k = some v → ∃ x, (resOne a.tmps r0).run P w = .ok x w ∧ ARep ι σ.ob ro w v x) →
        ∃ vs : List Value, ((r0 :: r).mapM (resOne a.tmps) : Sem (List Value)).run P w = .ok vs w ∧ RepAll ι σ.ob ro w us vs := by
      intro k l e hl hk
      subst e
      simp only [resAll] at hr
      split at hr
      · rename_i p l' hp hl'
        cases hr
        obtain ⟨vs, h1, h2⟩ := res_run hS hl hl'
        obtain ⟨x, h3, h4⟩ := hk p hp
        refine ⟨x :: vs, ?_, ?_⟩
        · simp only [List.mapM_cons, Sem.run_bind, Sem.run_pure, h3, Result.andThen_ok, h1]
        · refine ⟨by simp [h2.1], ?_⟩
          intro i q y hq hy
          cases i with
          | zero => rw [List.getElem?_cons_zero] at hq hy; cases hq; cases hy; exact h4
          | succ i => exact h2.2 i q y (by simpa using hq) (by simpa using hy)
      · cases hr
    cases r0 with
    | tmp t =>
      simp only [cRes, Option.bind_eq_some_iff] at hc
      obtain ⟨l, hl, hc⟩ := hc
      split at hc
      · cases hc
        refine key _ _ rfl hl fun v hv => ?_
        cases hv
        exact ⟨a.tmps.getD t undef, rfl, hS.slots t⟩
      · cases hc
    | cell c t =>
      simp only [cRes, Option.bind_eq_some_iff] at hc
      obtain ⟨l, hl, ⟨g, s⟩, ht, hc⟩ := hc
      split at hc
      · rename_i hcond
        cases hc
        refine key _ _ rfl hl fun v hv => ?_
        obtain ⟨dsc, i, hu, hi, rfl, rfl⟩ := cTy_spec ht
        have hrep := hS.slots c
        simp only [resA] at hv
        unfold resAt at hv
        split at hv
        · rename_i n off hev
          rw [hev] at hrep
          unfold boxAt at hv
          split at hv
          · rename_i ety cs hob
            obtain ⟨pl, cur, e1, e2, e3, e4, e5, e6⟩ := hS.objs n _ hob
            have hx : a.tmps.getD c undef = .pointer (some ⟨pl.b, off, none⟩) := ptr_val hrep e1
            have hcell : ∀ j, w.cell? ⟨pl.b, j, none⟩ = cur[j]? := fun j => cell_of_row w pl.b j cur ety (0, 0) e3
            have hex : ∀ x, (loadVar t ⟨pl.b, off, none⟩).run P w = .ok x w → (resOne a.tmps (.cell c t)).run P w = .ok x w := by
              intro x hl
              simp [resOne, hx, asAddr, hl]
            split at hv
            · rename_i hg
              split at hv
              · rename_i hle
                cases hv
                have hsub := e4.sub off i.size
                have hl := run_loadVar_agg (P := P) (w := w) (b := pl.b) (o := off) (xs := (cur.toList.drop off).take i.size) hu hg hi (by rw [← hsub.1]; simp; omega) (by
                  intro j v hj
                  have := (getElem?_sub hj).1
                  rw [hcell]; simpa using this)
                refine ⟨_, hex _ hl, aggOf_rep hsub ?_⟩
                intro v hv
                exact e5 v (List.mem_of_mem_drop (List.mem_of_mem_take hv))
              · cases hv
            · rename_i hg
              have hlt : off < cur.toList.length := by rw [← e4.1]; exact (List.getElem?_eq_some_iff.1 hv).1
              have hxv : cur.toList[off]? = some cur.toList[off] := List.getElem?_eq_getElem hlt
              have hl := run_loadVar_one (P := P) (w := w) (a := ⟨pl.b, off, none⟩) (v := cur.toList[off]) hu (by simpa using hg) (by rw [hcell]; simp)
              exact ⟨_, hex _ hl, e4.2 off _ _ hv hxv⟩
          · cases hv
        · cases hv
      · cases hc

/-- A mark is taken up: its block is shut. -/
theorem SatI.shut {N : Nat} {E : Ent} {ι : Places} {ro : RO} (hS : SatI N E σ a w ι ro) {D : Nat} {ds : List Nat} (hD : w.heap[D]? = some (.deferred (some []))) (hE : E.w0.heap.size ≤ D) (hnd : D ∉ ds) (hnd2 : ds.Nodup)
    (hds : ∀ D' ∈ ds, E.w0.heap.size ≤ D' ∧ w.heap[D']? = some (.deferred (some []))) : SatI N E σ { a with defers := ds.map coll } (w.putObj D (.deferred none)) ι ro := by
  have hoth : ∀ k, k ≠ D → (w.putObj D (.deferred none)).heap[k]? = w.heap[k]? := fun k hk => World.putObj_heap_other hk
  have hlt := (Array.getElem?_eq_some_iff.1 hD).1
  have hcell : ∀ b o, (w.putObj D (.deferred none)).cell? ⟨b, o, none⟩ = w.cell? ⟨b, o, none⟩ := by
    intro b o
    by_cases e : b = D
    · subst e
      simp only [World.cell?]
      rw [World.putObj_heap_same hlt, hD]
    · simp only [World.cell?]; rw [hoth b e]
  have hl : Later ro w ro (w.putObj D (.deferred none)) := fun b o h => ⟨h, hcell b o⟩
  have g : Grew ι σ.ob ro w ι σ.ob ro (w.putObj D (.deferred none)) := grew_of_below hl
  refine ⟨⟨hS.keeps.os, hS.keeps.tape, hS.keeps.output, by rw [World.putObj_size]; exact hS.keeps.size, fun k hk hB => ?_⟩, hS.size, ⟨ds, rfl, hnd2, fun D' h' => ⟨(hds D' h').1, ?_⟩⟩, fun k => (hS.slots k).grew g, ?_, hS.dom, hS.inj, hS.home,
    fun b o h => by rw [World.putObj_size]; exact hS.rolt b o h, hS.roold, hS.gr.trans g⟩
  · rw [hoth k (by omega)]; exact hS.keeps.block k hk hB
  · rw [hoth D' (fun e => hnd (e ▸ h'))]; exact (hds D' h').2
  · intro n o ho
    refine (hS.objs n o ho).moved g rfl (fun pl hp => hoth _ fun e => ?_) (fun _ _ _ h => h)
    exact (hS.objs n o ho).notDef hp (by rw [e]; exact hD)

theorem leaves_marks {P : Program} {fn : Func} {N : Nat} {E : Ent} {R : Ending → World → Prop} {ι : Places} {ro : RO} : ∀ (ds : List Nat) (a : Act) (w : World), SatI N E σ a w ι ro → a.defers = ds.map coll → ds.Nodup →
    (∀ D ∈ ds, E.w0.heap.size ≤ D ∧ w.heap[D]? = some (.deferred (some []))) → (∀ a' w', a'.tmps = a.tmps → SatI N E σ a' w' ι ro → ∃ v, (results fn a'.tmps).run P w' = .ok v w' ∧ R (.returned v) w') →
    LeavesInM (fenceOf none) 0 P fn a.tmps R (ds.map coll) .returning w
  | [], a, w, hS, _, _, _, hR => hR a w rfl hS
  | D :: ds, a, w, hS, hd, hnd, hds, hR => by
    rw [List.nodup_cons] at hnd
    have hD := (hds D (by simp)).2
    refine ⟨by simp, .inl ⟨D, _, rfl, run_takeDeferred hD, ?_⟩⟩
    have h2 := hS.shut hD (hds D (by simp)).1 hnd.1 hnd.2 fun D' h' => hds D' (by simp [h'])
    exact leaves_marks ds { a with defers := ds.map coll } _ h2 rfl hnd.2 (fun D' h' => ⟨(hds D' (by simp [h'])).1, by
      have hne : D' ≠ D := fun e => by subst e; exact hnd.1 h'
      rw [World.putObj_heap_other hne]; exact (hds D' (by simp [h'])).2⟩) (fun a' w' ha hs => hR a' w' ha hs)

theorem Con.of {P : Program} {g : FuncId} {fn : Func} {code : Code} {m : MCode} {ks : List RK} {as rs : List AV} {os os2 : List (Nat × Ob)} (hf : P.funcs[g]? = some fn) (hn : (fn.name == "runtime.NumGoroutine") = false) (hb : fn.body = some code) (hlen : as.length ≤ fn.ntmps)
    (hc : comp P fn.ntmps code = some m) (hk : cRes P fn.ntmps fn.results.toList = some ks) (h : ∀ X : Ctx, X.P = P → X.rd = none ∧ X.N = fn.ntmps → X.E.ob0 = lookO os → X.awp m (retX X.E ks rs os2) ⟨argL as, lookO os⟩) : Con P g as os rs os2 := by
  intro w ι ro xs hH hps
  refine .inl ⟨⟨fn, hf, hn, by rw [hb]; rfl⟩, ?_⟩
  let X : Ctx := ⟨P, fn.ntmps, ⟨w, ro, ι, lookO os⟩, none, noY, yok_no _ _⟩
  have hok := awp_sound (X := X) m _ _ (h X rfl ⟨rfl, rfl⟩ rfl)
  refine callsIn_wide (n := 0) |>.1 ?_
  refine callsIn_of_wp_marks hf hb trivial ?_
  have hxl : xs.toArray.size = as.length := by simpa using hps.1.symm
  have hS : X.Sat ⟨argL as, lookO os⟩ { tmps := xs.toArray ++ Array.replicate (fn.ntmps - xs.toArray.size) undef, defers := [] } w := by
    refine ⟨ι, ro, ⟨hH.keeps, ?_, .nil _ _ rfl, ?_, hH.objs, hH.dom, hH.inj, hH.home, hH.rolt, hH.roold, hH.gr⟩⟩
    · show (xs.toArray ++ Array.replicate (fn.ntmps - xs.toArray.size) undef).size = fn.ntmps
      simp only [Array.size_append, Array.size_replicate]
      omega
    · intro k
      simp only [argL]
      cases hk' : as[k]? with
      | none => exact .any _
      | some p =>
        have hkl : k < xs.length := by rw [← hps.1]; exact (List.getElem?_eq_some_iff.1 hk').1
        have : (xs.toArray ++ Array.replicate (fn.ntmps - xs.toArray.size) undef).getD k undef = xs[k] := by
          simp [Array.getD_eq_getD_getElem?, Array.getElem?_append, hkl]
        rw [this]
        exact hps.2 k p _ hk' (List.getElem?_eq_getElem hkl)
  have fin : ∀ σ' a' w', (∃ vs ρ, resAll σ' ks = some vs ∧ Sub σ'.ob ρ (lookO os2) ∧ Holds X.E ρ (lookO os2) ∧ MAs σ'.ob ρ (lookO os2) vs rs) → X.Sat σ' a' w' →
      LeavesInM (fenceOf none) 0 P fn a'.tmps (fun e w' => ∃ vs ι' ro', e = .returned (retv vs) ∧ Has ⟨w, ro, ι, lookO os⟩ (lookO os2) w' ι' ro' ∧ RepAll ι' (lookO os2) ro' w' rs vs) a'.defers .returning w' := by
    rintro σ' a' w' ⟨us, ρ, hr, hsub, hho, hma⟩ ⟨ι', ro', hSI⟩
    obtain ⟨ds, d1, d2, d3⟩ := hSI.defers
    rw [d1]
    refine leaves_marks ds a' w' hSI d1 d2 d3 fun a2 w2 _ hSI => ?_
    obtain ⟨vs, h1, h2⟩ := res_run (P := P) hSI hk hr
    refine ⟨retv vs, ?_, vs, _, ro', rfl, hSI.has.sub hsub hho, hma.rep hsub h2⟩
    have e : results fn a2.tmps = (do let vs ← fn.results.mapM (resOne a2.tmps); pure (if h : vs.size = 1 then vs[0] else .tuple vs)) := rfl
    rw [e, Array.mapM_eq_mapM_toList]
    simp only [Sem.run_bind, Sem.run_map, h1]
    simp only [Result.andThen_ok, Sem.run_pure]
    congr 1
    match vs with
    | [] => rfl
    | [v] => rfl
    | _ :: _ :: _ => simp [retv]
  refine wpIn_mono (hok code hc _ w hS) ?_
  intro e a' w' he
  cases e with
  | normal => obtain ⟨σ', h1, h2⟩ := he; exact fin σ' a' w' h1 h2
  | ret => obtain ⟨σ', h1, h2⟩ := he; exact fin σ' a' w' h1 h2
  | exit id => obtain ⟨σ', h1, h2⟩ := he; exact h1
  | goto l => exact he
  | panic c => exact he.elim
  | outgrown => exact he.elim

end
end Cr
