/- Regions, code, functions: the weakest preconditions over abstract states are sound. -/
import Derived.Test.YtndjoodgimomiaaDoorFw15
namespace Cr
open Go Go.RowKit

section
variable {X : Ctx} {σ : St} {a : Act} {w : World}

theorem cList_spec {P : Program} {N : Nat} {pr : Bool} {ops : Array Oper} : ∀ {l : List Oper} {ms : List MIns}, cList P N pr ops l = some ms → ms.length = l.length ∧ ∀ (i : Nat) o, l[i]? = some o → ∃ m, ms[i]? = some m ∧ cIns P N pr ops o = some m
  | [], ms, h => by cases h; exact ⟨rfl, by simp⟩
  | o :: r, ms, h => by
    simp only [cList, Option.bind_eq_some_iff] at h
    obtain ⟨m, hm, l, hl, h⟩ := h
    cases h
    obtain ⟨h1, h2⟩ := cList_spec hl
    refine ⟨by simp [h1], ?_⟩
    intro i o' ho'
    cases i with
    | zero => simp at ho'; subst ho'; exact ⟨m, rfl, hm⟩
    | succ i => exact h2 i o' (by simpa using ho')

theorem ops_sound {pr : Bool} {ops : Array Oper} {ms : List MIns} (hc : cList X.P X.N pr ops ops.toList = some ms) {K : St → Prop} {Q : Exit → Act → World → Prop} (hQ : ∀ σ a w, K σ → X.Sat σ a w → Q .normal a w) :
    ∀ (l : List Nat) (σ : St) (a : Act) (w : World), wpI X.C ms l σ K → X.Sat σ a w → wpOpsIn (fenceOf X.rd) 0 X.P ops Q l a w
  | [], σ, a, w, h, hS => hQ σ a w h hS
  | i :: r, σ, a, w, h, hS => by
    obtain ⟨hl, hm⟩ := cList_spec hc
    rw [wpOpsIn_cons]
    simp only [wpI] at h
    split at h
    · rename_i m hmi
      have hlt : i < ops.size := by
        have := (List.getElem?_eq_some_iff.1 hmi).1
        rw [hl] at this; simpa using this
      obtain ⟨m', h1, h2⟩ := hm i ops[i] (by simp [hlt])
      rw [hmi] at h1; cases h1
      exact step_sound (o := ops[i]) (by simp [hlt]) h2 h hS fun σ' a' w' hk hs => ops_sound hc hQ r σ' a' w' hk hs
    · exact h.elim

theorem drawAt_spec {ops : Array Oper} {ms : List MIns} {an : List (List Nat)} {i : Nat} (h : drawAt ops ms an i = true) : ∃ o m, ops[i]? = some o ∧ ms[i]? = some m ∧
    (∀ j ∈ anAt an i, j ∈ predsOf o ∨ ∃ p ∈ predsOf o, j ∈ anAt an p) ∧ (∀ p ∈ predsOf o, p < i) ∧ ∀ j, j < i → j ∈ anAt an i ∨ ∃ b, ms[j]? = some b ∧ indep m b = true := by
  unfold drawAt at h
  split at h
  · rename_i o m ho hm
    simp only [Bool.and_eq_true, List.all_eq_true] at h
    obtain ⟨⟨h1, h2⟩, h3⟩ := h
    refine ⟨o, m, ho, hm, ?_, ?_, ?_⟩
    · intro j hj
      have := h1 j hj
      simpa using this
    · intro p hp
      simpa using h2 p hp
    · intro j hj
      have := h3 j (by simpa using hj)
      simp only [Bool.or_eq_true] at this
      rcases this with h | h
      · exact .inl (by simpa using h)
      · right
        split at h
        · exact ⟨_, by assumption, h⟩
        · cases h
  · cases h

def left (n : Nat) (listed : Array Bool) : List Nat := (List.range n).filter fun i => !listed.getD i false

theorem mem_left {n i : Nat} {listed : Array Bool} : i ∈ left n listed ↔ i < n ∧ listed.getD i false = false := by simp [left]

theorem left_sorted (n : Nat) (listed : Array Bool) : (left n listed).Pairwise (· < ·) := (List.pairwise_lt_range).filter _

theorem left_set {n i : Nat} {listed : Array Bool} (hs : listed.size = n) (hi : i < n) : left n (listed.setIfInBounds i true) = (left n listed).filter (· ≠ i) := by
  unfold left
  rw [List.filter_filter]
  apply List.filter_congr
  intro j hj
  by_cases e : j = i
  · subst e
    have : j < listed.size := by omega
    simp [Array.getD, this]
  · have h' : ¬ i = j := fun e' => e e'.symm
    simp [Array.getD_eq_getD_getElem?, Array.getElem?_setIfInBounds, h', e]

theorem filter_mid {i : Nat} {pre post : List Nat} (h : (pre ++ i :: post).Pairwise (· < ·)) : (pre ++ i :: post).filter (· ≠ i) = pre ++ post := by
  rw [List.pairwise_append] at h
  obtain ⟨h1, h2, h3⟩ := h
  rw [List.pairwise_cons] at h2
  rw [List.filter_append, List.filter_cons]
  have e1 : pre.filter (· ≠ i) = pre := by
    rw [List.filter_eq_self]
    intro j hj
    have := h3 j hj i (by simp)
    simp; omega
  have e2 : post.filter (· ≠ i) = post := by
    rw [List.filter_eq_self]
    intro j hj
    have := h2.1 j hj
    simp; omega
  rw [e1, e2]
  simp

theorem draw_sound {pr : Bool} {ops : Array Oper} {ms : List MIns} {an : List (List Nat)} (hc : cList X.P X.N pr ops ops.toList = some ms) (hd : ∀ i, i < ops.size → drawAt ops ms an i = true) {K : St → Prop} {Q : Exit → Act → World → Prop}
    (hQ : ∀ σ a w, K σ → X.Sat σ a w → Q .normal a w) :
    ∀ (fuel : Nat) (listed : Array Bool) (σ : St) (a : Act) (w : World), listed.size = ops.size → (left ops.size listed).length ≤ fuel → (∀ i, listed.getD i false = true → ∀ j ∈ anAt an i, listed.getD j false = true) →
      wpI X.C ms (left ops.size listed) σ K → X.Sat σ a w → wpAnyIn (fenceOf X.rd) 0 X.P .any ops Q fuel listed a w := by
  intro fuel
  have hready : ∀ (listed : Array Bool), listed.size = ops.size → Region.ready .any ops listed = [] → left ops.size listed = [] := by
    intro listed hs hr
    cases hl : left ops.size listed with
    | nil => rfl
    | cons i0 rest =>
      exfalso
      have hm : i0 ∈ left ops.size listed := by rw [hl]; simp
      obtain ⟨h1, h2⟩ := mem_left.mp hm
      obtain ⟨o, m, ho, _, _, hp, _⟩ := drawAt_spec (hd i0 h1)
      have : i0 ∈ Region.ready .any ops listed := by
        rw [mem_ready]
        refine ⟨?_, o, ho, ?_⟩
        · have : i0 < listed.size := by omega
          simpa [Array.getD, this] using h2
        · intro e he hb
          have hpe : e.on ∈ predsOf o := by
            unfold predsOf
            exact List.mem_map.mpr ⟨e, List.mem_filter.mpr ⟨by simpa using he, hb⟩, rfl⟩
          have hlt := hp _ hpe
          cases hx : listed.getD e.on false with
          | true => rfl
          | false =>
            exfalso
            have hin : e.on ∈ left ops.size listed := mem_left.mpr ⟨by omega, hx⟩
            have hsrt := left_sorted ops.size listed
            rw [hl] at hsrt hin
            rw [List.pairwise_cons] at hsrt
            rcases List.mem_cons.mp hin with h | h
            · omega
            · have := hsrt.1 _ h; omega
      rw [hr] at this
      cases this
  induction fuel with
  | zero =>
    intro listed σ a w hs hf hcl h hS
    have hnil : left ops.size listed = [] := List.length_eq_zero_iff.mp (by omega)
    refine ⟨?_, ?_⟩
    · cases hr : Region.ready .any ops listed with
      | nil => rfl
      | cons i r =>
        exfalso
        have : i ∈ Region.ready .any ops listed := by rw [hr]; simp
        rw [mem_ready] at this
        obtain ⟨h1, o, ho, _⟩ := this
        have hlt : i < ops.size := (Array.getElem?_eq_some_iff.1 ho).1
        have : i ∈ left ops.size listed := mem_left.mpr ⟨hlt, by
          have : i < listed.size := by omega
          simpa [Array.getD, this] using h1⟩
        rw [hnil] at this; cases this
    · rw [hnil] at h
      exact hQ σ a w h hS
  | succ fuel ih =>
    intro listed σ a w hs hf hcl h hS
    refine ⟨fun hr => ?_, ?_⟩
    · have hnil := hready listed hs hr
      rw [hnil] at h
      exact hQ σ a w h hS
    · intro i hi
      rw [mem_ready] at hi
      obtain ⟨h1, o, ho, hp⟩ := hi
      have hlt : i < ops.size := (Array.getElem?_eq_some_iff.1 ho).1
      have hil : i < listed.size := by omega
      have him : i ∈ left ops.size listed := mem_left.mpr ⟨hlt, by simpa [Array.getD, hil] using h1⟩
      obtain ⟨pre, post, hsplit⟩ := List.append_of_mem him
      obtain ⟨o', m, ho', hmi, ha, hpl, hind⟩ := drawAt_spec (hd i hlt)
      rw [ho] at ho'; cases ho'
      have hpreds : ∀ p ∈ predsOf o, listed.getD p false = true := by
        intro p hpp
        unfold predsOf at hpp
        obtain ⟨e, he, rfl⟩ := List.mem_map.mp hpp
        obtain ⟨he1, he2⟩ := List.mem_filter.mp he
        exact hp e (by simpa using he1) he2
      have hanc : ∀ j ∈ anAt an i, listed.getD j false = true := by
        intro j hj
        rcases ha j hj with h | ⟨p, hp1, hp2⟩
        · exact hpreds j h
        · exact hcl p (hpreds p hp1) j hp2
      have hsrt := left_sorted ops.size listed
      rw [hsplit] at hsrt
      have hpre : ∀ j ∈ pre, ∃ x y, ms[i]? = some x ∧ ms[j]? = some y ∧ indep x y = true := by
        intro j hj
        have hji : j < i := by
          rw [List.pairwise_append] at hsrt
          exact hsrt.2.2 j hj i (by simp)
        have hjl : j ∈ left ops.size listed := by rw [hsplit]; simp [hj]
        have hju := (mem_left.mp hjl).2
        rcases hind j hji with h | ⟨b, hb1, hb2⟩
        · rw [hanc j h] at hju; cases hju
        · exact ⟨m, b, hmi, hb1, hb2⟩
      obtain ⟨hlen, hcm⟩ := cList_spec hc
      have hfront := wpI_front (C := X.C) (K := K) (i := i) (by rw [hlen]; simpa using hlt) pre post σ hpre (by rw [← hsplit]; exact h)
      have hnew : left ops.size (listed.setIfInBounds i true) = pre ++ post := by rw [left_set hs hlt, hsplit]; exact filter_mid hsrt
      simp only [wpI, hmi] at hfront
      obtain ⟨m', e1, e2⟩ := hcm i o (by simpa using ho)
      rw [hmi] at e1; cases e1
      refine step_sound ho e2 hfront hS fun σ' a' w' hk hs' => ?_
      refine ih _ σ' a' w' (by simpa using hs) ?_ ?_ (by rw [hnew]; exact hk) hs'
      · rw [hnew]
        rw [hsplit] at hf
        simp at hf ⊢; omega
      · intro k hk j hj
        have hkeep : ∀ j, listed.getD j false = true → (listed.setIfInBounds i true).getD j false = true := by
          intro j hj
          by_cases e : j = i
          · subst e; simp [Array.getD, hil]
          · have h' : ¬ i = j := fun e' => e e'.symm
            simpa [Array.getD_eq_getD_getElem?, Array.getElem?_setIfInBounds, h'] using hj
        apply hkeep
        by_cases e : k = i
        · subst e; exact hanc j hj
        · have h' : ¬ i = k := fun e' => e e'.symm
          have hk' : listed.getD k false = true := by simpa [Array.getD_eq_getD_getElem?, Array.getElem?_setIfInBounds, h'] using hk
          exact hcl k hk' j hj

theorem Sat.drew (hS : X.Sat σ a w) : X.Sat σ a { w with drawn := w.drawn + 1 } := by
  obtain ⟨ι, ro, h⟩ := hS
  have hb : Below w.heap.size w { w with drawn := w.drawn + 1 } := ⟨rfl, rfl, rfl, Nat.le_refl _, fun _ _ => rfl⟩
  exact ⟨ι, ro, SatI.below h hb (fun _ _ h => h) (fun _ _ h => .inl h) h.rolt⟩

theorem reg_sound {pr : Bool} {id : Nat} {ops : Array Oper} {draw : Bool} {ms : List MIns} (hc : cList X.P X.N pr ops ops.toList = some ms) (hd : draw = true → drawOK X.P ops ms = true) {Q : MExit → St → Prop} (h : wpL X.C ms σ (Q .normal)) (hS : X.Sat σ a w) :
    (Code.region id ops draw).wpIn (fenceOf X.rd) 0 X.P (X.lift Q) a w := by
  have hlen : ms.length = ops.size := by simpa using (cList_spec hc).1
  have hI := wpI_range h
  rw [hlen] at hI
  cases draw with
  | false => exact wpIn_region (ops_sound hc (fun σ a w hk hs => ⟨σ, hk, hs⟩) _ σ a w hI hS)
  | true =>
    have hd' := hd rfl
    unfold drawOK at hd'
    simp only [Bool.and_eq_true, List.all_eq_true] at hd'
    refine wpIn_region_any hd'.1 ?_
    have hl0 : left ops.size (Array.replicate ops.size false) = List.range ops.size := by
      unfold left
      rw [List.filter_eq_self]
      intro i hi
      simp at hi
      simp [Array.getD, hi]
    refine draw_sound (an := ancs ops) hc (fun i hi => hd'.2 i (by simpa using hi)) (fun σ a w hk hs => ⟨σ, hk, hs⟩) ops.size _ σ a _ (by simp) (by rw [hl0]; simp) ?_ (by rw [hl0]; exact hI) (Sat.drew hS)
    intro i hi
    exfalso
    rcases Nat.lt_or_ge i ops.size with h' | h'
    · simp [Array.getD, h'] at hi
    · simp [Array.getD, show ¬ i < ops.size by omega] at hi

end
end Cr
