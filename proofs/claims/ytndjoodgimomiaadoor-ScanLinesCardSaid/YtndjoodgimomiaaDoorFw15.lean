/- Two instructions that are apart may be taken in either order. -/
import Derived.Test.YtndjoodgimomiaaDoorFw14
namespace Cr
open Go Go.RowKit

def mstepV (C : Cons) (m : MIns) (σ : St) (K : AV → Obs → Prop) : Prop :=
  match m.guard with
  | none => mop C (m.dst.getD 0) m.op σ.sl σ.ob K
  | some (g, b) => match σ.sl g with
    | .pv (.bool c) => (c = b → mop C (m.dst.getD 0) m.op σ.sl σ.ob K) ∧ (c ≠ b → K .any σ.ob)
    | _ => False

theorem mstep_eq (C : Cons) (m : MIns) (σ : St) (K : St → Prop) : mstep C m σ K = mstepV C m σ fun v ob => K (St.put ⟨σ.sl, ob⟩ m.dst v) := rfl

section
variable {C : Cons} {m a b : MIns} {σ σ2 : St} {K : AV → Obs → Prop}

theorem mstepV_ex (h : mstepV C m σ K) : ∃ v ob', K v ob' ∧ ∀ K' : AV → Obs → Prop, K' v ob' → mstepV C m σ K' := by
  unfold mstepV at h ⊢
  cases hg : m.guard with
  | none =>
    rw [hg] at h
    exact mop_ex h
  | some g =>
    obtain ⟨g, b⟩ := g
    rw [hg] at h
    simp only at h ⊢
    split at h
    · rename_i c hc
      by_cases hcb : c = b
      · obtain ⟨v, ob', h1, h2⟩ := mop_ex (h.1 hcb)
        exact ⟨v, ob', h1, fun K' h' => ⟨fun _ => h2 K' h', fun hn => absurd hcb hn⟩⟩
      · exact ⟨_, _, h.2 hcb, fun K' h' => ⟨fun he => absurd he hcb, fun _ => h'⟩⟩
    · exact h.elim

theorem mstepV_congr (h : ∀ k ∈ m.slots, σ.sl k = σ2.sl k) (hob : σ.ob = σ2.ob) : mstepV C m σ K = mstepV C m σ2 K := by
  have h1 : ∀ k ∈ m.op.slots, σ.sl k = σ2.sl k := fun k hk => h k (by simp [MIns.slots, hk])
  unfold mstepV
  cases hg : m.guard with
  | none => simp only [hob, mop_congr h1]
  | some g =>
    obtain ⟨g, b⟩ := g
    have h2 : σ.sl g = σ2.sl g := h g (by simp [MIns.slots, hg])
    simp only [h2, hob, mop_congr h1]

theorem mstepV_kind1 (hk : m.op.kind ≤ 1) : mstepV C m σ K = mstepV C m σ fun v _ => K v σ.ob := by
  unfold mstepV
  rw [mop_kind1 hk]

theorem mstepV_kind0 (hk : m.op.kind = 0) (h : ∀ k ∈ m.slots, σ.sl k = σ2.sl k) : mstepV C m σ K = mstepV C m σ2 fun v _ => K v σ.ob := by
  have h1 : ∀ k ∈ m.op.slots, σ.sl k = σ2.sl k := fun k hk => h k (by simp [MIns.slots, hk])
  unfold mstepV
  rw [mop_kind0 (ob2 := σ2.ob) hk, mop_congr h1]
  cases hg : m.guard with
  | none => rfl
  | some g =>
    obtain ⟨g, b⟩ := g
    have h2 : σ.sl g = σ2.sl g := h g (by simp [MIns.slots, hg])
    simp only [h2]

theorem put_sl {σ : St} {d : Option Nat} {v : AV} {k : Nat} (h : ∀ d', d = some d' → k ≠ d') : (σ.put d v).sl k = σ.sl k := by
  cases d with
  | none => rfl
  | some d' => simp [St.put, h d' rfl]

theorem put_ob {σ : St} {d : Option Nat} {v : AV} : (σ.put d v).ob = σ.ob := by cases d <;> rfl

theorem put_comm {s : Nat → AV} {o1 o2 o : Obs} {d1 d2 : Option Nat} {v1 v2 : AV} (h : ∀ d, d1 = some d → d2 ≠ some d) :
    St.put ⟨(St.put ⟨s, o1⟩ d1 v1).sl, o⟩ d2 v2 = St.put ⟨(St.put ⟨s, o2⟩ d2 v2).sl, o⟩ d1 v1 := by
  cases d1 with
  | none => cases d2 <;> rfl
  | some d1 =>
    cases d2 with
    | none => rfl
    | some d2 =>
      have hne : d2 ≠ d1 := fun e => h d1 rfl (by rw [e])
      simp only [St.put]
      congr 1
      funext j
      by_cases e1 : j = d1 <;> by_cases e2 : j = d2 <;> simp_all

theorem apart_spec (h : a.apart b = true) : (∀ d, a.dst = some d → d ∉ b.slots) ∧ (∀ d, a.dst = some d → b.dst ≠ some d) ∧ (∀ d, b.dst = some d → d ∉ a.slots) := by
  unfold MIns.apart at h
  simp only [Bool.and_eq_true] at h
  refine ⟨fun d hd => ?_, fun d hd => ?_, fun d hd => ?_⟩
  · have := h.1; simp [hd] at this; exact this.1
  · have := h.1; simp [hd] at this; exact this.2
  · have := h.2; simp [hd] at this; exact this

theorem swap {K : St → Prop} (hi : indep a b = true) (h : mstep C b σ fun σ1 => mstep C a σ1 K) : mstep C a σ fun σ1 => mstep C b σ1 K := by
  unfold indep at hi
  simp only [Bool.and_eq_true, Bool.or_eq_true, beq_iff_eq] at hi
  obtain ⟨hk, hap⟩ := hi
  obtain ⟨p1, p2, p3⟩ := apart_spec hap
  -- a's slots, behind b; b's slots, behind a
  have agA : ∀ (o : Obs) (v : AV), ∀ k ∈ a.slots, (St.put ⟨σ.sl, o⟩ b.dst v).sl k = σ.sl k := fun o v k hk => put_sl (σ := ⟨σ.sl, o⟩) fun d hd e => p3 d hd (e ▸ hk)
  have agB : ∀ (o : Obs) (v : AV), ∀ k ∈ b.slots, (St.put ⟨σ.sl, o⟩ a.dst v).sl k = σ.sl k := fun o v k hk => put_sl (σ := ⟨σ.sl, o⟩) fun d hd e => p1 d hd (e ▸ hk)
  have comm : ∀ (o1 o2 o : Obs) (va vb : AV), St.put ⟨(St.put ⟨σ.sl, o1⟩ a.dst va).sl, o⟩ b.dst vb = St.put ⟨(St.put ⟨σ.sl, o2⟩ b.dst vb).sl, o⟩ a.dst va := fun o1 o2 o va vb => put_comm p2
  rw [mstep_eq] at h ⊢
  by_cases ka : a.op.kind = 0
  · obtain ⟨vb, obb, h, hb⟩ := mstepV_ex h
    rw [mstep_eq, mstepV_kind0 (σ2 := σ) ka (agA obb vb)] at h
    obtain ⟨va, oa, h, ha⟩ := mstepV_ex h
    rw [put_ob] at h
    rw [mstepV_kind1 (by omega)]
    refine ha _ ?_
    rw [mstep_eq, mstepV_congr (σ2 := σ) (agB σ.ob va) put_ob]
    refine hb _ ?_
    rw [comm]
    exact h
  · have kb1 : b.op.kind ≤ 1 := by
      rcases hk with (h | h) | h
      · exact absurd h ka
      · omega
      · omega
    rw [mstepV_kind1 kb1] at h
    obtain ⟨vb, obb, h, hb⟩ := mstepV_ex h
    rw [mstep_eq, mstepV_congr (σ2 := σ) (agA σ.ob vb) put_ob] at h
    by_cases kb : b.op.kind = 0
    · obtain ⟨va, oa, h, ha⟩ := mstepV_ex h
      refine ha _ ?_
      rw [mstep_eq, mstepV_kind0 (σ2 := σ) kb (agB oa va)]
      refine hb _ ?_
      rw [put_ob, comm oa σ.ob oa va vb]
      exact h
    · have ka1 : a.op.kind ≤ 1 := by
        rcases hk with (h | h) | h
        · exact absurd h ka
        · exact absurd h kb
        · omega
      rw [mstepV_kind1 ka1] at h ⊢
      obtain ⟨va, oa, h, ha⟩ := mstepV_ex h
      refine ha _ ?_
      rw [mstep_eq, mstepV_congr (σ2 := σ) (agB σ.ob va) put_ob, mstepV_kind1 kb1]
      refine hb _ ?_
      rw [comm σ.ob σ.ob σ.ob va vb]
      exact h

/-! ### Lists of instructions -/

def wpI (C : Cons) (ms : List MIns) : List Nat → St → (St → Prop) → Prop
  | [], σ, K => K σ
  | i :: r, σ, K => match ms[i]? with
    | some m => mstep C m σ fun σ' => wpI C ms r σ' K
    | none => False

theorem mstep_mono {K K' : St → Prop} (h : ∀ σ, K σ → K' σ) (hm : mstep C m σ K) : mstep C m σ K' := by
  rw [mstep_eq] at hm ⊢
  obtain ⟨v, ob', h1, h2⟩ := mstepV_ex hm
  exact h2 _ (h _ h1)

theorem wpI_front {ms : List MIns} {K : St → Prop} {i : Nat} (hlt : i < ms.length) : ∀ (pre post : List Nat) (σ : St), (∀ j ∈ pre, ∃ x y, ms[i]? = some x ∧ ms[j]? = some y ∧ indep x y = true) → wpI C ms (pre ++ i :: post) σ K → wpI C ms (i :: (pre ++ post)) σ K
  | [], post, σ, _, h => h
  | j :: pre, post, σ, hi, h => by
    obtain ⟨x, y, hx, hy, hxy⟩ := hi j (by simp)
    have ih := fun σ' => wpI_front (K := K) hlt pre post σ' (fun k hk => hi k (by simp [hk]))
    simp only [List.cons_append, wpI, hy] at h
    have h' := mstep_mono (fun σ' hs => ih σ' hs) h
    simp only [List.cons_append, wpI, hx, hy] at h' ⊢
    exact swap hxy h'

theorem wpI_range' {ms : List MIns} {K : St → Prop} : ∀ (r pre : List MIns) (σ : St), ms = pre ++ r → wpL C r σ K → wpI C ms (List.range' pre.length r.length) σ K
  | [], pre, σ, _, h => h
  | m :: r, pre, σ, e, h => by
    have hm : ms[pre.length]? = some m := by rw [e]; simp
    simp only [List.length_cons, List.range'_succ, wpI, hm]
    refine mstep_mono (fun σ' hs => ?_) h
    have := wpI_range' (ms := ms) r (pre ++ [m]) σ' (by simp [e]) hs
    simpa using this

theorem wpI_range {ms : List MIns} {K : St → Prop} (h : wpL C ms σ K) : wpI C ms (List.range ms.length) σ K := by
  have := wpI_range' (C := C) (ms := ms) (K := K) ms [] σ rfl h
  rwa [List.range_eq_range']

end
end Cr
