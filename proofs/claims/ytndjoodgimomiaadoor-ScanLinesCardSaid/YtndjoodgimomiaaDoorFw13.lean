/- Operations, one after the other and in whatever order. -/
import Derived.Test.YtndjoodgimomiaaDoorFw12
namespace Cr
open Go Go.RowKit

section
variable {X : Ctx} {σ : St} {a : Act} {w : World} {ι : Places} {ro : RO} {K : AV → Obs → Prop} {o : Oper} {m : MOp} {d : Nat}

theorem op_sound {pr : Bool} (hS : X.SI σ a w ι ro) (hc : cOp X.P X.N pr o = some m) (hm : mop X.C d m σ.sl σ.ob K) : FinR X σ.sl K a ((execOp a.eval o).run X.P w) := by
  unfold cOp at hc
  split at hc
  · rename_i x ho
    simp only [Option.map_eq_some_iff] at hc; obtain ⟨y, hy, rfl⟩ := hc
    exact s_mv hS (.inl ho) hy hm
  · rename_i x ho
    simp only [Option.map_eq_some_iff] at hc; obtain ⟨y, hy, rfl⟩ := hc
    exact s_mv hS (.inr ho) hy hm
  · rename_i t ho
    simp only [Option.map_eq_some_iff] at hc; obtain ⟨z, hz, rfl⟩ := hc
    exact s_zero hS ho hz hm
  · rename_i t x ho
    simp only [Option.map_eq_some_iff] at hc; obtain ⟨y, hy, rfl⟩ := hc
    exact s_box hS ho hy hm
  · rename_i t parts ho
    split at hc
    · rename_i fs hu
      simp only [Option.bind_eq_some_iff, Option.map_eq_some_iff] at hc
      obtain ⟨z, hz, pl, hpl, ps, hps, rfl⟩ := hc
      exact s_build hS ho hu hz hpl hps hm
    · cases hc
  · rename_i t len parts ho
    split at hc
    · rename_i e hu
      simp only [Option.bind_eq_some_iff] at hc
      obtain ⟨z, hz, i, hi, hc⟩ := hc
      split at hc
      · rename_i hcond
        obtain ⟨h1, h2, h3, h4⟩ := hcond
        simp only [Option.map_eq_some_iff] at hc
        obtain ⟨ps, hps, rfl⟩ := hc
        exact s_bsl hS ho hu hz hi h1 h2 h3 h4 hps hm
      · cases hc
    · cases hc
  · rename_i t x ho
    simp only [Option.bind_eq_some_iff] at hc
    obtain ⟨⟨g, s⟩, ht, hc⟩ := hc
    split at hc
    · rename_i hgs
      simp only [Option.map_eq_some_iff] at hc
      obtain ⟨y, hy, rfl⟩ := hc
      exact s_load hS ho ht hgs hy hm
    · cases hc
  · rename_i t x v ho
    simp only [Option.bind_eq_some_iff, Option.map_eq_some_iff] at hc
    obtain ⟨i, hi, y, hy, z, hz, rfl⟩ := hc
    exact s_store hS ho hi hy hz hm
  · rename_i x ho
    simp only [Option.map_eq_some_iff] at hc; obtain ⟨y, hy, rfl⟩ := hc
    exact s_nilck hS ho hy hm
  · rename_i op t x y u ho
    simp only [Option.bind_eq_some_iff, Option.map_eq_some_iff] at hc
    obtain ⟨p, hp, q, hq, rfl⟩ := hc
    exact s_bin hS ho hp hq hm
  · rename_i t x ho
    simp only [Option.map_eq_some_iff] at hc; obtain ⟨y, hy, rfl⟩ := hc
    exact s_not hS ho hy hm
  · rename_i t x ho
    simp only [Option.map_eq_some_iff] at hc; obtain ⟨y, hy, rfl⟩ := hc
    exact s_neg hS ho hy hm
  · rename_i s t x ho
    split at hc
    · rename_i k0 k hs ht
      simp only [Option.map_eq_some_iff] at hc; obtain ⟨y, hy, rfl⟩ := hc
      exact s_conv hS ho hs ht hy hm
    · rename_i e hs ht
      simp only [Option.bind_eq_some_iff] at hc
      obtain ⟨j, hj, hc⟩ := hc
      split at hc
      · cases hc
      · rename_i hj0
        simp only [Option.map_eq_some_iff] at hc; obtain ⟨y, hy, rfl⟩ := hc
        exact s_toU hS ho hs ht hj hj0 hy hm
    · rename_i e hs ht
      simp only [Option.bind_eq_some_iff] at hc
      obtain ⟨j, hj, hc⟩ := hc
      split at hc
      · rename_i hcond
        simp only [Option.map_eq_some_iff] at hc; obtain ⟨y, hy, rfl⟩ := hc
        exact s_frU hS ho hs ht hj hcond.1 hcond.2 hy hm
      · cases hc
    · cases hc
  · rename_i t x f ho
    split at hc
    · rename_i fs hu
      simp only [Option.bind_eq_some_iff] at hc
      obtain ⟨fd, hf, i, hi, hc⟩ := hc
      split at hc
      · cases hc
      · rename_i hne
        simp only [Option.map_eq_some_iff] at hc; obtain ⟨y, hy, rfl⟩ := hc
        exact s_fadr hS ho hu hf hi hne hy hm
    · cases hc
  · rename_i t x f ho
    split at hc
    · rename_i fs hu
      simp only [Option.bind_eq_some_iff] at hc
      obtain ⟨fd, hf, ⟨g, s⟩, ht, hc⟩ := hc
      split at hc
      · rename_i hgs
        simp only [Option.map_eq_some_iff] at hc; obtain ⟨y, hy, rfl⟩ := hc
        exact s_fld hS ho hu hf ht hgs hy hm
      · cases hc
    · cases hc
  · rename_i t x i ho
    split at hc
    · rename_i e hu
      simp only [Option.bind_eq_some_iff, Option.map_eq_some_iff] at hc
      obtain ⟨j, hj, y, hy, z, hz, rfl⟩ := hc
      exact s_iadr hS ho hu hj hy hz hm
    · cases hc
  · rename_i t x i ho
    split at hc
    · rename_i hu
      simp only [Option.bind_eq_some_iff, Option.map_eq_some_iff] at hc
      obtain ⟨y, hy, z, hz, rfl⟩ := hc
      exact s_idx hS ho hu hy hz hm
    · cases hc
  · rename_i t x lo hi mx ho
    split at hc
    · rename_i hu
      simp only [Option.bind_eq_some_iff] at hc
      obtain ⟨y, hy, l, hl, h, hh, hc⟩ := hc
      split at hc
      · cases hc
      · rename_i hmx
        cases hc
        have : mx = none := by cases mx <;> simp_all
        subst this
        exact s_slcStr hS ho hu hy hl hh hm
    · rename_i e hu
      simp only [Option.bind_eq_some_iff] at hc
      obtain ⟨i, hi', y, hy, l, hl, h, hh, mm, hmm, hc⟩ := hc
      cases hc
      exact s_slcRow hS ho hu hi' hy hl hh hmm hm
    · cases hc
  · rename_i c x y ho
    simp only [Option.bind_eq_some_iff, Option.map_eq_some_iff] at hc
    obtain ⟨z, hz, p, hp, q, hq, rfl⟩ := hc
    exact s_pick hS ho hz hp hq hm
  · rename_i x i ho
    simp only [Option.map_eq_some_iff] at hc; obtain ⟨y, hy, rfl⟩ := hc
    exact s_ext hS ho hy hm
  · rename_i f first caps ho
    split at hc
    · rename_i hf
      simp only [Option.map_eq_some_iff] at hc; obtain ⟨ys, hy, rfl⟩ := hc
      exact s_mkfn hS ho hf hy hm
    · cases hc
  · rename_i c ho
    split at hc
    · rename_i f hb
      simp only [Option.bind_eq_some_iff, Option.map_eq_some_iff] at hc
      obtain ⟨y, hy, ys, hys, rfl⟩ := hc
      exact s_call hS ho hb hy hys hm
    · rename_i hb
      split at hc
      · rename_i t x hu ha
        split at hc
        · rename_i hut
          simp only [Option.map_eq_some_iff] at hc; obtain ⟨y, hy, rfl⟩ := hc
          exact s_len hS ho hb (str := true) (by simpa using hut) hu ha hy hm
        · rename_i e hut
          simp only [Option.map_eq_some_iff] at hc; obtain ⟨y, hy, rfl⟩ := hc
          exact s_len hS ho hb (str := false) (by simpa using ⟨e, hut⟩) hu ha hy hm
        · cases hc
      · cases hc
    · rename_i hb
      split at hc
      · rename_i t u x y hu ha
        split at hc
        · rename_i e hut
          simp only [Option.bind_eq_some_iff] at hc
          obtain ⟨z, hz, i, hi, hc⟩ := hc
          split at hc
          · rename_i hcond
            obtain ⟨rfl, h1, h2, h3⟩ := hcond
            simp only [Option.bind_eq_some_iff, Option.map_eq_some_iff] at hc
            obtain ⟨p, hp, q, hq, rfl⟩ := hc
            obtain ⟨⟨i', hi', hiz⟩, _⟩ := cZero_cells hz
            rw [hi] at hi'; cases hi'
            exact s_app hS ho hb hu hut hi hiz h1 h2 h3 ha hp hq hm
          · split at hc
            · rename_i hcond
              simp only [Bool.and_eq_true, beq_iff_eq] at hcond
              obtain ⟨⟨⟨h1, h2⟩, h3⟩, h4⟩ := hcond
              simp only [Option.bind_eq_some_iff, Option.map_eq_some_iff] at hc
              obtain ⟨p, hp, q, hq, rfl⟩ := hc
              exact s_apps hS ho hb hu hut (isStrD_spec h1) hi (isZ8_spec h2) h3 h4 ha hp hq hm
            · cases hc
        · cases hc
      · cases hc
    · rename_i hb
      simp only [Option.map_eq_some_iff] at hc; obtain ⟨ys, hys, rfl⟩ := hc
      exact s_minmax hS ho (b := false) (by simpa using hb) hys hm
    · rename_i hb
      simp only [Option.map_eq_some_iff] at hc; obtain ⟨ys, hys, rfl⟩ := hc
      exact s_minmax hS ho (b := true) (by simpa using hb) hys hm
    · rename_i hb
      split at hc
      · rename_i x ha
        simp only [Option.map_eq_some_iff] at hc; obtain ⟨y, hy, rfl⟩ := hc
        exact s_sdat hS ho hb ha hy hm
      · cases hc
    · rename_i hb
      split at hc
      · rename_i pt it x y hu ha
        split at hc
        · rename_i e hp
          split at hc
          · rename_i hce
            simp only [Option.bind_eq_some_iff, Option.map_eq_some_iff] at hc
            obtain ⟨p, hp', q, hq, rfl⟩ := hc
            exact s_ustr hS ho hb hu hp hce ha hp' hq hm
          · cases hc
        · cases hc
      · cases hc
    · cases hc
  · cases hc

theorem cIns_spec {P : Program} {N : Nat} {pr : Bool} {ops : Array Oper} {o : Oper} {m : MIns} (h : cIns P N pr ops o = some m) :
    cOp P N pr o = some m.op ∧ m.dst = o.dst ∧ (∀ d, o.dst = some d → d < N) ∧
    (match o.guard with | none => m.guard = none | some (j, b) => ∃ g, ((ops[j]?).bind (·.dst)) = some g ∧ g < N ∧ m.guard = some (g, b)) := by
  simp only [cIns, Option.bind_eq_some_iff] at h
  obtain ⟨mo, hmo, dd, hd, gg, hg, h⟩ := h
  cases h
  refine ⟨hmo, ?_, ?_, ?_⟩
  · split at hd
    · rename_i e; cases hd; rw [e]
    · rename_i d' e
      split at hd
      · cases hd; rw [e]
      · cases hd
  · intro d' e
    rw [e] at hd
    simp only at hd
    split at hd
    · assumption
    · cases hd
  · split at hg
    · rename_i e; cases hg; simp [e]
    · rename_i j b e
      simp only [Option.bind_eq_some_iff] at hg
      obtain ⟨g, ⟨o', ho', hg'⟩, hg⟩ := hg
      split at hg
      · cases hg
        rename_i hlt
        simp only [e]
        exact ⟨g, by simp [ho', hg'], hlt, rfl⟩
      · cases hg

theorem cOp_noDefer {P : Program} {N : Nat} {pr : Bool} (h : cOp P N pr o = some m) : ∀ c, o.op ≠ .defer c := by
  intro c e
  unfold cOp at h
  rw [e] at h
  cases h

theorem fence_fn (rd : Option Nat) (f : FuncId) : (fenceOf rd).fn f := trivial

theorem step_sound {pr : Bool} {ops : Array Oper} {i : Nat} (hi : ops[i]? = some o) {mi : MIns} (hc : cIns X.P X.N pr ops o = some mi) {K : St → Prop} (hm : mstep X.C mi σ K) (hS : X.Sat σ a w) {Q : Exit → Act → World → Prop}
    {K' : Act → World → Prop} (hK : ∀ σ' a' w', K σ' → X.Sat σ' a' w' → K' a' w') : wpOpIn (fenceOf X.rd) 0 X.P ops Q i K' a w := by
  obtain ⟨ι, ro, hSI⟩ := hS
  obtain ⟨h1, h2, h3, h4⟩ := cIns_spec hc
  have run : mop X.C (mi.dst.getD 0) mi.op σ.sl σ.ob (fun v ob => K (St.put ⟨σ.sl, ob⟩ mi.dst v)) → o.wpIn (fenceOf X.rd) 0 X.P a w K' Q := by
    intro hmop
    have hf := op_sound hSI h1 hmop
    refine ⟨fun f _ => fence_fn _ f, ?_⟩
    rw [Oper.semAt_eq _ _ _ (cOp_noDefer h1)]
    generalize (execOp a.eval o).run X.P w = r at hf
    have fin : ∀ v w', Good X σ.sl (fun v ob => K (St.put ⟨σ.sl, ob⟩ mi.dst v)) a v w' → K' (a.put o.dst v) w' := by
      rintro v w' ⟨av, ob', ι', ro', hk, hs, hr⟩
      refine hK _ _ _ hk ⟨ι', ro', ?_⟩
      rw [h2]
      exact SatI.put hs h3 hr
    cases r with
    | ok n w' =>
      cases n <;> simp only [FinR] at hf <;> first | exact hf.elim | skip
      · exact fin _ _ hf
      · exact fin _ _ hf
      · refine ⟨fun h => by simp [fenceOf, Fence.wide] at h, ?_⟩
        refine CallsIn.mono (show CallsIn (fenceOf X.rd) (0 - 1) X.P _ _ _ _ from callsIn_wide.2 hf) ?_
        rintro e w'' ⟨v, rfl, hg⟩
        exact fin _ _ hg
      · refine ⟨fun h => by simp [fenceOf, Fence.wide] at h, ?_⟩
        refine RoundIn.mono hf ?_
        rintro e w'' ⟨v, rfl, hg⟩
        exact fin _ _ hg
    | halt x w' => cases x <;> exact hf.elim
  unfold mstep at hm
  simp only [wpOpIn, hi]
  cases hg : o.guard with
  | none =>
    rw [hg] at h4
    rw [h4] at hm
    have : Region.wanted o (yielded ops a.tmps) = true := by simp [Region.wanted, hg]
    simp only [this, if_true]
    exact run hm
  | some g =>
    obtain ⟨j, b⟩ := g
    rw [hg] at h4
    obtain ⟨g, hg1, hg2, hg3⟩ := h4
    rw [hg3] at hm
    simp only at hm
    split at hm
    · rename_i c hev
      have hslot := hSI.slots g
      rw [hev] at hslot
      have hval := pv_bool hslot
      have hsz : g < a.tmps.size := by rw [hSI.size]; exact hg2
      have hget : a.tmps[g]? = some (.bool c) := by
        rw [Array.getElem?_eq_getElem hsz]
        simp [Array.getD, hsz] at hval
        rw [hval]
      have hy : yielded ops a.tmps j = some c := by simp [yielded, hg1, hget]
      by_cases hcb : c = b
      · have : Region.wanted o (yielded ops a.tmps) = true := by simp [Region.wanted, hg, hy, hcb]
        simp only [this, if_true]
        exact run (hm.1 hcb)
      · have : Region.wanted o (yielded ops a.tmps) = false := by simp [Region.wanted, hg, hy, hcb]
        simp only [this, Bool.false_eq_true, if_false]
        refine ⟨fun f _ => fence_fn _ f, hK _ _ _ (hm.2 hcb) ⟨ι, ro, ?_⟩⟩
        rw [h2]
        exact SatI.put hSI h3 (.any _)
    · exact hm.elim

end
end Cr
