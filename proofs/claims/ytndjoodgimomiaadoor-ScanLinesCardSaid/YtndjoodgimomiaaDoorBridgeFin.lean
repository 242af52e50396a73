/- The law ScanLines holds for every input, out of the contract that the walk proved. -/
import Derived.Test.YtndjoodgimomiaaDoorTie
import Derived.Test.YtndjoodgimomiaaDoorCards
import Derived.Test.YtndjoodgimomiaaDoorScan9
import Derived.ProofKit
import Derived.OpenShut
import Derived.LaidMore
import Derived.Lay
import Derived.SizedLaws
import Derived.SevenTiedAt
import Derived.Stop.Joined
namespace Go.Proofs.YtndjoodgimomiaaDoor
open Go.ChangeShapes Go.WideShapes Go.ChangeAt Go.RowKit

theorem own : ownKnob Tryd.prog.godebug = none := by kernel_rfl

/-- A contract that touches no object, as the kit's calls. -/
theorem calls_of_pcon {P : Program} {g : FuncId} {ps rs : List Cr.PV} {xs : List Value} {W : World} (h : Cr.PCon P g ps rs) (he : Cr.Enters P g)
    (hx : Cr.PReps (fun _ _ => False) W ps xs) : Calls P g xs.toArray W fun e w' => ∃ vs ro', e = .returned (Cr.retv vs) ∧ Below W.heap.size W w' ∧ Cr.PReps ro' w' rs vs := by
  have hH : Cr.Has ⟨W, fun _ _ => False, fun _ => none, Cr.lookO []⟩ (Cr.lookO []) W (fun _ => none) (fun _ _ => False) := by
    exact ⟨.refl _ _, fun n o h => (by cases h), fun n pl h => (by cases h), fun n m p q h => (by cases h), fun n p h => (by cases h), fun b o h => h.elim, fun b o h => h.elim, .refl _ _ _ _⟩
  rcases h W (fun _ => none) (fun _ _ => False) xs hH (Cr.repAll_pv hx) with ⟨_, h2⟩ | ⟨v, w', h1, _⟩
  · refine h2.mono ?_
    rintro e w' ⟨vs, ι', ro', he', hh, hr⟩
    exact ⟨vs, ro', he', hh.keeps.below (by rintro b ⟨n, pl, h, _⟩; cases h), Cr.pReps_of hr⟩
  · rw [Cr.run_callFunc he] at h1; cases h1

set_option maxRecDepth 100000 in
theorem lifted (os : Os) (started : os.Started) (H : Type) (enc : TypeId × Value → H) :
    ReturnsInHanded {} Tryd.checked os 3 .any (fun w args => (Rows.scanLinesSpec.pre enc Tryd.prog Tryd.f3 Rows.scanLinesRow.domain false w args ∧ laidMetH Tryd.prog Rows.scanLinesRow.laid w) ∧ sizedMet enc Tryd.prog Tryd.f3 (OpenSpec.ofChange Rows.scanLinesSpec) false w args)
      (Rows.scanLinesSpec.post enc Tryd.prog Tryd.f3 false true false false) := by
  refine returnsInHanded_of_change_and (C := Tryd.checked) (X := fun w _ => laidMetH Tryd.prog Rows.scanLinesRow.laid w) (fun _ _ _ hh h => h.of_heap hh) own started (by kernel_rfl) Tryd.func3
    (ChangeSpec.witness_shaped (enc := enc) (C := Tryd.checked) (os := os) (X := fun w _ => laidMetH Tryd.prog Rows.scanLinesRow.laid w) false (World.laidAll Tryd.prog os Rows.scanLinesRow.laid) #[.string ⟨#[]⟩] 8 (World.laidAll_os _ _ _)
      (World.shaped_of_ZipB (by kernel_rfl) (by kernel_rfl)) (by kernel_rfl) (by kernel_rfl) (by kernel_rfl)
      (by rw [MakeChecks.laidMetH_plain _ _ _ (by kernel_rfl)]; exact laidMet_laidAll _ (by kernel_rfl) (by kernel_rfl))) ?_
  intro W base args ds gs before hval0 hW hc hsz hL _
  have hval : ∀ (j : Nat) t v, Tryd.f3.params[j]? = some t → args[j]? = some v → Value.okWide Tryd.prog W .any base t v := hval0
  have hW' := hW
  obtain ⟨p, q, hA0, hV, rfl, _, _⟩ := hW
  have hA : DataW.TrodAll enc Tryd.prog W 0 (fun _ => true) true Tryd.f3.params.toList args.toList ds p := hA0
  rw [Tryd.params3] at hA hval
  obtain ⟨v0, d0, rfl, rfl, h0⟩ := trodAll_one hA
  obtain ⟨rfl, rfl⟩ := trodVars_none hV
  obtain ⟨s, rfl, rfl, rfl, hs⟩ := Go.ChangeMaps.open_string Tryd.underlying9 (hval 0 9 v0 rfl rfl) h0
  simp only [List.append_nil] at hW'
  have hlen : s.data.toList.length ≤ Cr.big := by
    have := sized_string hsz (j := 0) (t := 9) (bytes := s.data.toList) rfl rfl
    unfold Cr.big; unfold reachBytes at this; omega
  have hp := calls_of_pcon (W := W) (Cr.p_law02_ScanLines s.data.toList) ⟨Tryd.f3, Tryd.func3, by kernel_rfl, by kernel_rfl⟩ (xs := [.string s]) (by
    refine ⟨rfl, fun i p x hp hx => ?_⟩
    cases i with
    | zero =>
      simp at hp hx; subst hp hx
      have := Cr.PRep.str (ro := fun _ _ => False) (w := W) s.data.toList hlen
      rwa [Cr.str_eta] at this
    | succ i => simp at hp)
  refine hp.mono fun e W' ⟨vs, ro', he, hb, hr⟩ => ?_
  obtain ⟨v, rfl⟩ : ∃ v, vs = [v] := by
    match vs, hr.1 with
    | [v], _ => exact ⟨v, rfl⟩
  have hv := hr.2 0 _ v rfl rfl
  cases hv
  subst he
  exact ⟨_, rfl, _, _, _, [], [], [], hW', trodAll_mk1 (shut_bool Tryd.underlying4 _), trodAll_mk1 (Go.ChangeMaps.shut_string Tryd.underlying9 hs), rfl, hb.frame _, fun h => by cases h⟩

theorem holds : Rows.ScanLinesSaid :=
  OpenClaim.holds_of_wide 3 Tryd.f3 rfl rfl rfl rfl rfl rfl rfl ⟨rfl, rfl, rfl, rfl, rfl⟩ rfl rfl rfl rfl rfl (by kernel_rfl) Tryd.func3 (by kernel_rfl)
    (of_decide_eq_true (by kernel_rfl)) (by unfold Func.isWrapper; rw [if_neg (of_decide_eq_false (by kernel_rfl))]; exact ⟨rfl, rfl⟩)
    (fun os started H enc _ => lifted os started H enc)
theorem card_holds : Rows.ScanLinesCardSaid :=
  Claim7.holds_tied_plain_at .later [] [.data, .pinned] true (true, "1768bb50cdb52bb7760e754cfc43485c96c5a09987aeb4deb1896d91e38f66c5") false holds (fun _ h => by cases h) (by kernel_rfl) (fun _ h => by cases h) scanLines_row_tie rfl ⟨rfl, rfl⟩ (by kernel_rfl) rfl
    (fun f fn hf hfn => by
      obtain rfl : f = 3 := Option.some.inj ((show Tryd.prog.funcNamed "crupper/crupperlaw02.ScanLines" = some 3 by kernel_rfl).symm.trans hf) |>.symm
      obtain rfl : fn = Tryd.f3 := (Option.some.inj (Tryd.func3.symm.trans hfn)).symm
      exact ⟨by kernel_rfl, fun j t ht => by
        rw [Tryd.params3] at ht
        have hm : t ∈ [9] := by simpa using Array.mem_of_getElem? ht
        have hall : ([9].all fun u => !Tryd.prog.wantsStandIn u) = true := by kernel_rfl
        exact (show Tryd.prog.wantsStandIn t = false by simpa using List.all_eq_true.1 hall t hm)⟩)
    (by kernel_rfl)
end Go.Proofs.YtndjoodgimomiaaDoor
