/- Part of the proof: Scan9. -/
import Derived.Test.YtndjoodgimomiaaDoorScanL
namespace Cr
open Go Go.RowKit

theorem tokens_example : tokensOf [65, 46, 114, 32, 60, 45, 32, 66, 32, 35, 32, 120] = ([⟨1, [65], 1⟩, ⟨3, [46], 2⟩, ⟨2, [114], 3⟩, ⟨4, [60, 45], 5⟩, ⟨1, [66], 8⟩], 0, 0) := by decide

theorem p_law02_lives : PCon SP n_law02_lives [] [.bool true] := by
  refine PCon.fn e_law02_lives c_law02_lives (by simp) fun X hX h0 hfit => ?_
  generalize hQ : RetP [RK.tmp 0] [PV.bool true] = Q
  simp [m_law02_lives]
  refine call_ok hX (p_scan_Tokens _) (by simp; rfl) ?_
  rw [tokens_example]
  simp [encTok]
  have hp := p_scan_Print [⟨1, [65], 1⟩, ⟨3, [46], 2⟩, ⟨2, [114], 3⟩, ⟨4, [60, 45], 5⟩, ⟨1, [66], 8⟩] (by decide) (by decide)
  rw [show prTo [⟨1, [65], 1⟩, ⟨3, [46], 2⟩, ⟨2, [114], 3⟩, ⟨4, [60, 45], 5⟩, ⟨1, [66], 8⟩] ([⟨1, [65], 1⟩, ⟨3, [46], 2⟩, ⟨2, [114], 3⟩, ⟨4, [60, 45], 5⟩, ⟨1, [66], 8⟩] : List Tok).length = [65, 46, 114, 32, 60, 45, 32, 66] from by decide] at hp
  refine call_ok hX hp (by simp [encTok]) ?_
  simp
  subst hQ; simp

def joinL (ls : List Str) : Str := ls.flatMap (· ++ [10])
theorem joinL_go : ∀ (r cur : Str), joinL (linesGo cur r) = cur ++ r ∨ joinL (linesGo cur r) = cur ++ r ++ [10]
  | [], cur => by
    simp only [linesGo]
    split
    · rename_i h; subst h; exact .inl rfl
    · right; simp [joinL]
  | x :: r, cur => by
    simp only [linesGo]
    split
    · rename_i h; subst h
      rcases joinL_go r [] with h | h
      · left; simp only [joinL, List.flatMap_cons] at h ⊢; rw [h]; simp
      · right; simp only [joinL, List.flatMap_cons] at h ⊢; rw [h]; simp
    · rcases joinL_go r (cur ++ [x]) with h | h
      · left; rw [h]; simp
      · right; rw [h]; simp
theorem joinL_take {ls : List Str} (i : Nat) : (joinL (ls.take i)).length ≤ (joinL ls).length := by
  have : joinL ls = joinL (ls.take i) ++ joinL (ls.drop i) := by
    simp only [joinL]; rw [← List.flatMap_append, List.take_append_drop]
  rw [this]; simp
theorem joinL_succ {ls : List Str} {i : Nat} {x : Str} (h : ls[i]? = some x) : joinL (ls.take (i + 1)) = joinL (ls.take i) ++ (x ++ [10]) := by
  rw [List.take_add_one, h]; simp [joinL]

theorem joinL_len (ls : List Str) : ls.length ≤ (joinL ls).length := by
  induction ls with
  | nil => simp
  | cons x r ih => simp only [joinL, List.flatMap_cons, List.length_append, List.length_cons, List.length_nil] at ih ⊢; omega

theorem p_law02_ScanLines (s : Str) : PCon SP n_law02_ScanLines [.str s] [.bool true] := by
  refine PCon.fn e_law02_ScanLines c_law02_ScanLines (by simp) fun X hX h0 hfit => ?_
  have hlen := (hfit.1).str
  generalize hQ : RetP [RK.tmp 2] [PV.bool true] = Q
  generalize ht : s.take (min s.length 1000) = t
  have htl : t.length ≤ 1000 := by rw [← ht]; simp; omega
  have hmin : (min (s.length : Int) 1000).toNat = min s.length 1000 := by omega
  simp [m_law02_ScanLines, hmin]
  refine ⟨by omega, by omega, ?_⟩
  rw [ht]
  refine call_ok hX (p_scan_Lines t htl) (by simp) ?_
  simp
  refine call_ok hX (p_ref02_Lines t htl) (by simp) ?_
  simp
  refine call_ok hX (p_ref01_Same (linesOf t) (linesOf t)) (by simp) ?_
  simp
  have hj : joinL (linesOf t) = t ∨ joinL (linesOf t) = t ++ [10] := by simpa [linesOf] using joinL_go t []
  have hjl : (joinL (linesOf t)).length ≤ 1001 := by
    rcases hj with h | h
    · rw [h]; omega
    · rw [h]; simp; omega
  have hll := joinL_len (linesOf t)
  generalize linesOf t = ls at hj hjl hll ⊢
  refine LoopG.ind (fun i : Nat => ls.length - i) (fun i => i ≤ ls.length) (fun i => [(0, .pv (.str t)), (4, .pv (.str (joinL (ls.take i)))), (19, .pv (.sl none (ls.map .str))), (20, .pv (.int .i64 ls.length)), (21, .pv (.int .i64 i))])
    (fun _ => []) 0 (by simp [h0]) (Nat.zero_le _) (by simp) (by simp) (by simp [joinL]) ?_
  intro i c' hi ih
  rcases Nat.lt_or_ge i ls.length with hlt | hge
  · obtain ⟨x, hx⟩ : ∃ x, ls[i]? = some x := ⟨_, List.getElem?_eq_getElem hlt⟩
    simp [m_law02_ScanLinesL1, hlt, hx, -getElem?_pos]
    refine call_ok hX (p_scan_Trim x) (by simp) ?_
    simp
    refine call_ok hX (p_ref02_Trim x) (by simp) ?_
    have h1 := joinL_take (ls := ls) (i + 1)
    have h2 := joinL_succ hx
    have h3 : (joinL (ls.take i)).length + (x.length + 1) ≤ 1001 := by
      rw [h2] at h1; simp only [List.length_append, List.length_cons, List.length_nil] at h1; omega
    have hb : x.length + 1 ≤ big := by unfold big; omega
    have hb2 : (joinL (ls.take i)).length + (x.length + 1) ≤ big := by unfold big; omega
    have hin : inR .i64 ((i : Int) + 1) := by simp only [inR]; omega
    simp [hb, hb2, hin]
    exact ih (i + 1) _ _ (by omega) (by omega) (by simp) (by simp) (by simp [h2])
  · have : i = ls.length := by omega
    subst this
    have hb : t.length + 1 ≤ big := by unfold big; omega
    simp [m_law02_ScanLinesL1, hb]
    by_cases h1 : joinL ls = t
    · simp [h1]
      refine call_ok hX p_law02_lives (by simp) ?_
      simp
      subst hQ; simp
    · have h2 : joinL ls = t ++ [10] := hj.resolve_left h1
      simp [h1, h2]
      refine call_ok hX p_law02_lives (by simp) ?_
      simp
      subst hQ; simp
end Cr
