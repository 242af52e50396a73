/- Part of the proof: Scan4. -/
import Derived.Test.YtndjoodgimomiaaDoorScan3
namespace Cr
open Go Go.RowKit

def tokRun (s : Str) : Nat → Nat → List Tok → List Tok × Nat × Nat
  | 0, _, ts => (ts, 0, 0)
  | n + 1, i, ts => match s[i]? with
    | none => (ts, 0, 0)
    | some b => if b.toNat = 32 then tokRun s n (i + 1) ts
      else if (oneTok s i b).kind = 0 then ([], (oneTok s i b).col, 1)
      else if 8 < (oneTok s i b).text.length then ([], (oneTok s i b).col, 4)
      else tokRun s n (i + (oneTok s i b).text.length) (ts ++ [oneTok s i b])

def tokensOf (line : Str) : List Tok × Nat × Nat :=
  if 200 < line.length then ([], 201, 4) else tokRun (before line 35) ((before line 35).length + 1) 0 []

theorem oneTok_text {s : Str} {i : Nat} {b : UInt8} (hb : s[i]? = some b) : 0 < (oneTok s i b).text.length ∧ i + (oneTok s i b).text.length ≤ s.length ∧ (oneTok s i b).col = i + 1 := by
  have hlt : i < s.length := (List.getElem?_eq_some_iff.1 hb).1
  have hw := wordLen_le s i (by omega)
  have hpos : alnum b = true → 0 < (wordAt s i).length := by
    intro h; unfold wordAt; rw [drop_get hb, List.takeWhile_cons, if_pos h]; simp
  have hwl : (wordAt s i).length = wordLen s i := rfl
  unfold oneTok
  split
  · simp; omega
  · split
    · simp; omega
    · split
      · rename_i h
        have := congrArg List.length h
        simp at this; simp; omega
      · split
        · rename_i h
          have := hpos (by simp [alnum, h])
          simp; omega
        · split
          · rename_i h
            have := hpos (by simp [alnum, h])
            simp; omega
          · simp; omega

theorem p_scan_Tokens (line : Str) : PCon SP n_scan_Tokens [.str line] [.sl none ((tokensOf line).1.map encTok), .int .i64 (tokensOf line).2.1, .int .i64 (tokensOf line).2.2] := by
  refine PCon.fn e_scan_Tokens c_scan_Tokens (by simp) fun X hX h0 hfit => ?_
  simp [m_scan_Tokens]
  refine ⟨fun h => ?_, fun h => ?_⟩
  · have : tokensOf line = ([], 201, 4) := by unfold tokensOf; rw [if_pos (by omega)]
    simp [this]
  · have hR : tokensOf line = tokRun (before line 35) ((before line 35).length + 1) 0 [] := by unfold tokensOf; rw [if_neg (by omega)]
    have hl2 : (before line 35).length ≤ 200 := by have := before_length line 35; omega
    refine call_ok hX (p_scan_bare line) (by simp) ?_
    rw [hR]
    generalize before line 35 = s at hl2 ⊢
    generalize hRR : tokRun s (s.length + 1) 0 [] = R
    simp
    refine LoopG.ghost 2 42 y_api_Token 3 (es := []) (by simp) (by simp) (by simp) ?_
    refine LoopG.ind (α := Nat × Nat × List Tok) (fun a => a.1) (fun a => s.length < a.2.1 + a.1 ∧ a.2.1 ≤ s.length ∧ a.2.2.length ≤ a.2.1 ∧ tokRun s a.1 a.2.1 a.2.2 = R)
      (fun a => [(2, .rs 42 a.2.2.length), (5, .pv (.str s)), (6, .pv (.int .i64 a.2.1))]) (fun a => [(42, .row y_api_Token 3 (a.2.2.map encTok))]) (s.length + 1, 0, []) (by simp [h0]) ⟨by simp, by simp, by simp, hRR⟩
      ?_ (by simp) ?_ ?_
    · simp
    · simp
    · rintro ⟨n, i, ts⟩ c' ⟨h1, h2, h3, h4⟩ ih
      simp only at h1 h2 h3 h4
      cases n with
      | zero => omega
      | succ n =>
        rcases Nat.lt_or_ge i s.length with hlt | hge
        · obtain ⟨b, hb⟩ : ∃ b, s[i]? = some b := ⟨_, List.getElem?_eq_getElem hlt⟩
          obtain ⟨t1, t2, t3⟩ := oneTok_text hb
          have hin : inR .i64 (↑i + 1) := by simp only [inR]; omega
          simp only [tokRun, hb] at h4
          simp [m_scan_TokensL1, hlt, Nat.not_le.mpr hlt, hb, -getElem?_pos, hin]
          refine ⟨fun h5 => ?_, fun h5 => ?_⟩
          · rw [if_pos (by omega)] at h4
            refine ih (n, i + 1, ts) _ _ (by simp) ⟨by simp; omega, by simp; omega, by simp; omega, h4⟩ (by simp) (by simp) (by simp)
          · rw [if_neg (by omega)] at h4
            refine call_ok hX (p_scan_one s i b hb) (by simp) ?_
            generalize oneTok s i b = t at t1 t2 t3 h4
            have hin2 : inR .i64 ((i : Int) + t.text.length) := by simp only [inR]; omega
            have hbig : (ts.length + 1) * 32 ≤ big := by unfold big; omega
            simp [encTok]
            refine ⟨fun h6 => ?_, fun h6 => ⟨fun h7 => ?_, fun h7 => ⟨hbig, hin2, ?_⟩⟩⟩
            · rw [if_pos h6] at h4; subst h4; simp
            · rw [if_neg h6, if_pos (by omega)] at h4; subst h4; simp
            · rw [if_neg h6, if_neg (by omega)] at h4
              exact ih (n, i + t.text.length, ts ++ [t]) _ _ (by simp) ⟨by simp; omega, by simp; omega, by simp; omega, h4⟩ (by simp [encTok]) (by simp) (by simp)
        · simp only [tokRun, List.getElem?_eq_none hge] at h4
          subst h4
          simp [m_scan_TokensL1, Nat.not_lt.mpr hge, hge]
          rw [List.take_of_length_le (by simp)]
end Cr
