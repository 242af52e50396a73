/- Part of the proof: Scan2. -/
import Derived.Test.YtndjoodgimomiaaDoorScan1
namespace Cr
open Go Go.RowKit

theorem p_names_IsPrin (s : Str) : PCon SP n_names_IsPrin [.str s] [.bool (isW isCap s)] := by
  refine PCon.fn e_names_IsPrin c_names_IsPrin (by simp) fun X hX h0 _ => ?_
  simp [m_names_IsPrin]
  refine call_ok hX (p_names_is s n_names_capital isCap p_names_capital) (by simp) ?_
  simp

theorem isW_A (b : UInt8) : isW isCap [65, b] = alnum b := by
  have h1 : alnum 65 = true := by decide
  have h2 : isCap ((65 : UInt8).toNat : Int) = true := by decide
  simp only [isW, List.headD_cons, h2, List.all_cons, h1, List.all_nil, List.length_cons, List.length_nil, Bool.true_and, Bool.and_true]
  rfl

def wordLen (s : Str) (i : Nat) : Nat := ((s.drop i).takeWhile alnum).length

theorem drop_get {α : Type} {s : List α} {i : Nat} {x : α} (h : s[i]? = some x) : s.drop i = x :: s.drop (i + 1) := by
  obtain ⟨hlt, hx⟩ := List.getElem?_eq_some_iff.1 h
  rw [List.drop_eq_getElem_cons hlt, hx]

theorem cut_one {s : Str} {i : Nat} {x : UInt8} (h : s[i]? = some x) : (s.take (i + 1)).drop i = [x] := by
  obtain ⟨hlt, hx⟩ := List.getElem?_eq_some_iff.1 h
  rw [List.take_add_one, h]
  simp only [Option.toList_some]
  rw [List.drop_append_of_le_length (by simp; omega)]
  rw [List.drop_eq_nil_iff.mpr (by simp; omega)]
  rfl

theorem p_scan_word (s : Str) (i : Nat) (hi : i ≤ s.length) : PCon SP n_scan_word [.str s, .int .i64 i] [.int .i64 (wordLen s i)] := by
  refine PCon.fn e_scan_word c_scan_word (by simp) fun X hX h0 hfit => ?_
  have hlen := (hfit.1).str
  simp [m_scan_word]
  refine LoopG.ind (fun n : Nat => s.length - (i + n)) (fun n => i + n ≤ s.length ∧ wordLen s i = n + wordLen s (i + n)) (fun n => [(0, .pv (.str s)), (1, .pv (.int .i64 i)), (5, .pv (.int .i64 n))]) (fun _ => []) 0 (by simp [h0]) ?_ (by simp) (by simp) (by simp) ?_
  · simp [hi]
  · intro n c' ⟨hn, he⟩ ih
    have hin : inR .i64 (↑i + ↑n) := by simp only [inR]; unfold big at hlen; omega
    have hin1 : inR .i64 (↑i + ↑n + 1) := by simp only [inR]; unfold big at hlen; omega
    have hin2 : inR .i64 (↑n + 1) := by simp only [inR]; unfold big at hlen; omega
    rcases Nat.lt_or_ge (i + n) s.length with hlt | hge
    · obtain ⟨x, hx⟩ : ∃ x, s[i + n]? = some x := ⟨_, List.getElem?_eq_getElem hlt⟩
      have h1 : ((i : Int) + n).toNat = i + n := by omega
      have h2 : ((i : Int) + n + 1).toNat = i + n + 1 := by omega
      have h3 := cut_one hx
      simp [m_scan_wordL1, hin, hin1, show (i : Int) + n < s.length by omega, show (i : Int) + n + 1 ≤ s.length by omega, show (0 : Int) ≤ i + n by omega, show (i : Int) + n ≤ i + n + 1 by omega, h1, h2]
      refine ⟨by unfold big; omega, ?_⟩
      rw [h3]
      refine call_ok hX (p_names_IsPrin [65, x]) (by simp) ?_
      rw [isW_A]
      have hw : wordLen s (i + n) = if alnum x then wordLen s (i + (n + 1)) + 1 else 0 := by
        unfold wordLen
        rw [drop_get hx, List.takeWhile_cons]
        split <;> simp [Nat.add_assoc]
      simp
      refine ⟨fun h => ⟨hin2, ?_⟩, fun h => ?_⟩
      · rw [h, if_pos rfl] at hw
        exact ih (n + 1) _ _ (by omega) ⟨by omega, by omega⟩ (by simp) (by simp) (by simp)
      · rw [h] at hw
        simp at hw
        omega
    · simp [m_scan_wordL1, hin, show ¬ (i : Int) + n < s.length by omega]
      have : wordLen s (i + n) = 0 := by unfold wordLen; rw [List.drop_eq_nil_iff.mpr hge]; rfl
      omega

/-! ### strings.HasPrefix -/

theorem p_stringslite_HasPrefix (s p : Str) : PCon SP n_internal_stringslite_HasPrefix [.str s, .str p] [.bool (s.take p.length == p)] := by
  refine PCon.fn e_internal_stringslite_HasPrefix c_internal_stringslite_HasPrefix (by simp) fun X hX h0 hfit => ?_
  simp [m_internal_stringslite_HasPrefix]
  intro h e
  have := congrArg List.length e
  simp at this
  omega

theorem p_strings_HasPrefix (s p : Str) : PCon SP n_strings_HasPrefix [.str s, .str p] [.bool (s.take p.length == p)] := by
  refine PCon.fn e_strings_HasPrefix c_strings_HasPrefix (by simp) fun X hX h0 hfit => ?_
  simp [m_strings_HasPrefix]
  refine call_ok hX (p_stringslite_HasPrefix s p) (by simp) ?_
  simp

structure Tok where
  kind : Nat
  text : Str
  col : Nat
  deriving DecidableEq

def encTok (t : Tok) : PV := .agg [.int .i64 t.kind, .str t.text, .int .i64 t.col]

def wordAt (s : Str) (i : Nat) : Str := (s.drop i).takeWhile alnum

def oneTok (s : Str) (i : Nat) (b : UInt8) : Tok :=
  if b.toNat = 46 then ⟨3, [b], i + 1⟩ else if b.toNat = 38 then ⟨5, [b], i + 1⟩
  else if (s.drop i).take 2 = [60, 45] then ⟨4, [60, 45], i + 1⟩
  else if isCap b.toNat then ⟨1, wordAt s i, i + 1⟩
  else if isSmall b.toNat then ⟨2, wordAt s i, i + 1⟩
  else ⟨0, [b], i + 1⟩

theorem word_cut (s : Str) (i : Nat) : (s.take (i + wordLen s i)).drop i = wordAt s i := by
  rw [List.drop_take, Nat.add_sub_cancel_left]
  exact (List.prefix_iff_eq_take.mp (List.takeWhile_prefix _)).symm

theorem wordLen_le (s : Str) (i : Nat) (h : i ≤ s.length) : i + wordLen s i ≤ s.length := by
  have := (List.takeWhile_prefix (l := s.drop i) alnum).length_le
  simp at this
  unfold wordLen; omega

theorem p_scan_one (s : Str) (i : Nat) (b : UInt8) (hb : s[i]? = some b) : PCon SP n_scan_one [.str s, .int .i64 i] [encTok (oneTok s i b)] := by
  refine PCon.fn e_scan_one c_scan_one (by simp) fun X hX h0 hfit => ?_
  have hlen := (hfit.1).str
  have hlt : i < s.length := (List.getElem?_eq_some_iff.1 hb).1
  have hin : inR .i64 (↑i + 1) := by simp only [inR]; unfold big at hlen; omega
  have h3 := cut_one hb
  have hw := wordLen_le s i (by omega)
  have hwi : inR .i64 ((i : Int) + wordLen s i) := by simp only [inR]; unfold big at hlen; omega
  have hcut := word_cut s i
  have htn : ((i : Int) + wordLen s i).toNat = i + wordLen s i := by omega
  simp [m_scan_one, hin, hb, show (i : Int) ≤ i + 1 by omega, show (i : Int) + 1 ≤ s.length by omega, show ((i : Int) + 1).toNat = i + 1 by omega, h3]
  refine ⟨fun h => ?_, fun h => ⟨fun h' => ?_, fun h' => ⟨by omega, ?_⟩⟩⟩
  · simp [oneTok, encTok, show b.toNat = 46 by omega]
  · simp [oneTok, encTok, show b.toNat = 38 by omega]
  · have n1 : ¬ b.toNat = 46 := by omega
    have n2 : ¬ b.toNat = 38 := by omega
    refine call_ok hX (p_strings_HasPrefix (s.drop i) [60, 45]) (by simp) ?_
    by_cases h4 : (s.drop i).take 2 = [60, 45]
    · simp [h4, oneTok, encTok, n1, n2]
    · have g1 : (0 : Int) ≤ (i : Int) + wordLen s i := by omega
      have g2 : (i : Int) + wordLen s i ≤ s.length := by omega
      have g3 : (i : Int) ≤ (i : Int) + wordLen s i := by omega
      rcases (by omega : (65 ≤ b.toNat ∧ b.toNat ≤ 90) ∨ (97 ≤ b.toNat ∧ b.toNat ≤ 122) ∨ b.toNat < 65 ∨ (90 < b.toNat ∧ b.toNat < 97) ∨ 122 < b.toNat) with ⟨h5, h6⟩ | ⟨h5, h6⟩ | h5 | ⟨h5, h6⟩ | h5
      · simp [h4, show (65 : Int) ≤ b.toNat by omega, show (b.toNat : Int) ≤ 90 by omega]
        refine call_ok hX (p_scan_word s i (by omega)) (by simp) ?_
        simp [hwi, htn, hcut, g2, g3, show max (0 : Int) 2 = 2 from rfl, oneTok, encTok, n1, n2, h4, isCap, show (65 : Int) ≤ b.toNat by omega, show (b.toNat : Int) ≤ 90 by omega]
      · simp [h4, show (65 : Int) ≤ b.toNat by omega, show ¬ (b.toNat : Int) ≤ 90 by omega, show (97 : Int) ≤ b.toNat by omega, show (b.toNat : Int) ≤ 122 by omega]
        refine call_ok hX (p_scan_word s i (by omega)) (by simp) ?_
        simp [hwi, htn, hcut, g2, g3, show max (0 : Int) 2 = 2 from rfl, oneTok, encTok, n1, n2, h4, isCap, isSmall, show ¬ (b.toNat : Int) ≤ 90 by omega, show (97 : Int) ≤ b.toNat by omega, show (b.toNat : Int) ≤ 122 by omega]
      · simp [h4, show ¬ (65 : Int) ≤ b.toNat by omega, show ¬ (97 : Int) ≤ b.toNat by omega, oneTok, encTok, n1, n2, isCap, isSmall]
      · simp [h4, show (65 : Int) ≤ b.toNat by omega, show ¬ (b.toNat : Int) ≤ 90 by omega, show ¬ (97 : Int) ≤ b.toNat by omega, oneTok, encTok, n1, n2, isCap, isSmall]
      · simp [h4, show (65 : Int) ≤ b.toNat by omega, show ¬ (b.toNat : Int) ≤ 90 by omega, show (97 : Int) ≤ b.toNat by omega, show ¬ (b.toNat : Int) ≤ 122 by omega, oneTok, encTok, n1, n2, isCap, isSmall]
end Cr
