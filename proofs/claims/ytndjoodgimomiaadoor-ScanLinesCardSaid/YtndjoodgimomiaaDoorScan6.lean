/- Part of the proof: Scan6. -/
import Derived.Test.YtndjoodgimomiaaDoorScan5
namespace Cr
open Go Go.RowKit

theorem p_ref01_Same (a b : List Str) : PCon SP n_ref01_Same [.sl none (a.map .str), .sl none (b.map .str)] [.bool (decide (a = b))] := by
  refine PCon.fn e_ref01_Same c_ref01_Same (by simp) fun X hX h0 hfit => ?_
  have hlen := (hfit.1).sl
  simp at hlen
  simp [m_ref01_Same]
  refine ⟨fun h e => h (by rw [e]), fun h => ?_⟩
  have hab : a.length = b.length := by omega
  refine LoopG.ind (fun i : Nat => a.length - i) (fun i => i ≤ a.length ∧ a.take i = b.take i) (fun i => [(0, .pv (.sl none (a.map .str))), (1, .pv (.sl none (b.map .str))), (12, .pv (.int .i64 a.length)), (13, .pv (.int .i64 i))]) (fun _ => []) 0 (by simp [h0]) (by simp) (by simp) (by simp) (by simp) ?_
  intro i c' ⟨hi, he⟩ ih
  rcases Nat.lt_or_ge i a.length with hlt | hge
  · obtain ⟨x, hx⟩ : ∃ x, a[i]? = some x := ⟨_, List.getElem?_eq_getElem hlt⟩
    obtain ⟨y, hy⟩ : ∃ y, b[i]? = some y := ⟨_, List.getElem?_eq_getElem (hab ▸ hlt)⟩
    have hin : inR .i64 ((i : Int) + 1) := by simp only [inR]; unfold big at hlen; omega
    simp [m_ref01_SameL1, hlt, Nat.not_le.mpr hlt, hx, hy, -getElem?_pos, List.getElem?_cons_zero, hin]
    refine ⟨fun hne e => ?_, fun h => ?_⟩
    · rw [e, hy] at hx; exact hne (Option.some.inj hx).symm
    · refine ih (i + 1) _ _ (by omega) ⟨hlt, ?_⟩ (by simp) (by simp) (by simp)
      rw [List.take_add_one, List.take_add_one, he, hx, hy, h]
  · simp [m_ref01_SameL1, Nat.not_lt.mpr hge, hge]
    rw [← List.take_of_length_le (i := i) (l := a) hge, ← List.take_of_length_le (i := i) (l := b) (hab ▸ hge), he]

def linesGo : Str → Str → List Str
  | cur, [] => if cur = [] then [] else [cur]
  | cur, x :: r => if x = 10 then cur :: linesGo [] r else linesGo (cur ++ [x]) r
def linesOf (s : Str) : List Str := linesGo [] s

theorem p_ref02_Lines (s : Str) (hs : s.length ≤ 1000) : PCon SP n_ref02_Lines [.str s] [.sl none ((linesOf s).map .str)] := by
  refine PCon.fn e_ref02_Lines c_ref02_Lines (by simp) fun X hX h0 hfit => ?_
  simp [m_ref02_Lines]
  refine LoopG.ghost 3 22 y_string 1 (es := []) (by simp) (by simp) (by simp) ?_
  refine LoopG.ind (α := Nat × Nat × List Str) (fun a => s.length - a.1) (fun a => a.1 ≤ s.length ∧ a.2.1 ≤ a.1 ∧ a.2.2.length ≤ a.1 ∧ a.2.2 ++ linesGo ((s.take a.1).drop a.2.1) (s.drop a.1) = linesOf s)
    (fun a => [(0, .pv (.str s)), (3, .rs 22 a.2.2.length), (4, .pv (.int .i64 a.2.1)), (5, .pv (.int .i64 a.1))]) (fun a => [(22, .row y_string 1 (a.2.2.map .str))]) (0, 0, []) (by simp [h0]) ⟨by simp, by simp, by simp, by simp [linesOf]⟩
      (by simp) (by simp) (by simp) ?_
  rintro ⟨i, f, out⟩ c' ⟨h1, h2, h3, h4⟩ ih
  simp only at h1 h2 h3 h4
  rcases Nat.lt_or_ge i s.length with hlt | hge
  · obtain ⟨x, hx⟩ : ∃ x, s[i]? = some x := ⟨_, List.getElem?_eq_getElem hlt⟩
    have hin : inR .i64 ((i : Int) + 1) := by simp only [inR]; omega
    have hbig : (out.length + 1) * 16 ≤ big := by unfold big; omega
    rw [drop_get hx] at h4
    simp only [linesGo] at h4
    simp [m_ref02_LinesL1, hlt, Nat.not_le.mpr hlt, hx, -getElem?_pos, hin, hbig, h2, show i ≤ s.length by omega]
    refine ⟨fun h => ?_, fun h => ?_⟩
    · rw [if_pos (UInt8.toNat_inj.mp (by simp; omega))] at h4
      refine ih (i + 1, i + 1, out ++ [(s.take i).drop f]) _ _ (by simp; omega) ⟨hlt, Nat.le_refl _, by simp; omega, ?_⟩ (by simp) (by simp) (by simp)
      simp only [List.append_assoc, List.singleton_append]
      rw [← h4]
      have : (s.take (i + 1)).drop (i + 1) = [] := by rw [List.drop_eq_nil_iff]; simp; omega
      rw [this]
    · rw [if_neg (fun e => h (by rw [e]; rfl))] at h4
      refine ih (i + 1, f, out) _ _ (by simp; omega) ⟨hlt, by simp; omega, by simp; omega, ?_⟩ (by simp) (by simp) (by simp)
      simp only
      rw [← h4, List.take_add_one, hx]
      simp only [Option.toList_some]
      rw [List.drop_append_of_le_length (by simp; omega)]
  · have he : i = s.length := by omega
    subst he
    simp only [List.take_length, List.drop_length, linesGo] at h4
    have hbig : (out.length + 1) * 16 ≤ big := by unfold big; omega
    simp [m_ref02_LinesL1, hbig, h2]
    refine ⟨fun h => ?_, fun h => ?_⟩
    · rw [if_neg (by rw [List.drop_eq_nil_iff]; omega)] at h4
      rw [← h4]; simp [List.take_of_length_le]
    · rw [if_pos (by rw [List.drop_eq_nil_iff]; omega)] at h4
      rw [← h4]; simp [List.take_of_length_le]

/-! ### Suffixes -/

def hasSuf (s p : Str) : Bool := decide (p.length ≤ s.length) && (s.drop (s.length - p.length) == p)

theorem p_stringslite_HasSuffix (s p : Str) : PCon SP n_internal_stringslite_HasSuffix [.str s, .str p] [.bool (hasSuf s p)] := by
  refine PCon.fn e_internal_stringslite_HasSuffix c_internal_stringslite_HasSuffix (by simp) fun X hX h0 hfit => ?_
  have hlen := (hfit.1).str
  rcases Nat.lt_or_ge s.length p.length with h | h
  · simp [m_internal_stringslite_HasSuffix, hasSuf, h, Nat.not_le.mpr h]
  · have hin : inR .i64 ((s.length : Int) - p.length) := by simp only [inR]; unfold big at hlen; omega
    have e1 : ((s.length : Int) - p.length).toNat = s.length - p.length := by omega
    simp [m_internal_stringslite_HasSuffix, hasSuf, h, hin, e1, show (0 : Int) ≤ s.length - p.length by omega, show (s.length : Int) - p.length ≤ s.length by omega]

theorem p_stringslite_CutSuffix (s p : Str) : PCon SP n_internal_stringslite_CutSuffix [.str s, .str p] [.str (if hasSuf s p then s.take (s.length - p.length) else s), .bool (hasSuf s p)] := by
  refine PCon.fn e_internal_stringslite_CutSuffix c_internal_stringslite_CutSuffix (by simp) fun X hX h0 hfit => ?_
  have hlen := (hfit.1).str
  simp [m_internal_stringslite_CutSuffix]
  refine call_ok hX (p_stringslite_HasSuffix s p) (by simp) ?_
  by_cases hs : hasSuf s p = true
  · have h : p.length ≤ s.length := by simp [hasSuf] at hs; exact hs.1
    have hin : inR .i64 ((s.length : Int) - p.length) := by simp only [inR]; unfold big at hlen; omega
    have e1 : ((s.length : Int) - p.length).toNat = s.length - p.length := by omega
    simp [hs, h, hin, e1, show (0 : Int) ≤ s.length - p.length by omega, show (s.length : Int) - p.length ≤ s.length by omega]
  · simp [hs]

theorem p_strings_CutSuffix (s p : Str) : PCon SP n_strings_CutSuffix [.str s, .str p] [.str (if hasSuf s p then s.take (s.length - p.length) else s), .bool (hasSuf s p)] := by
  refine PCon.fn e_strings_CutSuffix c_strings_CutSuffix (by simp) fun X hX h0 hfit => ?_
  simp [m_strings_CutSuffix]
  refine call_ok hX (p_stringslite_CutSuffix s p) (by simp) ?_
  simp
end Cr
