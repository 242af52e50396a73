/- Part of the proof: Scan1. -/
import Derived.Test.YtndjoodgimomiaaDoorScanCode
namespace Cr
open Go Go.RowKit

noncomputable abbrev SP : Program := Go.Proofs.Tryd.prog

theorem p_names_between (c lo hi : Int) : PCon SP n_names_between [.int .u8 c, .int .u8 lo, .int .u8 hi] [.bool (decide (lo ≤ c ∧ c ≤ hi))] := by
  refine PCon.fn e_names_between c_names_between (by simp) fun X hX h0 _ => ?_
  simp [m_names_between]
  refine ⟨fun h _ => h, fun h k => by omega⟩

def isSmall (c : Int) : Bool := decide (97 ≤ c ∧ c ≤ 122)
def isCap (c : Int) : Bool := decide (65 ≤ c ∧ c ≤ 90)
def isDig (c : Int) : Bool := decide (48 ≤ c ∧ c ≤ 57)

theorem p_names_small (c : Int) : PCon SP n_names_small [.int .u8 c] [.bool (isSmall c)] := by
  refine PCon.fn e_names_small c_names_small (by simp) fun X hX h0 _ => ?_
  simp [m_names_small]
  refine call_ok hX (p_names_between c 97 122) (by simp) ?_
  simp [isSmall]
theorem p_names_capital (c : Int) : PCon SP n_names_capital [.int .u8 c] [.bool (isCap c)] := by
  refine PCon.fn e_names_capital c_names_capital (by simp) fun X hX h0 _ => ?_
  simp [m_names_capital]
  refine call_ok hX (p_names_between c 65 90) (by simp) ?_
  simp [isCap]
theorem p_names_digit (c : Int) : PCon SP n_names_digit [.int .u8 c] [.bool (isDig c)] := by
  refine PCon.fn e_names_digit c_names_digit (by simp) fun X hX h0 _ => ?_
  simp [m_names_digit]
  refine call_ok hX (p_names_between c 48 57) (by simp) ?_
  simp [isDig]

def alnum (b : UInt8) : Bool := isSmall b.toNat || isCap b.toNat || isDig b.toNat
def isW (first : Int → Bool) (s : Str) : Bool := decide (0 < s.length ∧ s.length ≤ 8) && first (s.headD 0).toNat && s.all alnum

theorem p_names_is (s : Str) (f : FuncId) (first : Int → Bool) (hf : ∀ c, PCon SP f [.int .u8 c] [.bool (first c)]) : PCon SP n_names_is [.str s, .fnv f] [.bool (isW first s)] := by
  refine PCon.fn e_names_is c_names_is (by simp) fun X hX h0 hfit => ?_
  have hlen := (hfit.1).str
  simp [m_names_is]
  refine ⟨fun h => by simp [isW, h], fun hne => ⟨fun h => by simp [isW]; omega, fun h => ?_⟩⟩
  obtain ⟨c, hc⟩ : ∃ c, s[0]? = some c := ⟨_, List.getElem?_eq_getElem (List.length_pos_iff.mpr hne)⟩
  have hhd : s.headD 0 = c := by cases s <;> simp_all
  have hpos : 0 < s.length := List.length_pos_iff.mpr hne
  have hW : isW first s = (first c.toNat && s.all alnum) := by
    simp only [isW, hhd, hpos, show s.length ≤ 8 by omega, and_self, decide_true, Bool.true_and]
  simp [hc]
  refine call_ok hX (hf c.toNat) (by simp) ?_
  simp
  refine ⟨fun h1 => by simp only [hW, h1, Bool.false_and], fun h1 => ?_⟩
  refine LoopG.ind (fun i : Nat => s.length - i) (fun i => i ≤ s.length ∧ isW first s = (s.drop i).all alnum) (fun i => [(0, .pv (.str s)), (23, .pv (.int .i64 s.length)), (24, .pv (.int .i64 i))]) (fun _ => []) 0 (by simp [h0]) ?_ (by simp) (by simp) (by simp) ?_
  · simp only [hW, h1, Bool.true_and, List.drop_zero, Nat.zero_le, and_self]
  · intro i c' ⟨hi, he⟩ ih
    rcases Nat.lt_or_ge i s.length with hlt | hge
    · obtain ⟨x, hx⟩ : ∃ x, s[i]? = some x := ⟨_, List.getElem?_eq_getElem hlt⟩
      have hd : s.drop i = x :: s.drop (i + 1) := by
        rw [List.drop_eq_getElem_cons hlt]; congr 1
        rw [List.getElem?_eq_getElem hlt] at hx; exact Option.some.inj hx
      have fin : ∀ b, alnum x = b → isW first s = (b && (s.drop (i + 1)).all alnum) := by
        intro b hb; rw [he, hd, List.all_cons, hb]
      simp [m_names_isL1, hlt, Nat.not_le.mpr hlt, hx, -getElem?_pos]
      have hin : inR .i64 (↑i + 1) := by simp only [inR]; unfold big at hlen; omega
      have next : alnum x = true → s.length - (i + 1) < s.length - i ∧ (i + 1 ≤ s.length ∧ isW first s = (s.drop (i + 1)).all alnum) := fun h => ⟨by omega, hlt, by rw [fin _ h]; rfl⟩
      refine call_ok hX (p_names_small x.toNat) (by simp) ?_
      simp
      refine ⟨fun h2 => ?_, fun h2 => ⟨hin, ?_⟩⟩
      · refine call_ok hX (p_names_capital x.toNat) (by simp) ?_
        simp
        refine ⟨fun h3 => ?_, fun h3 => ⟨hin, ?_⟩⟩
        · refine call_ok hX (p_names_digit x.toNat) (by simp) ?_
          simp
          refine ⟨fun h4 => ?_, fun h4 => ⟨hin, ?_⟩⟩
          · rw [fin false (by simp [alnum, h2, h3, h4])]; rfl
          · obtain ⟨k1, k2⟩ := next (by simp [alnum, h4])
            exact ih (i + 1) _ _ k1 k2 (by simp) (by simp) (by simp)
        · obtain ⟨k1, k2⟩ := next (by simp [alnum, h3])
          exact ih (i + 1) _ _ k1 k2 (by simp) (by simp) (by simp)
      · obtain ⟨k1, k2⟩ := next (by simp [alnum, h2])
        exact ih (i + 1) _ _ k1 k2 (by simp) (by simp) (by simp)
    · simp [m_names_isL1, Nat.not_lt.mpr hge, hge]
      rw [he, List.drop_eq_nil_iff.mpr hge]; rfl
end Cr
