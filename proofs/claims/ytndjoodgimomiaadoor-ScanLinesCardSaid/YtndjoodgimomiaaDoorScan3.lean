/- Part of the proof: Scan3. -/
import Derived.Test.YtndjoodgimomiaaDoorScan2
import Derived.Lib.Bytealg
namespace Cr
open Go Go.RowKit

theorem p_bytealg_IndexByteString (s : Str) (c : UInt8) : PCon SP n_internal_bytealg_IndexByteString [.str s, .int .u8 c.toNat] [.int .i64 (Lib.indexByte s c)] := by
  refine PCon.extern e_internal_bytealg_IndexByteString (by kernel_rfl) (by kernel_rfl) (by kernel_rfl) (e := Extern.BytealgIndexByte.indexByte) (by kernel_rfl) ?_
  intro ro w xs h
  obtain ⟨x, y, rfl⟩ : ∃ x y, xs = [x, y] := by
    match xs, h.1 with
    | [x, y], _ => exact ⟨x, y, rfl⟩
  have hx := h.2 0 _ x rfl rfl
  have hy := h.2 1 _ y rfl rfl
  cases hx; cases hy
  refine ⟨[.int .i64 (Lib.indexByte s c)], ?_, rfl, ?_⟩
  · have := Lib.run_indexByteString (P := SP) ⟨s.toArray⟩ c.toNat w
    simp at this
    exact this
  · intro i p x hp hx
    cases i with
    | zero => simp at hp hx; subst hp hx; exact .int _ _
    | succ i => simp at hp

theorem p_stringslite_IndexByte (s : Str) (c : UInt8) : PCon SP n_internal_stringslite_IndexByte [.str s, .int .u8 c.toNat] [.int .i64 (Lib.indexByte s c)] := by
  refine PCon.fn e_internal_stringslite_IndexByte c_internal_stringslite_IndexByte (by simp) fun X hX h0 _ => ?_
  simp [m_internal_stringslite_IndexByte]
  refine call_ok hX (p_bytealg_IndexByteString s c) (by simp) ?_
  simp

theorem p_strings_IndexByte (s : Str) (c : UInt8) : PCon SP n_strings_IndexByte [.str s, .int .u8 c.toNat] [.int .i64 (Lib.indexByte s c)] := by
  refine PCon.fn e_strings_IndexByte c_strings_IndexByte (by simp) fun X hX h0 _ => ?_
  simp [m_strings_IndexByte]
  refine call_ok hX (p_stringslite_IndexByte s c) (by simp) ?_
  simp

theorem p_stringslite_Index1 (s : Str) (c : UInt8) : PCon SP n_internal_stringslite_Index [.str s, .str [c]] [.int .i64 (Lib.indexByte s c)] := by
  refine PCon.fn e_internal_stringslite_Index c_internal_stringslite_Index (by simp) fun X hX h0 _ => ?_
  simp [m_internal_stringslite_Index]
  refine ⟨fun h => ?_, fun _ => ?_⟩
  · subst h; simp [Lib.indexByte]
  · refine call_ok hX (p_stringslite_IndexByte s c) (by simp) ?_
    simp

def before (s : Str) (c : UInt8) : Str := s.takeWhile (· != c)
def behind (s : Str) (c : UInt8) : Str := (s.dropWhile (· != c)).drop 1

theorem indexByte_eq (s : Str) (c : UInt8) : Lib.indexByte s c = if c ∈ s then ((before s c).length : Int) else -1 := by
  induction s with
  | nil => rfl
  | cons x r ih =>
    by_cases h : x = c
    · subst h; simp [Lib.indexByte, before]
    · have h2 : c ≠ x := fun e => h e.symm
      simp only [Lib.indexByte, before, List.mem_cons, h2, false_or, List.takeWhile_cons, bne_iff_ne, ne_eq, h, not_false_eq_true, if_true, List.length_cons]
      have hb : (x == c) = false := by simpa using h
      simp only [hb]
      rw [ih]
      by_cases hc : c ∈ r
      · simp [hc, before, h]
        try omega
      · simp [hc]

theorem take_before (s : Str) (c : UInt8) : s.take (before s c).length = before s c := (List.prefix_iff_eq_take.mp (List.takeWhile_prefix _)).symm
theorem before_length (s : Str) (c : UInt8) : (before s c).length ≤ s.length := (List.takeWhile_prefix _).length_le
theorem before_cons (x : UInt8) (r : Str) (c : UInt8) : before (x :: r) c = if x = c then [] else x :: before r c := by
  by_cases h : x = c <;> simp [before, h]
theorem behind_cons (x : UInt8) (r : Str) (c : UInt8) : behind (x :: r) c = if x = c then r else behind r c := by
  by_cases h : x = c <;> simp [behind, h, List.dropWhile_cons]
theorem before_none {s : Str} {c : UInt8} (h : c ∉ s) : before s c = s := by
  induction s with
  | nil => rfl
  | cons x r ih =>
    simp only [List.mem_cons, not_or] at h
    rw [before_cons, if_neg (fun e => h.1 e.symm), ih h.2]
theorem behind_none {s : Str} {c : UInt8} (h : c ∉ s) : behind s c = [] := by
  induction s with
  | nil => rfl
  | cons x r ih =>
    simp only [List.mem_cons, not_or] at h
    rw [behind_cons, if_neg (fun e => h.1 e.symm), ih h.2]
theorem drop_behind {s : Str} {c : UInt8} : s.drop ((before s c).length + 1) = behind s c := by
  induction s with
  | nil => rfl
  | cons x r ih =>
    rw [before_cons, behind_cons]
    split
    · rfl
    · rw [← ih]; rfl
theorem before_lt {s : Str} {c : UInt8} (h : c ∈ s) : (before s c).length < s.length := by
  induction s with
  | nil => cases h
  | cons x r ih =>
    rw [before_cons]
    split
    · simp
    · rename_i hne
      have := ih (by rcases List.mem_cons.mp h with e | e; exact absurd e.symm hne; exact e)
      simp; exact this

theorem p_stringslite_Cut1 (s : Str) (c : UInt8) : PCon SP n_internal_stringslite_Cut [.str s, .str [c]] [.str (before s c), .str (behind s c), .bool (decide (c ∈ s))] := by
  refine PCon.fn e_internal_stringslite_Cut c_internal_stringslite_Cut (by simp) fun X hX h0 hfit => ?_
  have hlen := (hfit.1).str
  simp [m_internal_stringslite_Cut]
  refine call_ok hX (p_stringslite_Index1 s c) (by simp) ?_
  rw [indexByte_eq]
  by_cases h : c ∈ s
  · have hb := before_lt h
    have hin : inR .i64 ((before s c).length + 1) := by simp only [inR]; unfold big at hlen; omega
    have e1 : (((before s c).length : Int) + 1).toNat = (before s c).length + 1 := by omega
    simp [h, hin, e1, take_before, drop_behind, show (before s c).length ≤ s.length by omega, show ((before s c).length : Int) + 1 ≤ s.length by omega, show (0 : Int) ≤ (before s c).length + 1 by omega]
  · simp [h, before_none h, behind_none h]

theorem p_strings_Cut1 (s : Str) (c : UInt8) : PCon SP n_strings_Cut [.str s, .str [c]] [.str (before s c), .str (behind s c), .bool (decide (c ∈ s))] := by
  refine PCon.fn e_strings_Cut c_strings_Cut (by simp) fun X hX h0 hfit => ?_
  simp [m_strings_Cut]
  refine call_ok hX (p_stringslite_Cut1 s c) (by simp) ?_
  simp

theorem p_scan_bare (s : Str) : PCon SP n_scan_bare [.str s] [.str (before s 35)] := by
  refine PCon.fn e_scan_bare c_scan_bare (by simp) fun X hX h0 hfit => ?_
  simp [m_scan_bare]
  refine call_ok hX (p_strings_Cut1 s 35) (by simp) ?_
  simp
end Cr
