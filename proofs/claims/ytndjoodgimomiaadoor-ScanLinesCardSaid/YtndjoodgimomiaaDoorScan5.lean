/- Part of the proof: Scan5. -/
import Derived.Test.YtndjoodgimomiaaDoorScan4
namespace Cr
open Go Go.RowKit

def lt (c : UInt8) (s : Str) : Str := s.dropWhile (· == c)
def rt (c : UInt8) : Str → Str
  | [] => []
  | x :: r => if rt c r = [] then (if x = c then [] else [x]) else x :: rt c r

theorem lt_cons (c x : UInt8) (r : Str) : lt c (x :: r) = if x = c then lt c r else x :: r := by
  by_cases h : x = c <;> simp [lt, h, List.dropWhile_cons]
theorem rt_snoc (c x : UInt8) : ∀ t : Str, rt c (t ++ [x]) = if x = c then rt c t else t ++ [x]
  | [] => by simp [rt]
  | y :: t => by
    simp only [List.cons_append, rt, rt_snoc c x t]
    by_cases h : x = c
    · simp [h]
    · simp [h]
theorem lt_rt (c : UInt8) : ∀ s : Str, lt c (rt c s) = rt c (lt c s)
  | [] => rfl
  | x :: r => by
    have ih := lt_rt c r
    rw [lt_cons]
    by_cases h : x = c
    · rw [if_pos h, ← ih, rt]
      by_cases h2 : rt c r = []
      · simp [h2, h, lt]
      · rw [if_neg h2, lt_cons, if_pos h]
    · rw [if_neg h, rt]
      by_cases h2 : rt c r = []
      · simp [h2, h, lt_cons]
      · simp [h2, h, lt_cons]

theorem p_strings_trimLeftByte (s : Str) (c : UInt8) : PCon SP n_strings_trimLeftByte [.str s, .int .u8 c.toNat] [.str (lt c s)] := by
  refine PCon.fn e_strings_trimLeftByte c_strings_trimLeftByte (by simp) fun X hX h0 hfit => ?_
  simp [m_strings_trimLeftByte]
  refine LoopG.ind (α := Str) (fun t => t.length) (fun t => lt c t = lt c s) (fun t => [(0, .pv (.str t)), (1, .pv (.int .u8 c.toNat))]) (fun _ => []) s (by simp [h0]) rfl (by simp) (by simp) (by simp) ?_
  intro t c' he ih
  cases t with
  | nil => simp [m_strings_trimLeftByteL1]; exact he.symm
  | cons x r =>
    have hpos : (0 : Int) < r.length + 1 := by omega
    have hle : (1 : Int) ≤ r.length + 1 := by omega
    simp [m_strings_trimLeftByteL1, hpos, hle]
    refine ⟨fun h => ?_, fun h => ?_⟩
    · have hxc : x = c := UInt8.toNat_inj.mp (by omega)
      exact ih r _ _ (by simp) (by rw [← he, lt_cons, if_pos hxc]) (by simp) (by simp) (by simp)
    · have hxc : x ≠ c := fun e => h (by rw [e])
      rw [← he, lt_cons, if_neg hxc]

theorem p_strings_trimRightByte (s : Str) (c : UInt8) : PCon SP n_strings_trimRightByte [.str s, .int .u8 c.toNat] [.str (rt c s)] := by
  refine PCon.fn e_strings_trimRightByte c_strings_trimRightByte (by simp) fun X hX h0 hfit => ?_
  have hlen := (hfit.1).str
  simp [m_strings_trimRightByte]
  refine LoopG.ind (α := Str) (fun t => t.length) (fun t => rt c t = rt c s ∧ t.length ≤ s.length) (fun t => [(0, .pv (.str t)), (1, .pv (.int .u8 c.toNat))]) (fun _ => []) s (by simp [h0]) ⟨rfl, Nat.le_refl _⟩ (by simp) (by simp) (by simp) ?_
  intro t c' ⟨he, hl⟩ ih
  rcases List.eq_nil_or_concat t with rfl | ⟨r, x, rfl⟩
  · simp [m_strings_trimRightByteL1]; exact he.symm
  · simp only [List.concat_eq_append] at he hl ih ⊢
    have hpos : (0 : Int) < r.length + 1 := by omega
    have hin : inR .i64 (r.length : Int) := by simp only [inR]; unfold big at hlen; simp at hl; omega
    simp [m_strings_trimRightByteL1, hpos, hin]
    refine ⟨fun h => ⟨by omega, ?_⟩, fun h => ?_⟩
    · have hxc : x = c := UInt8.toNat_inj.mp (by omega)
      exact ih r _ _ (by simp) ⟨by rw [← he, rt_snoc, if_pos hxc], by simp at hl; omega⟩ (by simp) (by simp) (by simp)
    · have hxc : x ≠ c := fun e => h (by rw [e])
      rw [← he, rt_snoc, if_neg hxc]

theorem p_strings_Trim1 (s : Str) (c : UInt8) (hc : c.toNat < 128) : PCon SP n_strings_Trim [.str s, .str [c]] [.str (lt c (rt c s))] := by
  refine PCon.fn e_strings_Trim c_strings_Trim (by simp) fun X hX h0 hfit => ?_
  unfold m_strings_Trim
  have hc' : (c.toNat : Int) < 128 := by omega
  by_cases h : s = []
  · subst h; simp [lt, rt]
  · simp [h, hc']
    refine callp_ok hX (p_strings_trimRightByte s c) (by simp) ?_
    simp
    refine callp_ok hX (p_strings_trimLeftByte (rt c s) c) (by simp) ?_
    simp

theorem p_scan_Trim (s : Str) : PCon SP n_scan_Trim [.str s] [.str (lt 32 (rt 32 (before s 35)))] := by
  refine PCon.fn e_scan_Trim c_scan_Trim (by simp) fun X hX h0 hfit => ?_
  simp [m_scan_Trim]
  refine call_ok hX (p_scan_bare s) (by simp) ?_
  simp
  refine call_ok hX (p_strings_Trim1 (before s 35) 32 (by decide)) (by simp) ?_
  simp

/-! ### The document's answer -/

theorem p_ref02_Bare (s : Str) : PCon SP n_ref02_Bare [.str s] [.str (before s 35)] := by
  refine PCon.fn e_ref02_Bare c_ref02_Bare (by simp) fun X hX h0 hfit => ?_
  have hlen := (hfit.1).str
  simp [m_ref02_Bare]
  refine LoopG.ind (fun i : Nat => s.length - i) (fun i => i ≤ s.length ∧ before s 35 = s.take i ++ before (s.drop i) 35) (fun i => [(0, .pv (.str s)), (3, .pv (.int .i64 i))]) (fun _ => []) 0 (by simp [h0]) (by simp) (by simp) (by simp) (by simp) ?_
  intro i c' ⟨hi, he⟩ ih
  rcases Nat.lt_or_ge i s.length with hlt | hge
  · obtain ⟨x, hx⟩ : ∃ x, s[i]? = some x := ⟨_, List.getElem?_eq_getElem hlt⟩
    have hin : inR .i64 ((i : Int) + 1) := by simp only [inR]; unfold big at hlen; omega
    rw [drop_get hx, before_cons] at he
    simp [m_ref02_BareL1, hlt, Nat.not_le.mpr hlt, hx, -getElem?_pos, hin]
    refine ⟨fun h => ⟨by omega, ?_⟩, fun h => ?_⟩
    · rw [if_pos (UInt8.toNat_inj.mp (by simp; omega))] at he
      rw [he, List.append_nil]
    · rw [if_neg (fun e => h (by rw [e]; rfl))] at he
      refine ih (i + 1) _ _ (by omega) ⟨hlt, ?_⟩ (by simp) (by simp) (by simp)
      rw [he, List.take_add_one, hx]; simp
  · simp [m_ref02_BareL1, Nat.not_lt.mpr hge, hge]
    rw [he, List.drop_eq_nil_iff.mpr hge, List.take_of_length_le hge]; simp [before]

theorem p_ref02_Trim (s : Str) : PCon SP n_ref02_Trim [.str s] [.str (lt 32 (rt 32 (before s 35)))] := by
  refine PCon.fn e_ref02_Trim c_ref02_Trim (by simp) fun X hX h0 hfit => ?_
  have hlen := (hfit.1).str
  simp [m_ref02_Trim]
  refine call_ok hX (p_ref02_Bare s) (by simp) ?_
  have hb : (before s 35).length ≤ big := Nat.le_trans (before_length s 35) hlen
  rw [lt_rt]
  generalize before s 35 = s at hb ⊢
  simp
  refine LoopG.ind (α := Str) (fun t => t.length) (fun t => lt 32 t = lt 32 s ∧ t.length ≤ s.length) (fun t => [(3, .pv (.str t))]) (fun _ => []) s (by simp [h0]) ⟨rfl, Nat.le_refl _⟩ (by simp) (by simp) (by simp) ?_
  intro t c' ⟨he, hl⟩ ih
  have next : ∀ u l os, lt 32 s = u → u.length ≤ s.length → look l 3 = .pv (.str u) → LoopG X m_ref02_TrimL2 [It.blk 2, It.code ((MCode.reg [{ dst := some 32, op := MOp.mv (Opd.t 3), guard := none }, { dst := some 2, op := MOp.mv (Opd.t 32), guard := none }]).seq MCode.ret)] (RetP [RK.tmp 2] [PV.str (rt 32 (lt 32 s))]) (mk l os) := by
    intro u l os hu hul hlk
    rw [hu]
    refine LoopG.ind (α := Str) (fun t => t.length) (fun t => rt 32 t = rt 32 u ∧ t.length ≤ u.length) (fun t => [(3, .pv (.str t))]) (fun _ => []) u (by simp [h0]) ⟨rfl, Nat.le_refl _⟩ (by simp) (by simp) (by simp [hlk]) ?_
    intro t c' ⟨he, hl⟩ ih
    rcases List.eq_nil_or_concat t with rfl | ⟨r, x, rfl⟩
    · simp [m_ref02_TrimL2]; exact he.symm
    · simp only [List.concat_eq_append] at he hl ih ⊢
      have hpos : (0 : Int) < r.length + 1 := by omega
      have hin : inR .i64 (r.length : Int) := by simp only [inR]; unfold big at hb; simp at hl; omega
      simp [m_ref02_TrimL2, hpos, hin]
      refine ⟨fun h => ⟨by omega, ?_⟩, fun h => ?_⟩
      · have hxc : x = 32 := UInt8.toNat_inj.mp (by simp; omega)
        exact ih r _ _ (by simp) ⟨by rw [← he, rt_snoc, if_pos hxc], by simp at hl; omega⟩ (by simp) (by simp) (by simp)
      · have hxc : x ≠ 32 := fun e => h (by rw [e]; rfl)
        rw [← he, rt_snoc, if_neg hxc]
  cases t with
  | nil =>
    simp [m_ref02_TrimL1]
    exact next _ _ _ he.symm (by simp [lt]) (by simp [lt])
  | cons x r =>
    have hpos : (0 : Int) < r.length + 1 := by omega
    have hle : (1 : Int) ≤ r.length + 1 := by omega
    simp [m_ref02_TrimL1, hpos, hle]
    refine ⟨fun h => ?_, fun h => ?_⟩
    · have hxc : x = 32 := UInt8.toNat_inj.mp (by simp; omega)
      exact ih r _ _ (by simp) ⟨by rw [← he, lt_cons, if_pos hxc], by simp at hl; omega⟩ (by simp) (by simp) (by simp)
    · have hxc : x ≠ 32 := fun e => h (by rw [e]; rfl)
      refine next (x :: r) _ _ (by rw [← he, lt_cons, if_neg hxc]) (by simpa using hl) (by simp)
end Cr
