/- Part of the proof: Scan7. -/
import Derived.Test.YtndjoodgimomiaaDoorScan6
import Derived.Laws.Externs
namespace Cr
open Go Go.RowKit

/-! strings.Builder -/
def bNew : List (Nat × Ob) := [(1000, .box y_strings_Builder [.pv (.lit (.pointer none)), .pv (.sl (some 0) [])])]
def bOf (a : Str) : List (Nat × Ob) := [(1000, .box y_strings_Builder [.ptr 1000 0, .rs 1001 a.length]), (1001, .row y_uint8 1 (bytesP a))]

theorem p_NoEscape (v : AV) (os : List (Nat × Ob)) : Con SP n_internal_abi_NoEscape [v] os [v] os :=
  Con.same e_internal_abi_NoEscape (by decide) rfl rfl rfl (fun x w => Lib.run_noEscape (P := SP) w x) v os

theorem p_copyCheck_new : Con SP n_strings_Builder_copyCheck [.ptr 1000 0] bNew [] [(1000, .box y_strings_Builder [.ptr 1000 0, .pv (.sl (some 0) [])])] := by
  refine Con.fn id e_strings_Builder_copyCheck c_strings_Builder_copyCheck (by simp) fun X Q hX h0 hfit hQ => ?_
  simp [m_strings_Builder_copyCheck, bNew]
  refine call_con _ _ _ _ _ (hX ▸ p_NoEscape (.ptr 1000 0) bNew) id (by simp [bNew]) (by simp [bNew]) (by simp [bNew]) (by simp [bNew]) (by simp [bNew]) ?_
  simp [bNew, AV.ren, Ob.ren]
  subst hQ; simp [bNew]

theorem p_copyCheck_used (a : Str) : Con SP n_strings_Builder_copyCheck [.ptr 1000 0] (bOf a) [] (bOf a) := by
  refine Con.fn id e_strings_Builder_copyCheck c_strings_Builder_copyCheck (by simp) fun X Q hX h0 hfit hQ => ?_
  simp [m_strings_Builder_copyCheck, bOf]
  subst hQ; simp [bOf]

theorem p_WriteString_new (s : Str) : Con SP n_strings_Builder_WriteString [.ptr 1000 0, .pv (.str s)] bNew [.pv (.int .i64 s.length), .pv (.lit .nilIface)] (bOf s) := by
  refine Con.fn (fun n => if n = 1001 then 14 else n) e_strings_Builder_WriteString c_strings_Builder_WriteString (by simp) fun X Q hX h0 hfit hQ => ?_
  have hl := hfit.2.1.str
  simp [m_strings_Builder_WriteString, bNew]
  refine call_con _ _ _ _ _ (hX ▸ p_copyCheck_new) id (by simp [bNew]) (by simp [bNew]) (by simp) (by simp [bNew]) (by simp [bNew]) ?_
  simp [AV.ren, Ob.ren, hl]
  subst hQ; simp [bNew, bOf]

theorem p_WriteString_used (a s : Str) (h : a.length + s.length ≤ big) : Con SP n_strings_Builder_WriteString [.ptr 1000 0, .pv (.str s)] (bOf a) [.pv (.int .i64 s.length), .pv (.lit .nilIface)] (bOf (a ++ s)) := by
  refine Con.fn id e_strings_Builder_WriteString c_strings_Builder_WriteString (by simp) fun X Q hX h0 hfit hQ => ?_
  simp [m_strings_Builder_WriteString, bOf]
  refine call_con _ _ _ _ _ (hX ▸ p_copyCheck_used a) id (by simp [bOf]) (by simp [bOf]) (by simp [bOf]) (by simp [bOf]) (by simp [bOf]) ?_
  simp [bOf, AV.ren, Ob.ren, h, bytesP_length']
  subst hQ; simp [bOf]

theorem p_Builder_String (a : Str) (h : 0 < a.length) : Con SP n_strings_Builder_String [.ptr 1000 0] (bOf a) [.pv (.str a)] (bOf a) := by
  refine Con.fn id e_strings_Builder_String c_strings_Builder_String (by simp) fun X Q hX h0 hfit hQ => ?_
  simp [m_strings_Builder_String, bOf, bytesP_length', h]
  subst hQ; simp [bOf]
end Cr
