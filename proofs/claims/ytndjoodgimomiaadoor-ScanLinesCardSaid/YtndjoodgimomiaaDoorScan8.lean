/- Part of the proof: Scan8. -/
import Derived.Test.YtndjoodgimomiaaDoorScan7
namespace Cr
open Go Go.RowKit

def sepAt (ts : List Tok) : Nat → Str
  | 0 => []
  | j + 1 => match ts[j]?, ts[j + 1]? with
    | some p, some t => if t.kind ≠ 3 ∧ p.kind ≠ 3 then [32] else []
    | _, _ => []
def prTo (ts : List Tok) : Nat → Str
  | 0 => []
  | i + 1 => match ts[i]? with
    | none => prTo ts i
    | some t => prTo ts i ++ sepAt ts i ++ t.text

theorem prTo_le (ts : List Tok) (i : Nat) : (prTo ts i).length ≤ (prTo ts (i + 1)).length := by
  simp only [prTo]; split <;> simp
theorem prTo_mono (ts : List Tok) {i j : Nat} (h : i ≤ j) : (prTo ts i).length ≤ (prTo ts j).length := by
  induction h with
  | refl => exact Nat.le_refl _
  | step _ ih => exact Nat.le_trans ih (prTo_le ts _)

theorem p_scan_Print (ts : List Tok) (hbig : (prTo ts ts.length).length ≤ big) (hpos : 0 < (prTo ts ts.length).length) : PCon SP n_scan_Print [.sl none (ts.map encTok)] [.str (prTo ts ts.length)] := by
  refine PCon.fn e_scan_Print c_scan_Print (by simp) fun X hX h0 hfit => ?_
  have hlen := (hfit.1).sl
  simp at hlen
  generalize hQ : RetP [RK.tmp 2] [PV.str (prTo ts ts.length)] = Q
  simp [m_scan_Print]
  refine LoopG.ind (fun i : Nat => ts.length - i) (fun i => i ≤ ts.length) (fun i => [(0, .pv (.sl none (ts.map encTok))), (3, .ptr 3 0), (6, .pv (.sl none (ts.map encTok))), (7, .pv (.int .i64 ts.length)), (8, .pv (.int .i64 i))])
    (fun i => match i with
      | 0 => [(3, .box y_strings_Builder [.pv (.lit (.pointer none)), .pv (.sl (some 0) [])])]
      | i + 1 => [(3, .box y_strings_Builder [.ptr 3 0, .rs 1001 (prTo ts (i + 1)).length]), (1001, .row y_uint8 1 (bytesP (prTo ts (i + 1))))]) 0 (by simp [h0]) (Nat.zero_le _) (by simp) (by simp) (by simp) ?_
  intro i c' hi ih
  rcases Nat.lt_or_ge i ts.length with hlt | hge
  · obtain ⟨t, ht⟩ : ∃ t, ts[i]? = some t := ⟨_, List.getElem?_eq_getElem hlt⟩
    have hb1 : (prTo ts (i + 1)).length ≤ big := Nat.le_trans (prTo_mono ts (by omega)) hbig
    have hin : inR .i64 (↑i + 1) := by simp only [inR]; unfold big at hlen; omega
    have hin' : inR .i64 (↑i : Int) := by simp only [inR]; unfold big at hlen; omega
    cases i with
    | zero =>
      have e1 : prTo ts 1 = t.text := by simp [prTo, sepAt, ht]
      simp [m_scan_PrintL1, hlt, ht, encTok, -getElem?_pos]
      refine call_con _ _ _ _ _ (hX ▸ p_WriteString_new t.text) (fun n => if n = 1000 then 3 else 1001) (by simp [bNew]) (by simp [bNew]) (by simp [bOf]) (by simp [bNew, bOf]) (by simp [bNew]) ?_
      simp [bOf, AV.ren, Ob.ren, show inR .i64 1 by simp [inR]]
      exact ih 1 _ _ (by omega) (by omega) (by simp [e1]) (by simp) (by simp [e1])
    | succ j =>
      obtain ⟨p, hp⟩ : ∃ p, ts[j]? = some p := ⟨_, List.getElem?_eq_getElem (by omega)⟩
      have hlt' : (j : Int) + 1 < ts.length := by omega
      have hin2 : inR .i64 ((j : Int) + 1 - 1) := by simp only [inR] at hin' ⊢; omega
      have e0 : prTo ts (j + 1 + 1) = prTo ts (j + 1) ++ sepAt ts (j + 1) ++ t.text := by rw [prTo]; simp [ht]
      have es : sepAt ts (j + 1) = if t.kind ≠ 3 ∧ p.kind ≠ 3 then [32] else [] := by simp [sepAt, hp, ht]
      have last : ∀ (l : List (Nat × AV)) (os : List (Nat × Ob)) (a : Str), look l 3 = .ptr 3 0 → look l 0 = .pv (.sl none (ts.map encTok)) → look l 6 = .pv (.sl none (ts.map encTok)) → look l 7 = .pv (.int .i64 ts.length) → look l 8 = .pv (.int .i64 ((j : Int) + 1)) →
          lookO os 3 = some (.box y_strings_Builder [.ptr 3 0, .rs 1001 a.length]) → lookO os 1001 = some (.row y_uint8 1 (bytesP a)) → a ++ t.text = prTo ts (j + 1 + 1) →
          CallG X 32 n_strings_Builder_WriteString [.ptr 3 0, .pv (.str t.text)] [.code (.reg []), .blk 1,
            .code (.reg [⟨some 33, .bin .add [] (.t 8) (.c (.int .i64 1)), none⟩, ⟨some 8, .mv (.t 33), none⟩]), .again c', .blk 0, .code (MCode.seq (.reg [⟨some 34, .call false (.c (.fnv n_strings_Builder_String)) [(.t 3)], none⟩, ⟨some 2, .mv (.t 34), none⟩]) .ret)] Q l os := by
        intro l os a k3 k0 k6 k7 k8 o3 o1 ha
        have hab : a.length + t.text.length ≤ big := by rw [← List.length_append, ha]; exact hb1
        refine call_con _ _ _ _ _ (hX ▸ p_WriteString_used a t.text hab) (fun n => if n = 1000 then 3 else 1001) (by simp [bOf, o3, o1]) (by simp [bOf]) (by simp [bOf]) (by simp [bOf]) (by simp [bOf]) ?_
        simp [bOf, AV.ren, Ob.ren, look_setk, k8, show inR .i64 ((j : Int) + 1 + 1) from by simpa using hin]
        refine ih (j + 2) _ _ (by omega) (by omega) ?_ (by simp) ?_
        · simp [lookO_setk, upd, ← ha]
        · simp [look_setk, k0, k3, k6, k7, ← ha, lookO_setk, upd, show (j : Int) + 1 + 1 = j + 2 by omega]
      simp [m_scan_PrintL1, hlt', ht, hp, encTok, -getElem?_pos, hin2]
      refine ⟨by omega, fun h1 => ⟨by simp only [inR] at hin' ⊢; omega, fun h2 => ?_, fun h2 => ?_⟩, fun h1 => ?_⟩
      · have e2 : sepAt ts (j + 1) = [32] := by rw [es, if_pos ⟨by omega, by omega⟩]
        have hab : (prTo ts (j + 1)).length + ([32] : Str).length ≤ big := by
          rw [e0, e2] at hb1; simp only [List.length_append] at hb1; omega
        refine call_con _ _ _ _ _ (hX ▸ p_WriteString_used (prTo ts (j + 1)) [32] hab) (fun n => if n = 1000 then 3 else 1001) (by simp [bOf]) (by simp [bOf]) (by simp [bOf]) (by simp [bOf]) (by simp [bOf]) ?_
        simp [bOf, AV.ren, Ob.ren]
        refine last _ _ (prTo ts (j + 1) ++ [32]) (by simp) (by simp) (by simp) (by simp) (by simp) (by simp) (by simp) ?_
        rw [e0, e2]
      · have e2 : sepAt ts (j + 1) = [] := by rw [es, if_neg (by omega)]
        refine last _ _ (prTo ts (j + 1)) (by simp) (by simp) (by simp) (by simp) (by simp) (by simp) (by simp) ?_
        rw [e0, e2, List.append_nil]
      · have e2 : sepAt ts (j + 1) = [] := by rw [es, if_neg (by omega)]
        refine last _ _ (prTo ts (j + 1)) (by simp) (by simp) (by simp) (by simp) (by simp) (by simp) (by simp) ?_
        rw [e0, e2, List.append_nil]
  · have : i = ts.length := by omega
    subst this
    simp [m_scan_PrintL1]
    clear ih
    obtain ⟨n, hn⟩ : ∃ n, ts.length = n + 1 := by
      cases h : ts.length with
      | zero => rw [h] at hpos; simp [prTo] at hpos
      | succ n => exact ⟨n, rfl⟩
    rw [hn] at hpos hQ ⊢
    simp only
    refine call_con _ _ _ _ _ (hX ▸ p_Builder_String (prTo ts (n + 1)) hpos) (fun n => if n = 1000 then 3 else 1001) (by simp [bOf]) (by simp [bOf]) (by simp [bOf]) (by simp [bOf]) (by simp [bOf]) ?_
    simp [bOf, AV.ren, Ob.ren]
    subst hQ
    simp
end Cr
