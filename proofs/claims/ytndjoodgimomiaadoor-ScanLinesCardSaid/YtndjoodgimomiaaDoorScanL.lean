/- Part of the proof: ScanL. -/
import Derived.Test.YtndjoodgimomiaaDoorScan8
import Derived.Test.YtndjoodgimomiaaDoorFwR
namespace Cr
open Go Go.RowKit

/-! ### Lines, found by their end -/
theorem idx_none {t : Str} {c : UInt8} (h : Lib.indexByte t c = -1) : c ∉ t := by
  induction t with
  | nil => simp
  | cons b r ih =>
    have hg := Lib.indexByte_ge r c
    simp only [Lib.indexByte] at h
    by_cases hb : b = c
    · simp [hb] at h
    · rw [if_neg (by simpa using hb)] at h
      split at h
      · rename_i h2
        simp only [List.mem_cons, not_or]
        exact ⟨fun e => hb e.symm, ih (by simpa using h2)⟩
      · rename_i h2
        simp at h2; omega
theorem linesGo_none {t : Str} (h : Lib.indexByte t 10 = -1) (cur : Str) : linesGo cur t = if cur ++ t = [] then [] else [cur ++ t] := by
  have hn := idx_none h
  clear h
  induction t generalizing cur with
  | nil => simp [linesGo]
  | cons b r ih =>
    simp only [List.mem_cons, not_or] at hn
    simp only [linesGo]
    rw [if_neg (fun e => hn.1 e.symm), ih (cur ++ [b]) hn.2]
    simp
theorem linesGo_some : ∀ {t : Str} {i : Nat}, Lib.indexByte t 10 = i → ∀ cur, linesGo cur t = (cur ++ t.take i) :: linesGo [] (t.drop (i + 1)) ∧ t[i]? = some 10
  | [], i, h, cur => by simp [Lib.indexByte] at h
  | b :: r, i, h, cur => by
    have hg := Lib.indexByte_ge r 10
    simp only [Lib.indexByte] at h
    by_cases hb : b = 10
    · subst hb
      simp at h
      have : i = 0 := by omega
      subst this; simp [linesGo]
    · rw [if_neg (by simpa using hb)] at h
      split at h
      · omega
      · rename_i h2
        simp at h2
        obtain ⟨j, rfl⟩ : ∃ j, i = j + 1 := ⟨i - 1, by omega⟩
        have := linesGo_some (t := r) (i := j) (by omega) (cur ++ [b])
        simp only [linesGo]
        rw [if_neg hb, this.1]
        simp [this.2]
theorem linesOf_none {t : Str} (h : Lib.indexByte t 10 = -1) (h0 : t ≠ []) : linesOf t = [t] := by
  simp [linesOf, linesGo_none h, h0]
theorem linesOf_some {t : Str} {i : Nat} (h : Lib.indexByte t 10 = i) : linesOf t = t.take i :: linesOf (t.drop (i + 1)) := by
  rw [linesOf, (linesGo_some h []).1]; rfl
/-- A line without its end. -/
def bareLine (s : Str) : Str := if hasSuf s [10] then s.take (s.length - 1) else s
theorem bareLine_some {t : Str} {i : Nat} (h : Lib.indexByte t 10 = i) : bareLine (t.take (i + 1)) = t.take i := by
  have hx := (linesGo_some h []).2
  have e : t.take (i + 1) = t.take i ++ [10] := by rw [List.take_add_one, hx]; rfl
  have hl : (t.take (i + 1)).length - 1 = (t.take i).length := by rw [e]; simp
  have hs : hasSuf (t.take (i + 1)) [10] = true := by
    simp only [hasSuf, List.length_singleton, hl]
    rw [e]; simp
  rw [bareLine, if_pos hs, hl, e]; simp
theorem bareLine_none {t : Str} (h : Lib.indexByte t 10 = -1) : bareLine t = t := by
  have hn := idx_none h
  have : hasSuf t [10] = false := by
    cases he : hasSuf t [10] with
    | false => rfl
    | true =>
      simp [hasSuf] at he
      exact absurd (List.mem_of_mem_drop (he.2 ▸ List.mem_singleton_self (10 : UInt8) : (10 : UInt8) ∈ t.drop (t.length - 1))) hn
  simp [bareLine, this]

theorem p_strings_Lines (s : Str) : Con SP n_strings_Lines [.pv (.str s)] [] [.fn n_strings_Lines_1 [.ptr 1000 0]] [(1000, .box y_string [.pv (.str s)])] := by
  refine Con.fn (fun n => if n = 1000 then 1 else n) e_strings_Lines c_strings_Lines (by simp) fun X Q hX h0 hfit hQ => ?_
  simp [m_strings_Lines]
  subst hQ; simp

/-- The result as it grows. -/
def outV (ls : List Str) : AV := if ls = [] then .pv (.sl (some 0) []) else .rs 17 ls.length
def outO (ls : List Str) : List (Nat × Ob) := if ls = [] then [] else [(17, .row y_string 1 (ls.map .str))]
/-- The slots of Lines while it ranges. -/
def linCs (s : Str) : List AV := [.pv (.str s), .any, .ptr 2 0, .any, .any, .any, .pv (.str s), .fn n_strings_Lines_1 [.ptr 50 0], .any, .any, .any, .any, .any, .any, .any, .any, .any, .any, .any]
def linSt (r : Loop) (cs : List AV) (t : Str) (ls : List Str) : List (Nat × Ob) := [(60, .lrec 0 r cs), (50, .box y_string [.pv (.str t)]), (2, .box y_sl_string [outV ls])] ++ outO ls

theorem linSt_same (r : Loop) (s t : Str) (ls : List Str) : AllL (fun p => MO (lookO (linSt r (linCs s) t ls)) id (lookO (linSt r (linCs s) t ls)) p.1 p.2) (linSt r (linCs s) t ls) := by
  cases ls <;> simp [linSt, outV, outO, linCs, LrecM]
theorem linSt_nodup (r : Loop) (s t : Str) (ls : List Str) : ((linSt r (linCs s) t ls).map fun p => p.1).Nodup := by
  cases ls <;> simp [linSt, outO]

theorem p_scan_Lines (s : Str) (hs : s.length ≤ 1000) : PCon SP n_scan_Lines [.str s] [.sl none ((linesOf s).map .str)] := by
  refine PCon.fnR e_scan_Lines c_scan_Lines (by simp) fun X hX hrN h0 hfit => ?_
  generalize hQ : RetP [RK.cell 2 false 1] [PV.sl none ((linesOf s).map .str)] = Q
  simp [m_scan_Lines]
  refine call_con _ _ _ _ _ (hX ▸ p_strings_Lines s) (fun n => if n = 1000 then 50 else n) (by simp) (by simp) (by simp) (by simp) (by simp) ?_
  simp [AV.ren, Ob.ren]
  refine RangeG.rule (caps := [.ptr 50 0]) hX hrN (by simp) e_strings_Lines_1 c_strings_Lines_1 (by simp) 60 (by simp) (by simp) (cs := linCs s) (by simp [List.range, List.range.loop, linCs])
    (fun r args os b os2 => b = false ∧ ∃ t ls line, args = [.pv (.str line)] ∧ line.length ≤ 1000 ∧ ls.length ≤ 1000 ∧ os = linSt r (linCs s) t ls ∧ os2 = linSt r (linCs s) t (ls ++ [bareLine line])) ?_ ?_
  · rintro r args os b os2 ⟨rfl, t, ls, line, rfl, h1, h2, rfl, rfl⟩
    refine ⟨by simp, by simp [linSt], [(2, .ptr 2 0), (3, .pv (.str line))], linSt r (linCs s) t ls, linCs s, setk (linSt r (linCs s) t (ls ++ [bareLine line])) 60 (.lrec 2 r (linCs s)), linCs s, ?_, ?_, ?_, ?_, ?_⟩
    · refine assignA_of fun X hX h0 => ?_
      cases ls <;> simp [m_scan_LinesA1, linCs, linSt, outV, outO, LrecM]
    · simp [linSt]
    · refine bodyA_of fun X hX h0 => ?_
      have hb : (ls.length + 1) * 16 ≤ big := by unfold big; omega
      simp [m_scan_LinesB2]
      refine call_ok hX (p_strings_CutSuffix line [10]) (by simp) ?_
      have e : (if hasSuf line [10] = true then line.take (line.length - 1) else line) = bareLine line := rfl
      cases ls with
      | nil => simp [linCs, linSt, outV, outO, LrecM, e, show 16 ≤ big by decide]
      | cons x ls =>
        simp only [List.length_cons] at hb
        simp [linCs, linSt, outV, outO, LrecM, hb, e]
    · simp [linSt]
    · simp [linSt]
  · intro r X' Q' hX' h0' hY hQ'
    simp [m_strings_Lines_1]
    refine LoopG.ind (α := Str × List Str) (fun a => a.1.length) (fun a => a.1.length ≤ 1000 ∧ a.2.length + a.1.length ≤ 1000 ∧ a.2 ++ linesOf a.1 = linesOf s)
      (fun a => [(0, .yf 60), (1, .ptr 50 0)]) (fun a => linSt r (linCs s) a.1 a.2) (s, []) ?_ ⟨hs, by simpa using hs, by simp⟩ ?_ ?_ ?_ ?_
    · intro b _ n o ho
      rw [h0'] at ho
      simp only [lookO] at ho
      simp only [linSt, List.cons_append, List.nil_append, lookO]
      split
      · exact ⟨_, rfl⟩
      · split
        · exact ⟨_, rfl⟩
        · split
          · exact ⟨_, rfl⟩
          · rename_i a1 a2 a3
            simp [a1, a2, a3] at ho
    · simp [linSt, outV, outO, linCs, LrecM]
    · exact linSt_nodup _ _ _ _
    · simp [linSt]
    rintro ⟨t, ls⟩ c' ⟨h1, h2, h3⟩ ih
    simp only at h1 h2 h3
    simp [m_strings_Lines_1L1, linSt]
    refine ⟨fun hpos => ?_, fun h => ?_⟩
    · refine call_ok hX' (p_strings_IndexByte t 10) (by simp) ?_
      have hg := Lib.indexByte_ge t 10
      have out : ∀ (l : List (Nat × AV)) (u line : Str), look l 0 = .yf 60 → look l 1 = .ptr 50 0 → line.length ≤ 1000 → u.length < t.length → linesOf t = bareLine line :: linesOf u →
          CallY X' 23 60 [.pv (.str line)] [.code (.reg [⟨some 24, .not (.t 23), none⟩]), .code (.cond (.t 24) .ret .skip), .blk 1, .again c', .blk 0] Q' l (linSt r (linCs s) u ls) := by
        intro l u line k0 k1 hl hu hb
        refine yield_ok hY ⟨rfl, u, ls, line, rfl, hl, by omega, rfl, rfl⟩ (linSt_same _ _ _ _) (linSt_nodup _ _ _ _) (linSt_nodup _ _ _ _) ?_ (by simp [linSt]) ?_
        · cases ls <;> simp [linSt, outO]
        · simp [look_setk]
          refine ih (u, ls ++ [bareLine line]) _ _ hu ⟨by simp only; omega, by simp; omega, ?_⟩ ?_ (linSt_nodup _ _ _ _) ?_
          · simp only [List.append_assoc, List.singleton_append]
            rw [← hb, h3]
          · cases ls <;> simp [linSt, outV, outO, linCs, LrecM]
          · simp [look_setk, k0, k1, linSt]
      rcases Int.lt_or_le (Lib.indexByte t 10) 0 with hneg | hnn
      · have e : Lib.indexByte t 10 = -1 := by omega
        simp [e]
        refine out _ [] t (by simp) (by simp) h1 (by simpa using hpos) ?_
        rw [linesOf_none e (by intro h; subst h; simp at hpos), bareLine_none e]; rfl
      · obtain ⟨i, hi⟩ : ∃ i : Nat, Lib.indexByte t 10 = i := ⟨(Lib.indexByte t 10).toNat, by omega⟩
        have hlt : i < t.length := (List.getElem?_eq_some_iff.1 (linesGo_some hi []).2).1
        have hin : inR .i64 ((i : Int) + 1) := by simp only [inR]; omega
        simp [hi, hin, show ((i : Int) + 1).toNat = i + 1 by omega, show (i : Int) + 1 ≤ t.length by omega]
        refine ⟨by omega, ?_⟩
        refine out _ (t.drop (i + 1)) (t.take (i + 1)) (by simp) (by simp) (by rw [List.length_take]; omega) (by rw [List.length_drop]; omega) ?_
        rw [linesOf_some hi, bareLine_some hi]
    · subst h
      refine (hQ' _ _ ?_).1
      have h3 : ls = linesOf s := by simpa [linesOf, linesGo] using h3
      subst h3
      clear ih
      cases he : linesOf s with
      | nil =>
        simp [outV, outO]
        subst hQ
        simp [he, List.take_of_length_le]
      | cons x xs =>
        simp [outV, outO]
        subst hQ
        simp [he, List.take_of_length_le]
end Cr
