/- Appending a text's bytes to a row of bytes. -/
import Derived.Test.YtndjoodgimomiaaDoorFw11
import Derived.Lib.AppendStr
namespace Cr
open Go Go.RowKit

theorem bytesP_length (b : Str) : (bytesP b).length = b.length := by simp [bytesP]
theorem bytesP_cells (b : Str) : (bytesP b).flatMap PV.cells = bytesP b := by
  induction b with
  | nil => rfl
  | cons x r ih => simp only [bytesP, List.map_cons, List.flatMap_cons, PV.cells] at ih ⊢; rw [ih]; rfl
theorem bytesP_sz (b : Str) : ∀ e ∈ bytesP b, e.cells.length = 1 := by
  intro e he
  simp only [bytesP, List.mem_map] at he
  obtain ⟨c, _, rfl⟩ := he
  rfl

section
variable {X : Ctx} {σ : St} {a : Act} {w : World} {ι : Places} {ro : RO} {K : AV → Obs → Prop} {o : Oper} {m : MOp} {d : Nat}

theorem bytes_reps (b : Str) (ro : RO) (w : World) : PReps ro w ((bytesP b).flatMap PV.cells) (Lib.strCells ⟨b.toArray⟩) := by
  rw [bytesP_cells]
  refine ⟨by simp [bytesP, Lib.strCells], ?_⟩
  intro i p x hp hx
  simp only [bytesP, Lib.strCells, List.getElem?_map, Option.map_eq_some_iff] at hp hx
  obtain ⟨c, hc, rfl⟩ := hp
  obtain ⟨c', hc', rfl⟩ := hx
  have : c = c' := by simpa [hc] using hc'
  subst this
  exact .int _ _

theorem strCells_len (b : Str) : (Lib.strCells ⟨b.toArray⟩).length = b.length := by simp [Lib.strCells]

theorem apps_empty {P : Program} {w : World} (t u ty e : TypeId) {i : TypeInfo} (ht : P.underlying t = some (.slice e)) (hu : P.underlying u = some .string) (hi : P.info? e = some i) (base : Option Addr) (n c : Nat) (hn : n ≤ c) :
    (Builtin.append_ #[t, u] ty #[.slice base n c, .string ⟨#[]⟩]).run P w = .ok (.slice base n c) w := by
  have hf := Lib.run_firstCells_string (P := P) w i.size ⟨#[]⟩
  have h0 : (⟨#[]⟩ : ByteArray).size = 0 := rfl
  have hs : Lib.strCells ⟨#[]⟩ = [] := rfl
  rw [hs, h0] at hf
  cases base with
  | none => simp [Builtin.append_, run_underlying ht, run_underlying hu, run_sizeOf hi, Builtin.lenOf, h0, hn, hf]
  | some b => simp [Builtin.append_, run_underlying ht, run_underlying hu, run_sizeOf hi, Builtin.lenOf, h0, hn, hf, storeCells]

theorem apps_room {P : Program} {w : World} (t u ty e ety : TypeId) (i : TypeInfo) (ht : P.underlying t = some (.slice e)) (hu : P.underlying u = some .string) (hi : P.info? e = some i) (hs1 : i.size = 1)
    (g sLen sCap : Nat) (cur : Array Value) (fz : Nat × Nat) (hg : w.heap[g]? = some (.cells cur ety fz)) (hfz : fz.2 ≤ sLen) (s : ByteArray)
    (hroom : sLen + s.size ≤ sCap) (hfit : sLen + s.size ≤ cur.size) :
    (Builtin.append_ #[t, u] ty #[.slice (some ⟨g, 0, none⟩) sLen sCap, .string s]).run P w =
      .ok (.slice (some ⟨g, 0, none⟩) (sLen + s.size) sCap) (w.setRow g (cur.toList.take sLen ++ Lib.strCells s ++ cur.toList.drop (sLen + s.size)).toArray) := by
  have hf := Lib.run_firstCells_string (P := P) w 1 s
  have hst := run_storeCells_atF P g sLen ety fz (Lib.strCells s) 0 cur w hg (by simpa using hfz) (by simpa [Lib.strCells_length] using hfit) (Lib.strCells_oneCell s)
  simp only [Nat.add_zero, Lib.strCells_length] at hst
  simp [Builtin.append_, run_underlying ht, run_underlying hu, run_sizeOf hi, hs1, Builtin.lenOf, hroom, hf, addr_add, hst]


/-- An append of a text that needs a new block. -/
theorem apps_grow (hS : X.SI σ a w ι ro) {t u ty e : TypeId} {i : TypeInfo} (ht : X.P.underlying t = some (.slice e)) (hu : X.P.underlying u = some .string) (hi : X.P.info? e = some i) (hz : i.zero = some (.int .u8 0)) (hs1 : i.size = 1) (hb1 : i.bytes = 1)
    {n : Nat} {olds : List PV} {b : Str} (hd : σ.ob n = none ∨ (σ.ob n = some (.row e 1 olds) ∧ bytesP b ≠ [])) (hszo : ∀ e ∈ olds, e.cells.length = 1) {x : Value} {cap : Option Nat}
    (hx : PRep ro w (.sl cap olds) x) {ad : Option Addr} {c : Nat} (hxv : x = .slice ad olds.length c) (hfull : c < olds.length + b.length) (hnil : ad = none → c = 0)
    (hne : b ≠ []) (hmax : olds.length + b.length ≤ big) :
    ∃ v w', (Builtin.append_ #[t, u] ty #[x, .string ⟨b.toArray⟩]).run X.P w = .ok v w' ∧ ∃ ι' ro', X.SI ⟨σ.sl, upd σ.ob n (.row e 1 (olds ++ bytesP b))⟩ a w' ι' ro' ∧ ARep ι' (upd σ.ob n (.row e 1 (olds ++ bytesP b))) ro' w' (.rs n (olds.length + b.length)) v := by
  obtain ⟨ad', c', bb, oo, sz', xs, hv', _, g1, g2, g3, g4, g5, g6, g7, g8⟩ := sl_vals hx
  rw [hxv] at hv'; cases hv'
  have hxl : xs.length = olds.length := by rw [← g6.1, flat_length hszo]; simp
  have hsize : (⟨b.toArray⟩ : ByteArray).size = b.length := by simp [ByteArray.size]
  have hpos : 0 < b.length := List.length_pos_iff.mpr hne
  let gc := grownCap w (olds.length + b.length) c e
  have hge : olds.length + b.length ≤ gc := grownCap_ge w _ _ _
  have hmaxl : olds.length + b.length ≤ maxLen := by unfold maxLen; unfold big at hmax; omega
  have hle : gc ≤ huge := grownCap_le_maxLen w _ _ _ hmaxl
  let z : Value := .int .u8 0
  let rest := (Builtin.zeroCells z.cells (gc - (olds.length + b.length))).toList
  have hrl : rest.length = gc - (olds.length + b.length) := by
    have : z.cells.size = 1 := rfl
    simp [rest, size_zeroCells, this]
  have harr : ∀ (l1 l2 : List Value) (zs : Array Value), l1.toArray ++ l2.toArray ++ zs = (l1 ++ l2 ++ zs.toList).toArray := by
    intro l1 l2 zs; apply Array.ext'; simp
  have hps : PReps ro w ((olds ++ bytesP b).flatMap PV.cells) (xs ++ Lib.strCells ⟨b.toArray⟩) := by rw [List.flatMap_append]; exact g6.append (bytes_reps b ro w)
  have hbb : (olds.length + b.length) * i.bytes ≤ big := by rw [hb1]; omega
  have hrun : (Builtin.append_ #[t, u] ty #[x, .string ⟨b.toArray⟩]).run X.P w = .ok (.slice (some ⟨w.heap.size, 0, none⟩) (olds.length + b.length) gc) (w.drew.alloc (.cells (xs ++ Lib.strCells ⟨b.toArray⟩ ++ rest).toArray e)) := by
    rw [hxv]
    cases ad with
    | none =>
      have hc0 := hnil rfl
      subst hc0
      have ho0 : olds.length = 0 := by omega
      have hxs : xs = [] := List.eq_nil_of_length_eq_zero (by rw [hxl, ho0])
      have := run_append_nil_string (P := X.P) w t u ty e i z ht hu hi hz ⟨b.toArray⟩ (by rw [hsize]; exact hpos) (by rw [hsize]; unfold big at hmax; omega) (by rw [hsize, hb1]; unfold big at hmax; omega)
      rw [hsize] at this
      rw [ho0, this]
      simp only [Nat.zero_add, hxs, List.nil_append]
      congr 3
      · simp [gc, ho0]
      · apply Array.ext'; simp [rest, gc, ho0, Lib.strCells]
    | some bad =>
      have holds : ∀ (j : Nat) v, xs[j]? = some v → w.cell? (bad.add j) = some v := by
        intro j v hj
        have hone : olds ≠ [] := fun e' => by subst e'; simp at hxl; subst hxl; simp at hj
        have := g5.resolve_left hone
        cases this
        rw [addr_add]; exact (g8 j v hj).2
      have := Lib.run_append_grow_string (P := X.P) w t u ty e i z ht hu hi hz bad olds.length c xs (by rw [hs1, hxl]; simp) holds ⟨b.toArray⟩ (by rw [hsize]; exact hfull) (by rw [hsize]; unfold big at hmax; omega) (by rw [hsize]; exact growslice_fits hfull hbb)
      rw [hsize] at this
      rw [this, harr]
  obtain ⟨ι', ro', h1, h2⟩ := SatI.rowNew e hS (d := n) (sz := 1) (news := bytesP b) hd (by
    intro p hp
    rcases List.mem_append.mp hp with h | h
    · exact hszo p h
    · exact bytesP_sz b p h) (vals := xs ++ Lib.strCells ⟨b.toArray⟩) (rest := rest) hps (fun v hv => by
    rcases List.mem_append.mp hv with h | h
    · exact g7 v h
    · exact Lib.strCells_oneCell _ v h) (c := gc) (by simpa [bytesP_length] using hge) hle (by simpa [bytesP_length] using hmax) (by
      rw [List.length_append, hxl, strCells_len, hrl]; omega)
  refine ⟨_, _, hrun, ι', ro', h1, ?_⟩
  simpa [bytesP_length] using h2


theorem s_apps (hS : X.SI σ a w ι ro) {c : Call} (ho : o.op = .call c) (hb : c.callee = .builtin .append) {t u e : TypeId} {x y : Operand} (hu : c.argTypes.toList = [t, u]) (ht : X.P.underlying t = some (.slice e)) (hus : X.P.underlying u = some .string) {i : TypeInfo} (hi : X.P.info? e = some i)
    (hz : i.zero = some (.int .u8 0)) (hs1 : i.size = 1) (hb1 : i.bytes = 1) (ha : c.args.toList = [x, y]) {p q : Opd} (hp : cOpd X.N x = some p) (hq : cOpd X.N y = some q)
    (hm : mop X.C d (.apps e p q) σ.sl σ.ob K) : FinR X σ.sl K a ((execOp a.eval o).run X.P w) := by
  have h1 := opd_rep hS.slots hp
  have h2 := opd_rep hS.slots hq
  have hu' : c.argTypes = #[t, u] := by apply Array.ext'; simpa using hu
  have ha' : c.args = #[x, y] := by apply Array.ext'; simpa using ha
  have hrun : ∀ v w', (Builtin.append_ #[t, u] o.type #[a.eval x, a.eval y]).run X.P w = .ok v w' → (execOp a.eval o).run X.P w = .ok (.value v) w' := by
    intro v w' hr
    simp [execOp, ho, resolve, hb, invoke, builtin, ha', hu', hr]
  simp only [mop] at hm
  split at hm
  · rename_i b hev2
    rw [hev2] at h2
    have hyv : a.eval y = .string ⟨b.toArray⟩ := by
      generalize a.eval y = v at h2
      cases h2 with
      | pv _ _ h => cases h; rfl
    rw [hyv] at hrun
    split at hm
    · rename_i cap es hev
      rw [hev] at h1
      obtain ⟨hcap, hee, hdn, hszo, hmax, hK⟩ := hm
      have hx : PRep ro w (.sl cap es) (a.eval x) := by cases h1; assumption
      obtain ⟨ad, cc, bb, oo, sz', xs, hxv, hcap', g1, g2, g3, g4, g5, g6, g7, g8⟩ := sl_vals hx
      have hcc : cc = es.length := (hcap' _ hcap).symm
      by_cases hbn : b = []
      · subst hbn
        have hr := apps_empty (P := X.P) (w := w) t u o.type e ht hus hi ad es.length cc g1
        rw [hrun _ _ (by rw [hxv]; exact hr)]
        simp only [bytesP, List.map_nil, List.append_nil, List.length_nil, Nat.add_zero] at hK
        have hnot : ∀ n pl, ι n = some pl → n ≠ d := fun n pl hn e' => by
          subst e'
          obtain ⟨ob, hob⟩ := hS.dom _ _ hn
          rw [hdn] at hob; cases hob
        have hιd : ι d = none := by
          cases h : ι d with
          | none => rfl
          | some pl => exact absurd rfl (hnot d pl h)
        have g : Grew ι σ.ob ro w ι (upd σ.ob d (.row e 1 es)) ro w := by
          refine ⟨.refl _ _, ?_, ?_, ?_, fun m b r c3 hc => ⟨b, c3, by simp [upd, show m ≠ d from fun e' => by (subst e'; rw [hdn] at hc; cases hc), hc], rfl⟩⟩
          · intro m t' cs hc
            have e' : m ≠ d := fun e' => by subst e'; rw [hdn] at hc; cases hc
            exact ⟨cs, by simp [upd, e', hc], rfl⟩
          · intro m t' sz es' hc
            have e' : m ≠ d := fun e' => by subst e'; rw [hdn] at hc; cases hc
            exact ⟨[], by simp [upd, e', hc], fun _ => rfl⟩
          · intro m t' gn sz es' hc
            have e' : m ≠ d := fun e' => by subst e'; rw [hdn] at hc; cases hc
            exact ⟨gn, es', by simp [upd, e', hc], Nat.le_refl _, fun _ => ⟨rfl, rfl⟩⟩
        refine ⟨_, _, ι, ro, hK, ⟨hS.keeps, hS.size, hS.defers, fun k => (hS.slots k).grew g, ?_, ?_, hS.inj, hS.home, hS.rolt, hS.roold, hS.gr.trans g⟩, ?_⟩
        · intro m ob hob
          simp only [upd] at hob
          split at hob
          · rename_i e'; subst e'; cases hob
            exact ⟨hszo, fun _ => hee.elim id (fun h => absurd rfl h), fun pl hpl => by rw [hιd] at hpl; cases hpl⟩
          · exact (hS.objs m ob hob).moved g rfl (fun _ _ => rfl) (fun _ _ _ h => h)
        · intro m pl hpl
          obtain ⟨ob, hob⟩ := hS.dom m pl hpl
          exact ⟨ob, by simp [upd, hnot m pl hpl, hob]⟩
        · refine .rs d _ e 1 es _ (by simp [upd]) (Nat.le_refl _) ?_ ?_ ?_
          · rw [List.take_length]
            exact sl_mk (fun q h => by cases h) g1 g2 g3 g4 g5 g6 g7 g8
          · intro _ _; exact ⟨ad, by rw [hcc]⟩
          · intro pl _ h; rw [hιd] at h; cases h
      · have hlen : 0 < b.length := List.length_pos_iff.mpr hbn
        obtain ⟨v, w', hr, ι', ro', hSI, hv⟩ := apps_grow (ty := o.type) hS ht hus hi hz hs1 hb1 (n := d) (.inl hdn) hszo hx hxv (by omega) (fun hn => by
          rcases g5 with h | h
          · subst h; simpa using hcc
          · rw [hn] at h; cases h) hbn hmax
        rw [hrun v w' hr]
        exact ⟨_, _, ι', ro', hK, hSI, hv⟩
    · rename_i n len hev
      rw [hev] at h1
      split at hm
      · rename_i t' sz' es hob
        obtain ⟨rt, rfl, rfl, hmax, hK⟩ := hm
        have rt' := rt.symm
        subst rt'
        generalize hxe : a.eval x = xv at h1
        cases h1 with
        | rs _ _ t2' sz2' es2 _ ho2 hl hpx hfull hown =>
          rw [hob] at ho2; cases ho2
          rw [List.take_length] at hpx
          have hrow := hS.objs n _ hob
          have hszo := hrow.1
          have hsz : ∀ p ∈ es ++ bytesP b, p.cells.length = 1 := by
            intro p hp
            rcases List.mem_append.mp hp with h | h
            · exact hszo p h
            · exact bytesP_sz b p h
          by_cases hbn : b = []
          · subst hbn
            obtain ⟨ad, cc, bb, oo, sz', xs, hxv, _, g1, _⟩ := sl_vals hpx
            have hr := apps_empty (P := X.P) (w := w) t u o.type e ht hus hi ad es.length cc g1
            rw [hrun _ _ (by rw [hxe, hxv]; exact hr)]
            simp only [bytesP, List.map_nil, List.append_nil, List.length_nil, Nat.add_zero] at hK
            have hobs : upd σ.ob n (.row e 1 es) = σ.ob := by
              funext m; simp only [upd]; split
              · rename_i e'; rw [e', hob]
              · rfl
            rw [hobs] at hK
            refine good_pure hS hK ?_
            rw [← hxv]
            exact .rs n es.length e 1 es _ hob (Nat.le_refl _) (by rw [List.take_length]; exact hpx) hfull hown
          · have hlen : 0 < b.length := List.length_pos_iff.mpr hbn
            have hbp : bytesP b ≠ [] := by intro e'; have := congrArg List.length e'; simp [bytesP_length] at this; exact hbn this
            cases hι : ι n with
            | none =>
              obtain ⟨ad, hxv⟩ := hfull rfl hι
              obtain ⟨v, w', hr, ι', ro', hSI, hv⟩ := apps_grow (ty := o.type) hS ht hus hi hz hs1 hb1 (n := n) (.inr ⟨hob, hbp⟩) hszo hpx hxv (by omega) (fun hn => by
                obtain ⟨ad', c', bb, oo, sz', xs, hxv', _, g1, g2, g3, g4, g5, _⟩ := sl_vals hpx
                rw [hxv] at hxv'; cases hxv'
                rcases g5 with h | h
                · subst h; rfl
                · rw [hn] at h; cases h) hbn hmax
              rw [hrun v w' (by rw [hxe]; exact hr)]
              exact ⟨_, _, ι', ro', hK, hSI, hv⟩
            | some pl =>
              have hxv := hown pl rfl hι
              obtain ⟨cur, fz, e1, ef, e2, e3, e4, e5, e6⟩ := hrow.2.2 pl hι
              have hplo : pl.o = 0 := e2
              rw [hplo] at hxv
              have hsize : (⟨b.toArray⟩ : ByteArray).size = b.length := by simp [ByteArray.size]
              by_cases hroom : es.length + b.length ≤ pl.c
              · have hr := apps_room (P := X.P) (w := w) t u o.type e _ i ht hus hi hs1 pl.b es.length pl.c cur fz e1 (by simpa using ef) ⟨b.toArray⟩ (by rw [hsize]; exact hroom) (by rw [hsize]; omega)
                rw [hsize] at hr
                rw [hrun _ _ (by rw [hxe, hxv]; exact hr)]
                obtain ⟨ro', hSI, hv⟩ := SatI.rowRoom hS hob hι e1 hsz (nv := Lib.strCells ⟨b.toArray⟩) (bytes_reps b ro w) (Lib.strCells_oneCell _) (by simpa [bytesP_length] using hroom) (by simpa [bytesP_length] using hmax) (by rw [← hxv]; exact hpx)
                simp only [Nat.mul_one, strCells_len, List.length_append, bytesP_length] at hSI hv
                exact ⟨_, _, ι, ro', hK, hSI, hv⟩
              · obtain ⟨v, w', hr, ι', ro', hSI, hv⟩ := apps_grow (ty := o.type) hS ht hus hi hz hs1 hb1 (n := n) (.inr ⟨hob, hbp⟩) hszo hpx hxv (by omega) (fun hn => by cases hn) hbn hmax
                rw [hrun v w' (by rw [hxe]; exact hr)]
                exact ⟨_, _, ι', ro', hK, hSI, hv⟩
      · exact hm.elim
    · exact hm.elim
  · exact hm.elim

end
end Cr
