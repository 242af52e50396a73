/- Each operation does to the machine what its instruction does to the abstract state: appends, structs and lists built. -/
import Derived.Test.YtndjoodgimomiaaDoorFw10
import Derived.Lib.FrozenHead
namespace Cr
open Go Go.RowKit

theorem PReps.append {ro : RO} {w : World} {ps qs : List PV} {xs ys : List Value} (h : PReps ro w ps xs) (k : PReps ro w qs ys) : PReps ro w (ps ++ qs) (xs ++ ys) := by
  refine ⟨by simp [h.1, k.1], ?_⟩
  intro i p x hp hx
  rcases Nat.lt_or_ge i ps.length with hi | hi
  · rw [List.getElem?_append_left hi] at hp
    rw [List.getElem?_append_left (by rw [← h.1]; exact hi)] at hx
    exact h.2 i p x hp hx
  · rw [List.getElem?_append_right hi] at hp
    rw [List.getElem?_append_right (by rw [← h.1]; exact hi), ← h.1] at hx
    exact k.2 _ p x hp hx

section
variable {X : Ctx} {σ : St} {a : Act} {w : World} {ι : Places} {ro : RO} {K : AV → Obs → Prop} {o : Oper} {m : MOp} {d : Nat}

theorem run_app_empty {P : Program} {w : World} (t ty e : TypeId) {i : TypeInfo} (ht : P.underlying t = some (.slice e)) (hi : P.info? e = some i) (base a2 : Option Addr) (n c c2 : Nat) (hn : n ≤ c) :
    (Builtin.append_ #[t, t] ty #[.slice base n c, .slice a2 0 c2]).run P w = .ok (.slice base n c) w := by
  have hf : (Builtin.firstCells i.size 0 (.slice a2 0 c2)).run P w = .ok #[] w := by
    cases a2 with
    | none => exact run_firstCells_none w _ _ _ _
    | some b => exact run_firstCells_some (P := P) w i.size 0 b 0 c2 [] (by simp) (by simp)
  cases base with
  | none => simp [Builtin.append_, run_underlying ht, run_sizeOf hi, Builtin.lenOf, hn, hf]
  | some b => simp [Builtin.append_, run_underlying ht, run_sizeOf hi, Builtin.lenOf, hn, hf, storeCells]

theorem run_app_room {P : Program} {w : World} (t ty e ety : TypeId) (i : TypeInfo) (ht : P.underlying t = some (.slice e)) (hi : P.info? e = some i)
    (g sLen sCap : Nat) (cur : Array Value) (fz : Nat × Nat) (hg : w.heap[g]? = some (.cells cur ety fz)) (hfz : fz.2 ≤ sLen * i.size) (b o : Nat) (m c : Nat) (news : List Value) (hl : news.length = m * i.size) (hnews : ∀ (j : Nat) u, news[j]? = some u → w.cell? ((⟨b, o, none⟩ : Addr).add j) = some u)
    (h1 : ∀ u ∈ news, u.oneCell' = true) (hroom : sLen + m ≤ sCap) (hfit : sLen * i.size + news.length ≤ cur.size) :
    (Builtin.append_ #[t, t] ty #[.slice (some ⟨g, 0, none⟩) sLen sCap, .slice (some ⟨b, o, none⟩) m c]).run P w =
      .ok (.slice (some ⟨g, 0, none⟩) (sLen + m) sCap) (w.setRow g (cur.toList.take (sLen * i.size) ++ news ++ cur.toList.drop (sLen * i.size + news.length)).toArray) := by
  have hf := run_firstCells_some (P := P) w i.size m ⟨b, o, none⟩ m c news hl hnews
  have hst := run_storeCells_atF P g (sLen * i.size) ety fz news 0 cur w hg (by simpa using hfz) (by simpa using hfit) h1
  simp only [Nat.add_zero] at hst
  simp [Builtin.append_, run_underlying ht, run_sizeOf hi, Builtin.lenOf, hroom, hf, addr_add, hst]

/-- An append that needs a new block. -/
theorem app_grow (hS : X.SI σ a w ι ro) {t ty e : TypeId} {i : TypeInfo} {z : Value} (ht : X.P.underlying t = some (.slice e)) (hi : X.P.info? e = some i) (hz : i.zero = some z) (hzs : z.cells.size = i.size) (hpos : 0 < i.size)
    {n : Nat} {olds news : List PV} (hd : σ.ob n = none ∨ (σ.ob n = some (.row e i.size olds) ∧ news ≠ [])) (hsz : ∀ e ∈ olds ++ news, e.cells.length = i.size) {x y : Value} {cap cap2 : Option Nat}
    (hx : PRep ro w (.sl cap olds) x) {ad : Option Addr} {c : Nat} (hxv : x = .slice ad olds.length c) (hfull : c < olds.length + news.length) (hnil : ad = none → c = 0) (hy : PRep ro w (.sl cap2 news) y)
    (hne : news ≠ []) (hb : (olds.length + news.length) * i.bytes ≤ big) (hmax : olds.length + news.length ≤ big) :
    ∃ v w', (Builtin.append_ #[t, t] ty #[x, y]).run X.P w = .ok v w' ∧ ∃ ι' ro', X.SI ⟨σ.sl, upd σ.ob n (.row e i.size (olds ++ news))⟩ a w' ι' ro' ∧ ARep ι' (upd σ.ob n (.row e i.size (olds ++ news))) ro' w' (.rs n (olds.length + news.length)) v := by
  obtain ⟨ad', c', b, oo, sz', xs, hv', _, g1, g2, g3, g4, g5, g6, g7, g8⟩ := sl_vals hx
  rw [hxv] at hv'; cases hv'
  obtain ⟨ad2, c2, b2, o2, sz2, ys, hyv, _, k1, k2, k3, k4, k5, k6, k7, k8⟩ := sl_vals hy
  have hszo : ∀ e ∈ olds, e.cells.length = i.size := fun e he => hsz e (by simp [he])
  have hszn : ∀ e ∈ news, e.cells.length = i.size := fun e he => hsz e (by simp [he])
  have hxl : xs.length = olds.length * i.size := by rw [← g6.1, flat_length hszo]
  have hyl : ys.length = news.length * i.size := by rw [← k6.1, flat_length hszn]
  have had2 := k5.resolve_left hne
  subst had2
  have hnews : ∀ (j : Nat) v, ys[j]? = some v → w.cell? ((⟨b2, o2, none⟩ : Addr).add j) = some v := fun j v hj => by rw [addr_add]; exact (k8 j v hj).2
  have hneed : olds.length + news.length ≤ 9223372036854775807 := Nat.le_trans hmax (by unfold big; omega)
  have hmaxl : olds.length + news.length ≤ maxLen := by unfold maxLen; exact hneed
  let gc := grownCap w (olds.length + news.length) c e
  have hge : olds.length + news.length ≤ gc := grownCap_ge w _ _ _
  have hle : gc ≤ huge := grownCap_le_maxLen w _ _ _ hmaxl
  let rest := (Builtin.zeroCells z.cells (gc - (olds.length + news.length))).toList
  have hrl : rest.length = (gc - (olds.length + news.length)) * i.size := by simp [rest, size_zeroCells, hzs]
  have harr : ∀ (l1 l2 : List Value) (zs : Array Value), l1.toArray ++ l2.toArray ++ zs = (l1 ++ l2 ++ zs.toList).toArray := by
    intro l1 l2 zs; apply Array.ext'; simp
  have hps : PReps ro w ((olds ++ news).flatMap PV.cells) (xs ++ ys) := by rw [List.flatMap_append]; exact g6.append k6
  have hrun : (Builtin.append_ #[t, t] ty #[x, y]).run X.P w = .ok (.slice (some ⟨w.heap.size, 0, none⟩) (olds.length + news.length) gc) (w.drew.alloc (.cells (xs ++ ys ++ rest).toArray e)) := by
    rw [hxv, hyv]
    cases ad with
    | none =>
      have hc0 := hnil rfl
      subst hc0
      have ho0 : olds.length = 0 := by omega
      have hxs : xs = [] := List.eq_nil_of_length_eq_zero (by rw [hxl, ho0]; simp)
      have hb' : news.length * i.bytes ≤ big := by rw [ho0] at hb; simpa using hb
      have := run_append_nil (P := X.P) w t ty e i z ht hi hz ⟨b2, o2, none⟩ news.length c2 ys hyl hnews (by have := List.length_pos_iff.mpr hne; omega) (by omega) (by unfold big at hb'; omega)
      rw [ho0, this]
      simp only [Nat.zero_add, hxs, List.nil_append]
      congr 3
      · simp [gc, ho0]
      · apply Array.ext'; simp [rest, gc, ho0]
    | some bad =>
      have holds : ∀ (j : Nat) v, xs[j]? = some v → w.cell? (bad.add j) = some v := by
        intro j v hj
        have hone : olds ≠ [] := fun e' => by subst e'; simp at hxl; subst hxl; simp at hj
        have := g5.resolve_left hone
        cases this
        rw [addr_add]; exact (g8 j v hj).2
      have := run_append_grow (P := X.P) w t ty e i z ht hi hz bad olds.length c xs hxl holds ⟨b2, o2, none⟩ news.length c2 ys hyl hnews hfull (by omega) (growslice_fits hfull hb)
      rw [this, harr]
  obtain ⟨ι', ro', h1, h2⟩ := SatI.rowNew e hS hd hsz (vals := xs ++ ys) (rest := rest) hps (fun v hv => by
    rcases List.mem_append.mp hv with h | h
    · exact g7 v h
    · exact k7 v h) (c := gc) (by simpa using hge) hle (by simpa using hmax) (by
      have e1 : gc * i.size = (olds.length + news.length) * i.size + (gc - (olds.length + news.length)) * i.size := by rw [← Nat.add_mul]; congr 1; omega
      rw [e1, List.length_append, hxl, hyl, hrl, Nat.add_mul]; omega)
  refine ⟨_, _, hrun, ι', ro', h1, ?_⟩
  simpa using h2

theorem s_app (hS : X.SI σ a w ι ro) {c : Call} (ho : o.op = .call c) (hb : c.callee = .builtin .append) {t e : TypeId} {x y : Operand} (hu : c.argTypes.toList = [t, t]) (ht : X.P.underlying t = some (.slice e)) {i : TypeInfo} (hi : X.P.info? e = some i)
    {z : Value} (hz : i.zero = some z) (hzs : z.cells.size = i.size) (hpos : 0 < i.size) (hbp : 0 < i.bytes) (ha : c.args.toList = [x, y]) {p q : Opd} (hp : cOpd X.N x = some p) (hq : cOpd X.N y = some q)
    (hm : mop X.C d (.app e i.size i.bytes p q) σ.sl σ.ob K) : FinR X σ.sl K a ((execOp a.eval o).run X.P w) := by
  have h1 := opd_rep hS.slots hp
  have h2 := opd_rep hS.slots hq
  have hu' : c.argTypes = #[t, t] := by apply Array.ext'; simpa using hu
  have ha' : c.args = #[x, y] := by apply Array.ext'; simpa using ha
  have hrun : ∀ v w', (Builtin.append_ #[t, t] o.type #[a.eval x, a.eval y]).run X.P w = .ok v w' → (execOp a.eval o).run X.P w = .ok (.value v) w' := by
    intro v w' hr
    simp [execOp, ho, resolve, hb, invoke, builtin, ha', hu', hr]
  simp only [mop] at hm
  split at hm
  · rename_i cap2 ys hev2
    have hy := h2.toPV hev2
    obtain ⟨hszn, hm⟩ := hm
    obtain ⟨ad2, c2, b2, o2, sz2, yvs, hyv, _, k1, k2, k3, k4, k5, k6, k7, k8⟩ := sl_vals hy
    split at hm
    · rename_i cap es hev
      rw [hev] at h1
      obtain ⟨hcap, hee, hdn, hszo, hbound, hK⟩ := hm
      have hx : PRep ro w (.sl cap es) (a.eval x) := by cases h1; assumption
      obtain ⟨ad, cc, b, oo, sz', xs, hxv, hcap', g1, g2, g3, g4, g5, g6, g7, g8⟩ := sl_vals hx
      have hcc : cc = es.length := (hcap' _ hcap).symm
      have hmax : es.length + ys.length ≤ big := Nat.le_trans (Nat.le_mul_of_pos_right _ hbp) hbound
      have hsz : ∀ e ∈ es ++ ys, e.cells.length = i.size := by
        intro e he
        rcases List.mem_append.mp he with h | h
        · exact hszo e h
        · exact hszn e h
      by_cases hys : ys = []
      · subst hys
        have hr := run_app_empty (P := X.P) (w := w) t o.type e ht hi ad ad2 es.length cc c2 g1
        rw [hrun _ _ (by rw [hxv, hyv]; exact hr)]
        simp only [List.append_nil, List.length_nil, Nat.add_zero] at hK
        have hnot : ∀ n pl, ι n = some pl → n ≠ d := fun n pl hn e' => by
          subst e'
          obtain ⟨ob, hob⟩ := hS.dom _ _ hn
          rw [hdn] at hob; cases hob
        have hιd : ι d = none := by
          cases h : ι d with
          | none => rfl
          | some pl => exact absurd rfl (hnot d pl h)
        have g : Grew ι σ.ob ro w ι (upd σ.ob d (.row e i.size es)) ro w := by
          refine ⟨.refl _ _, ?_, ?_, ?_, fun m b r c3 hc => ⟨b, c3, by simp [upd, show m ≠ d from fun e' => by (subst e'; rw [hdn] at hc; cases hc), hc], rfl⟩⟩
          · intro m t' cs hc
            have e' : m ≠ d := fun e' => by subst e'; rw [hdn] at hc; cases hc
            exact ⟨cs, by simp [upd, e', hc], rfl⟩
          · intro m t' sz es' hc
            have e' : m ≠ d := fun e' => by subst e'; rw [hdn] at hc; cases hc
            exact ⟨[], by simp [upd, e', hc], fun _ => rfl⟩
          · intro m t' gn sz es' hc
            have e' : m ≠ d := fun e' => by subst e'; rw [hdn] at hc; cases hc
            exact ⟨gn, es', by simp [upd, e', hc], Nat.le_refl _, fun _ => ⟨rfl, rfl⟩⟩
        refine ⟨_, _, ι, ro, hK, ⟨hS.keeps, hS.size, hS.defers, fun k => (hS.slots k).grew g, ?_, ?_, hS.inj, hS.home, hS.rolt, hS.roold, hS.gr.trans g⟩, ?_⟩
        · intro m ob hob
          simp only [upd] at hob
          split at hob
          · rename_i e'; subst e'; cases hob
            exact ⟨hszo, fun _ => hee.elim id (fun h => absurd rfl h), fun pl hpl => by rw [hιd] at hpl; cases hpl⟩
          · exact (hS.objs m ob hob).moved g rfl (fun _ _ => rfl) (fun _ _ _ h => h)
        · intro m pl hpl
          obtain ⟨ob, hob⟩ := hS.dom m pl hpl
          exact ⟨ob, by simp [upd, hnot m pl hpl, hob]⟩
        · refine .rs d _ e i.size es _ (by simp [upd]) (Nat.le_refl _) ?_ ?_ ?_
          · rw [List.take_length]
            exact sl_mk (fun q h => by cases h) g1 g2 g3 g4 g5 g6 g7 g8
          · intro _ _; exact ⟨ad, by rw [hcc]⟩
          · intro pl _ h; rw [hιd] at h; cases h
      · have hlen : 0 < ys.length := List.length_pos_iff.mpr hys
        obtain ⟨v, w', hr, ι', ro', hSI, hv⟩ := app_grow (ty := o.type) hS ht hi hz hzs hpos (n := d) (.inl hdn) hsz hx hxv (by omega) (fun hn => by
          rcases g5 with h | h
          · subst h; simpa using hcc
          · rw [hn] at h; cases h) hy hys hbound hmax
        rw [hrun v w' hr]
        exact ⟨_, _, ι', ro', hK, hSI, hv⟩
    · rename_i n len hev
      rw [hev] at h1
      split at hm
      · rename_i t' sz' es hob
        obtain ⟨rt, rfl, rfl, hbound, hK⟩ := hm
        have rt' := rt.symm
        subst rt'
        generalize hxe : a.eval x = xv at h1
        cases h1 with
        | rs _ _ t2' sz2' es2 _ ho2 hl hpx hfull hown =>
          rw [hob] at ho2; cases ho2
          rw [List.take_length] at hpx
          have hrow := hS.objs n _ hob
          have hszo := hrow.1
          have hsz : ∀ e ∈ es ++ ys, e.cells.length = i.size := by
            intro e he
            rcases List.mem_append.mp he with h | h
            · exact hszo e h
            · exact hszn e h
          have hmax : es.length + ys.length ≤ big := Nat.le_trans (Nat.le_mul_of_pos_right _ hbp) hbound
          by_cases hys : ys = []
          · subst hys
            obtain ⟨ad, cc, b, oo, sz', xs, hxv, _, g1, _⟩ := sl_vals hpx
            have hr := run_app_empty (P := X.P) (w := w) t o.type e ht hi ad ad2 es.length cc c2 g1
            rw [hrun _ _ (by rw [hxe, hxv, hyv]; exact hr)]
            simp only [List.append_nil, List.length_nil, Nat.add_zero] at hK
            have hobs : upd σ.ob n (.row e i.size es) = σ.ob := by
              funext m; simp only [upd]; split
              · rename_i e'; rw [e', hob]
              · rfl
            rw [hobs] at hK
            refine good_pure hS hK ?_
            rw [← hxv]
            exact .rs n es.length e i.size es _ hob (Nat.le_refl _) (by rw [List.take_length]; exact hpx) hfull hown
          · have hlen : 0 < ys.length := List.length_pos_iff.mpr hys
            cases hι : ι n with
            | none =>
              obtain ⟨ad, hxv⟩ := hfull rfl hι
              obtain ⟨v, w', hr, ι', ro', hSI, hv⟩ := app_grow (ty := o.type) hS ht hi hz hzs hpos (n := n) (.inr ⟨hob, hys⟩) hsz hpx hxv (by omega) (fun hn => by
                obtain ⟨ad', c', b, oo, sz', xs, hxv', _, g1, g2, g3, g4, g5, _⟩ := sl_vals hpx
                rw [hxv] at hxv'; cases hxv'
                rcases g5 with h | h
                · subst h; rfl
                · rw [hn] at h; cases h) hy hys hbound hmax
              rw [hrun v w' (by rw [hxe]; exact hr)]
              exact ⟨_, _, ι', ro', hK, hSI, hv⟩
            | some pl =>
              have hxv := hown pl rfl hι
              obtain ⟨cur, fz, e1, ef, e2, e3, e4, e5, e6⟩ := hrow.2.2 pl hι
              have hplo : pl.o = 0 := e2
              rw [hplo] at hxv
              by_cases hroom : es.length + ys.length ≤ pl.c
              · have had2 := k5.resolve_left hys
                subst had2
                have hyl : yvs.length = ys.length * i.size := by rw [← k6.1, flat_length hszn]
                have hnews : ∀ (j : Nat) v, yvs[j]? = some v → w.cell? ((⟨b2, o2, none⟩ : Addr).add j) = some v := fun j v hj => by rw [addr_add]; exact (k8 j v hj).2
                have hfit : es.length * i.size + yvs.length ≤ cur.size := by
                  rw [hyl, ← Nat.add_mul]
                  exact Nat.le_trans (Nat.mul_le_mul_right _ hroom) e3
                have hr := run_app_room (P := X.P) (w := w) t o.type _ _ i ht hi pl.b es.length pl.c cur fz e1 ef b2 o2 ys.length c2 yvs hyl hnews k7 hroom hfit
                rw [hrun _ _ (by rw [hxe, hxv, hyv]; exact hr)]
                obtain ⟨ro', hSI, hv⟩ := SatI.rowRoom hS hob hι e1 hsz (nv := yvs) k6 k7 (by simpa using hroom) (by simpa using hmax) (by rw [← hxv]; exact hpx)
                refine ⟨_, _, ι, ro', hK, hSI, by simpa using hv⟩
              · obtain ⟨v, w', hr, ι', ro', hSI, hv⟩ := app_grow (ty := o.type) hS ht hi hz hzs hpos (n := n) (.inr ⟨hob, hys⟩) hsz hpx hxv (by omega) (fun hn => by cases hn) hy hys hbound hmax
                rw [hrun v w' (by rw [hxe]; exact hr)]
                exact ⟨_, _, ι', ro', hK, hSI, hv⟩
      · exact hm.elim
    · exact hm.elim
  · exact hm.elim

end
end Cr
