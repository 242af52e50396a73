/- How a state goes on: behind a call that changes nothing that was there, a store into a variable, an append. -/
import Derived.Test.YtndjoodgimomiaaDoorFw4
namespace Cr
open Go Go.RowKit

section
variable {N : Nat} {E : Ent} {σ : St} {a : Act} {w : World} {ι : Places} {ro : RO}

theorem SatI.lt (hS : SatI N E σ a w ι ro) {n : Nat} {pl : Place} (h : ι n = some pl) : pl.b < w.heap.size := by
  obtain ⟨o, ho⟩ := hS.dom n pl h
  exact (hS.objs n o ho).lt h

theorem later_of_below {ro ro' : RO} {w w' : World} (hlt : ∀ b o, ro b o → b < w.heap.size) (hb : Below w.heap.size w w') (h1 : ∀ b o, ro b o → ro' b o) : Later ro w ro' w' :=
  fun b o h => ⟨h1 b o h, hb.cell (p := ⟨b, o, none⟩) (hlt b o h)⟩

theorem grew_of_below {ι : Places} {ob : Obs} {ro ro' : RO} {w w' : World} (hl : Later ro w ro' w') : Grew ι ob ro w ι ob ro' w' :=
  ⟨hl, fun n t cs h => ⟨cs, h, rfl⟩, fun n t sz es h => ⟨[], by simpa using h, fun _ => rfl⟩, fun n t g sz es h => ⟨g, es, h, Nat.le_refl _, fun _ => ⟨rfl, rfl⟩⟩, fun n b r c3 h => ⟨b, c3, h, rfl⟩⟩

/-- Behind a call that changes nothing that was there. -/
theorem SatI.below (hS : SatI N E σ a w ι ro) {w' : World} {ro' : RO} (hb : Below w.heap.size w w') (h1 : ∀ b o, ro b o → ro' b o)
    (h2 : ∀ b o, ro' b o → ro b o ∨ w.heap.size ≤ b) (h3 : ∀ b o, ro' b o → b < w'.heap.size) : SatI N E σ a w' ι ro' := by
  have g : Grew ι σ.ob ro w ι σ.ob ro' w' := grew_of_below (later_of_below hS.rolt hb h1)
  refine ⟨hS.keeps.trans ⟨hb.os, hb.tape, hb.output, hb.size, fun k hk _ => hb.block k hk⟩, hS.size, hS.defers.later (fun D hD => (hb.block D (Array.getElem?_eq_some_iff.1 hD).1).trans hD), fun k => (hS.slots k).grew g, ?_, hS.dom, hS.inj, hS.home, h3, ?_, hS.gr.trans g⟩
  · intro n o ho
    refine (hS.objs n o ho).moved g rfl (fun pl hp => hb.block _ (hS.lt hp)) ?_
    intro pl o hp hr
    rcases h2 _ _ hr with h | h
    · exact h
    · have := hS.lt hp; omega
  · intro b o h
    rcases h2 b o h with h | h
    · exact hS.roold b o h
    · exact .inr (.inr (Nat.le_trans hS.keeps.size h))

theorem keeps_setRow {B : Nat → Prop} {w0 w : World} (h : Keeps B w0 w) {g : Nat} (hg : B g ∨ w0.heap.size ≤ g) (cs : Array Value) : Keeps B w0 (w.setRow g cs) := by
  refine ⟨h.os, h.tape, h.output, by simpa using h.size, fun k hk hB => ?_⟩
  rw [setRow_other w g k cs]
  · exact h.block k hk hB
  · intro e; subst e
    rcases hg with hg | hg
    · exact hB hg
    · omega

theorem cell_other {w w' : World} {b o : Nat} (h : w'.heap[b]? = w.heap[b]?) : w'.cell? ⟨b, o, none⟩ = w.cell? ⟨b, o, none⟩ := World.cell?_of_block (w := w) h

/-- A store into a variable. -/
theorem SatI.store (hS : SatI N E σ a w ι ro) {n : Nat} {cs : List AV} {t : TypeId} (hn : σ.ob n = some (.box t cs)) {pl : Place} {cur : Array Value} (hp : ι n = some pl)
    (hg : w.heap[pl.b]? = some (.cells cur t (0, 0))) {vs : List AV} {us : List Value} (hr : RepAll ι σ.ob ro w vs us) (h1 : ∀ x ∈ us, x.oneCell' = true) {off : Nat} (hoff : off + vs.length ≤ cs.length) :
    SatI N E ⟨σ.sl, upd σ.ob n (.box t (splice cs off vs))⟩ a (w.setRow pl.b (splice cur.toList off us).toArray) ι ro := by
  obtain ⟨pl', cur', e1, e2, e3, e4, e5, e6⟩ := hS.objs n _ hn
  rw [hp] at e1; cases e1
  rw [hg] at e3; cases e3
  have hoth : ∀ k, k ≠ pl.b → (w.setRow pl.b (splice cur.toList off us).toArray).heap[k]? = w.heap[k]? := fun k hk => setRow_other w pl.b k _ hk
  have hl : Later ro w ro (w.setRow pl.b (splice cur.toList off us).toArray) := fun b o h => ⟨h, cell_other (hoth b (by intro e; subst e; exact e6 o h))⟩
  have g : Grew ι σ.ob ro w ι (upd σ.ob n (.box t (splice cs off vs))) ro (w.setRow pl.b (splice cur.toList off us).toArray) := by
    refine ⟨hl, ?_, ?_, ?_, fun m b r c3 hc => ⟨b, c3, by simp [upd, show m ≠ n from fun e => by (subst e; rw [hn] at hc; cases hc), hc], rfl⟩⟩
    · intro m t' c hc
      by_cases e : m = n
      · subst e; rw [hn] at hc; cases hc; exact ⟨splice cs off vs, by simp [upd], rfl⟩
      · exact ⟨c, by simp [upd, e, hc], rfl⟩
    · intro m t' sz es hc
      have e : m ≠ n := fun e => by subst e; rw [hn] at hc; cases hc
      exact ⟨[], by simp [upd, e, hc], fun _ => rfl⟩
    · intro m t' gn sz es hc
      have e : m ≠ n := fun e => by subst e; rw [hn] at hc; cases hc
      exact ⟨gn, es, by simp [upd, e, hc], Nat.le_refl _, fun _ => ⟨rfl, rfl⟩⟩
  refine ⟨keeps_setRow hS.keeps (hS.home n pl hp) _, hS.size, hS.defers.setRow hg _, fun k => (hS.slots k).grew g, ?_, ?_, hS.inj, hS.home, ?_, hS.roold, hS.gr.trans g⟩
  · intro m o ho
    simp only [upd] at ho
    split at ho
    · rename_i e
      subst e; cases ho
      have hsp := (e4.splice hr off hoff).grew g
      refine ⟨pl, _, hp, e2, setRow_heap w pl.b cur _ t _ hg, by simpa using hsp, ?_, e6⟩
      intro v hv
      simp only [Cr.splice, List.mem_append] at hv
      rcases hv with (hv | hv) | hv
      · exact e5 v (List.mem_of_mem_take hv)
      · exact h1 v hv
      · exact e5 v (List.mem_of_mem_drop hv)
    · rename_i e
      refine (hS.objs m o ho).moved g rfl (fun q hq => hoth _ ?_) (fun _ _ _ h => h)
      intro e'
      exact e (hS.inj m n q pl hq hp e')
  · intro m q hq
    obtain ⟨o, ho⟩ := hS.dom m q hq
    by_cases e : m = n
    · exact ⟨_, by simp [upd, e]; rfl⟩
    · exact ⟨o, by simp [upd, e, ho]⟩
  · intro b o h
    simpa using hS.rolt b o h

theorem flat_length {sz : Nat} : ∀ {es : List PV}, (∀ e ∈ es, e.cells.length = sz) → (es.flatMap PV.cells).length = es.length * sz
  | [], _ => by simp
  | e :: r, h => by
    rw [List.flatMap_cons, List.length_append, flat_length (es := r) (fun x hx => h x (by simp [hx])), h e (by simp), List.length_cons, Nat.succ_mul]
    omega

/-- A row that lies in a new block. -/
theorem SatI.rowNew (t : TypeId) (hS : SatI N E σ a w ι ro) {d sz : Nat} {olds news : List PV} (hd : σ.ob d = none ∨ (σ.ob d = some (.row t sz olds) ∧ news ≠ [])) (hsz : ∀ e ∈ olds ++ news, e.cells.length = sz)
    {vals rest : List Value} (hv : PReps ro w ((olds ++ news).flatMap PV.cells) vals) (h1 : ∀ v ∈ vals, v.oneCell' = true) {c : Nat} (hc : (olds ++ news).length ≤ c) (hc2 : c ≤ huge) (hmax : (olds ++ news).length ≤ big)
    (hcap : c * sz ≤ vals.length + rest.length) :
    ∃ ι' ro', SatI N E ⟨σ.sl, upd σ.ob d (.row t sz (olds ++ news))⟩ a (w.drew.alloc (.cells (vals ++ rest).toArray t)) ι' ro' ∧
      ARep ι' (upd σ.ob d (.row t sz (olds ++ news))) ro' (w.drew.alloc (.cells (vals ++ rest).toArray t)) (.rs d (olds ++ news).length) (.slice (some ⟨w.heap.size, 0, none⟩) (olds ++ news).length c) := by
  let w' := w.drew.alloc (.cells (vals ++ rest).toArray t)
  let ι' : Places := fun n => if n = d then some ⟨w.heap.size, 0, c⟩ else ι n
  let ro' : RO := fun b o => ro b o ∨ (b = w.heap.size ∧ o < vals.length)
  have hvl : vals.length = (olds ++ news).length * sz := by rw [← hv.1, flat_length hsz]
  have hold : ∀ k, k < w.heap.size → w'.heap[k]? = w.heap[k]? := fun k hk => Below.heap_alloc w.drew _ k hk
  have hnew : w'.heap[w.heap.size]? = some (.cells (vals ++ rest).toArray t) := heap_alloc_new w.drew _
  have hl : Later ro w ro' w' := fun b o h => ⟨.inl h, cell_other (hold b (hS.rolt b o h))⟩
  have hrow : ∀ n o, n ≠ d → σ.ob n = some o → upd σ.ob d (.row t sz (olds ++ news)) n = some o := fun n o hn ho => by simp [upd, hn, ho]
  have g : Grew ι σ.ob ro w ι' (upd σ.ob d (.row t sz (olds ++ news))) ro' w' := by
    refine ⟨hl, ?_, ?_, ?_, ?_⟩
    · intro m t' cs hc'
      have e : m ≠ d := fun e => by
        subst e
        rcases hd with h | ⟨h, _⟩ <;> rw [h] at hc' <;> cases hc'
      exact ⟨cs, hrow m _ e hc', by simp [ι', e]⟩
    · intro m t' sz' es hc'
      by_cases e : m = d
      · subst e
        rcases hd with h | ⟨h, hne⟩
        · rw [h] at hc'; cases hc'
        · rw [h] at hc'; cases hc'
          exact ⟨news, by simp [upd], fun e => absurd e hne⟩
      · exact ⟨[], by rw [List.append_nil]; exact hrow m _ e hc', fun _ => by simp [ι', e]⟩
    · intro m t' gn sz' es hc'
      have e : m ≠ d := fun e => by
        subst e
        rcases hd with h | ⟨h, _⟩ <;> rw [h] at hc' <;> cases hc'
      exact ⟨gn, es, hrow m _ e hc', Nat.le_refl _, fun _ => ⟨rfl, by simp [ι', e]⟩⟩
    · intro m b r c3 hc'
      have e : m ≠ d := fun e => by
        subst e
        rcases hd with h | ⟨h, _⟩ <;> rw [h] at hc' <;> cases hc'
      exact ⟨b, c3, hrow m _ e hc', by simp [ι', e]⟩
  have hlt : ∀ n pl, ι n = some pl → pl.b < w.heap.size := fun n pl h => hS.lt h
  have hsz' : w'.heap.size = w.heap.size + 1 := by simp [w']
  have hcell : ∀ (i : Nat) v, vals[i]? = some v → w'.cell? ⟨w.heap.size, i, none⟩ = some v := by
    intro i v hi
    have : w'.cell? ⟨w.heap.size, i, none⟩ = (vals ++ rest).toArray[i]? := cell_of_row w' w.heap.size i _ t (0, 0) hnew
    rw [this]
    have : i < vals.length := (List.getElem?_eq_some_iff.1 hi).1
    simp [List.getElem?_append_left this, hi]
  refine ⟨ι', ro', ⟨?_, hS.size, hS.defers.alloc (w := w.drew) _, fun k => (hS.slots k).grew g, ?_, ?_, ?_, ?_, ?_, ?_, hS.gr.trans g⟩, ?_⟩
  · exact hS.keeps.trans ⟨rfl, rfl, rfl, by rw [hsz']; omega, fun k hk _ => hold k hk⟩
  · intro m o ho
    simp only [upd] at ho
    split at ho
    · rename_i e
      subst e; cases ho
      refine ⟨hsz, fun e => by simp [ι'] at e, fun pl hpl => ?_⟩
      simp [ι'] at hpl
      subst hpl
      refine ⟨_, (0, 0), hnew, Nat.zero_le _, rfl, by simpa using hcap, hc, hc2, ?_⟩
      intro o ho hr
      rcases hr with hr | ⟨_, hr⟩
      · have := hS.rolt _ _ hr; simp at this
      · omega
    · rename_i e
      refine (hS.objs m o ho).moved g (by simp [ι', e]) (fun q hq => hold _ (hlt m q hq)) ?_
      intro q o hq hr
      rcases hr with hr | ⟨hr, _⟩
      · exact hr
      · have := hlt m q hq; omega
  · intro m q hq
    by_cases e : m = d
    · exact ⟨_, by simp [upd, e]; rfl⟩
    · obtain ⟨o, ho⟩ := hS.dom m q (by simpa [ι', e] using hq)
      exact ⟨o, hrow m o e ho⟩
  · intro m k p q hm hk hpq
    by_cases e1 : m = d <;> by_cases e2 : k = d
    · omega
    · simp [ι', e1] at hm; simp [ι', e2] at hk; subst hm
      have := hlt k q hk; simp at hpq; omega
    · simp [ι', e1] at hm; simp [ι', e2] at hk; subst hk
      have := hlt m p hm; simp at hpq; omega
    · simp [ι', e1] at hm; simp [ι', e2] at hk
      exact hS.inj m k p q hm hk hpq
  · intro m p hp
    by_cases e : m = d
    · simp [ι', e] at hp; subst hp; exact .inr hS.keeps.size
    · exact hS.home m p (by simpa [ι', e] using hp)
  · intro b o h
    show b < w'.heap.size
    rw [hsz']
    rcases h with h | ⟨h, _⟩
    · have := hS.rolt b o h; omega
    · omega
  · intro b o h
    rcases h with h | ⟨h, _⟩
    · exact hS.roold b o h
    · subst h; exact .inr (.inr hS.keeps.size)
  · refine .rs d _ t sz (olds ++ news) _ (by simp [upd]) (Nat.le_refl _) ?_ ?_ ?_
    · rw [List.take_length]
      refine .sl none (olds ++ news) _ c w.heap.size 0 sz (fun i => vals.getD i undef) (by intro q h; cases h) hc hmax hc2 hsz (.inr rfl) ?_ ?_ ?_
      · intro i p hp
        have hi : i < vals.length := by rw [← hv.1]; exact (List.getElem?_eq_some_iff.1 hp).1
        have hv' : vals[i]? = some (vals.getD i undef) := by simp [List.getD, List.getElem?_eq_getElem hi]
        rw [Nat.zero_add]
        exact ⟨.inr ⟨rfl, hi⟩, hcell i _ hv'⟩
      · intro i p hp
        have hi : i < vals.length := by rw [← hv.1]; exact (List.getElem?_eq_some_iff.1 hp).1
        apply h1
        simp [List.getD, List.getElem?_eq_getElem hi]
      · intro i p hp
        have hi : i < vals.length := by rw [← hv.1]; exact (List.getElem?_eq_some_iff.1 hp).1
        exact (hv.2 i p _ hp (by simp [List.getD, List.getElem?_eq_getElem hi])).later hl
    · intro _ h; simp [ι'] at h
    · intro pl _ h
      simp [ι'] at h; subst h; rfl

/-- What an old header of a row tells of its cells. -/
theorem sl_cells {es : List PV} {a : Option Addr} {n c b o : Nat} (h : PRep ro w (.sl none es) (.slice a n c)) (ha : es = [] ∨ a = some ⟨b, o, none⟩) :
    n = es.length ∧ es.length ≤ c ∧ es.length ≤ big ∧ ∃ f : Nat → Value, ∀ (i : Nat) p, (es.flatMap PV.cells)[i]? = some p → ro b (o + i) ∧ w.cell? ⟨b, o + i, none⟩ = some (f i) ∧ (f i).oneCell' = true ∧ PRep ro w p (f i) := by
  cases h with
  | sl _ _ _ _ b' o' sz f hcap hlen hmax hc hsz ha' hro h1 hrep =>
    refine ⟨rfl, hlen, hmax, f, fun i p hp => ?_⟩
    have hbo : b' = b ∧ o' = o := by
      rcases ha' with h | h
      · subst h; simp at hp
      · rcases ha with h2 | h2
        · subst h2; simp at hp
        · rw [h] at h2; cases h2; exact ⟨rfl, rfl⟩
    obtain ⟨rfl, rfl⟩ := hbo
    exact ⟨(hro i p hp).1, (hro i p hp).2, h1 i p hp, hrep i p hp⟩

/-- A row that goes on where it lies. -/
theorem SatI.rowRoom (hS : SatI N E σ a w ι ro) {n sz : Nat} {t : TypeId} {olds news : List PV} (hn : σ.ob n = some (.row t sz olds)) {pl : Place} (hp : ι n = some pl) {cur : Array Value} {fz : Nat × Nat}
    (hg : w.heap[pl.b]? = some (.cells cur t fz)) (hsz : ∀ e ∈ olds ++ news, e.cells.length = sz) {nv : List Value} (hv : PReps ro w (news.flatMap PV.cells) nv) (h1 : ∀ v ∈ nv, v.oneCell' = true)
    (hc : (olds ++ news).length ≤ pl.c) (hmax : (olds ++ news).length ≤ big) (hx : PRep ro w (.sl none olds) (.slice (some ⟨pl.b, 0, none⟩) olds.length pl.c)) :
    ∃ ro', SatI N E ⟨σ.sl, upd σ.ob n (.row t sz (olds ++ news))⟩ a (w.setRow pl.b (cur.toList.take (olds.length * sz) ++ nv ++ cur.toList.drop (olds.length * sz + nv.length)).toArray) ι ro' ∧
      ARep ι (upd σ.ob n (.row t sz (olds ++ news))) ro' (w.setRow pl.b (cur.toList.take (olds.length * sz) ++ nv ++ cur.toList.drop (olds.length * sz + nv.length)).toArray) (.rs n (olds ++ news).length) (.slice (some ⟨pl.b, 0, none⟩) (olds ++ news).length pl.c) := by
  let cs : Array Value := (cur.toList.take (olds.length * sz) ++ nv ++ cur.toList.drop (olds.length * sz + nv.length)).toArray
  let w' := w.setRow pl.b cs
  let ro' : RO := fun b o => ro b o ∨ (b = pl.b ∧ o < (olds ++ news).length * sz)
  obtain ⟨hO1, _, hO2⟩ := hS.objs n _ hn
  obtain ⟨cur', fz', e1, ef, e2, e3, e4, e5, e6⟩ := hO2 pl hp
  rw [hg] at e1; cases e1
  have hszo : ∀ e ∈ olds, e.cells.length = sz := fun e he => hsz e (by simp [he])
  have hszn : ∀ e ∈ news, e.cells.length = sz := fun e he => hsz e (by simp [he])
  have hnl : nv.length = news.length * sz := by rw [← hv.1, flat_length hszn]
  have hfit : (olds ++ news).length * sz ≤ cur.size := Nat.le_trans (Nat.mul_le_mul_right _ hc) e3
  have hadd : (olds ++ news).length * sz = olds.length * sz + nv.length := by rw [List.length_append, Nat.add_mul, hnl]
  have hcs : cs.size = cur.size := by simp [cs]; omega
  have hoth : ∀ k, k ≠ pl.b → w'.heap[k]? = w.heap[k]? := fun k hk => setRow_other w pl.b k _ hk
  have hgot : w'.heap[pl.b]? = some (.cells cs t fz) := setRow_heap w pl.b cur _ t _ hg
  have hcell : ∀ i, w'.cell? ⟨pl.b, i, none⟩ = cs[i]? := fun i => cell_of_row w' pl.b i cs t fz hgot
  have hcell0 : ∀ i, w.cell? ⟨pl.b, i, none⟩ = cur[i]? := fun i => cell_of_row w pl.b i cur t fz hg
  have hlow : ∀ i, i < olds.length * sz → cs[i]? = cur[i]? := by
    intro i hi
    have : i < (cur.toList.take (olds.length * sz)).length := by simp; omega
    simp only [cs, List.getElem?_toArray]
    rw [List.append_assoc, List.getElem?_append_left this, List.getElem?_take, if_pos hi]
    simp
  have hmid : ∀ i v, nv[i]? = some v → cs[olds.length * sz + i]? = some v := by
    intro i v hi
    have hil : i < nv.length := (List.getElem?_eq_some_iff.1 hi).1
    have ht : (cur.toList.take (olds.length * sz)).length = olds.length * sz := by simp; omega
    simp only [cs, List.getElem?_toArray]
    rw [List.append_assoc, List.getElem?_append_right (by omega), ht, List.getElem?_append_left (by omega)]
    rw [show olds.length * sz + i - olds.length * sz = i by omega]
    exact hi
  have hl : Later ro w ro' w' := by
    intro b o h
    refine ⟨.inl h, ?_⟩
    by_cases e : b = pl.b
    · subst e
      have ho : o < olds.length * sz := by
        rcases Nat.lt_or_ge o (olds.length * sz) with h' | h'
        · exact h'
        · exact absurd h (e6 o h')
      rw [hcell, hcell0, hlow o ho]
    · exact cell_other (hoth b e)
  have g : Grew ι σ.ob ro w ι (upd σ.ob n (.row t sz (olds ++ news))) ro' w' := by
    refine ⟨hl, ?_, ?_, ?_, fun m b r c3 hc => ⟨b, c3, by simp [upd, show m ≠ n from fun e => by (subst e; rw [hn] at hc; cases hc), hc], rfl⟩⟩
    · intro m t' c hc'
      have e : m ≠ n := fun e => by subst e; rw [hn] at hc'; cases hc'
      exact ⟨c, by simp [upd, e, hc'], rfl⟩
    · intro m t' sz' es hc'
      by_cases e : m = n
      · subst e; rw [hn] at hc'; cases hc'
        exact ⟨news, by simp [upd], fun _ => rfl⟩
      · exact ⟨[], by simp [upd, e, hc'], fun _ => rfl⟩
    · intro m t' gn sz' es hc'
      have e : m ≠ n := fun e => by subst e; rw [hn] at hc'; cases hc'
      exact ⟨gn, es, by simp [upd, e, hc'], Nat.le_refl _, fun _ => ⟨rfl, rfl⟩⟩
  refine ⟨ro', ⟨keeps_setRow hS.keeps (hS.home n pl hp) _, hS.size, hS.defers.setRow hg _, fun k => (hS.slots k).grew g, ?_, ?_, hS.inj, hS.home, ?_, ?_, hS.gr.trans g⟩, ?_⟩
  · intro m o ho
    simp only [upd] at ho
    split at ho
    · rename_i e
      subst e; cases ho
      refine ⟨hsz, fun e => by (rw [hp] at e; cases e), fun q hq => ?_⟩
      rw [hp] at hq; cases hq
      refine ⟨cs, fz, hgot, by rw [hadd]; omega, e2, by rw [hcs]; exact e3, hc, e5, ?_⟩
      intro o ho hr
      rcases hr with hr | ⟨_, hr⟩
      · exact e6 o (by rw [hadd] at ho; omega) hr
      · omega
    · rename_i e
      have hne : ∀ q, ι m = some q → q.b ≠ pl.b := fun q hq e' => e (hS.inj m n q pl hq hp e')
      refine (hS.objs m o ho).moved g rfl (fun q hq => hoth _ (hne q hq)) ?_
      intro q o hq hr
      rcases hr with hr | ⟨hr, _⟩
      · exact hr
      · exact absurd hr (hne q hq)
  · intro m q hq
    obtain ⟨o, ho⟩ := hS.dom m q hq
    by_cases e : m = n
    · exact ⟨.row t sz (olds ++ news), by simp [upd, e]⟩
    · exact ⟨o, by simp [upd, e, ho]⟩
  · intro b o h
    show b < (w.setRow pl.b cs).heap.size
    rw [setRow_size]
    rcases h with h | ⟨h, _⟩
    · exact hS.rolt b o h
    · rw [h]; exact hS.lt hp
  · intro b o h
    rcases h with h | ⟨h, _⟩
    · exact hS.roold b o h
    · subst h
      exact .inr (hS.home n pl hp)
  · obtain ⟨_, _, _, f, hf⟩ := sl_cells (b := pl.b) (o := 0) hx (.inr rfl)
    refine .rs n _ t sz (olds ++ news) _ (by simp [upd]) (Nat.le_refl _) ?_ ?_ ?_
    · rw [List.take_length]
      have hfl : (olds.flatMap PV.cells).length = olds.length * sz := flat_length hszo
      have key : ∀ (i : Nat) p, ((olds ++ news).flatMap PV.cells)[i]? = some p → i < (olds ++ news).length * sz ∧ ∃ v, cs[i]? = some v ∧ v.oneCell' = true ∧ PRep ro w p v := by
        intro i p hpi
        rw [List.flatMap_append] at hpi
        rcases Nat.lt_or_ge i (olds.length * sz) with hi | hi
        · rw [List.getElem?_append_left (by omega)] at hpi
          obtain ⟨_, h2, h3, h4⟩ := hf i p hpi
          rw [Nat.zero_add, hcell0] at h2
          exact ⟨by omega, f i, by rw [hlow i hi]; exact h2, h3, h4⟩
        · rw [List.getElem?_append_right (by omega), hfl] at hpi
          have hlt : i - olds.length * sz < nv.length := by rw [← hv.1]; exact (List.getElem?_eq_some_iff.1 hpi).1
          have hvv : nv[i - olds.length * sz]? = some nv[i - olds.length * sz] := List.getElem?_eq_getElem hlt
          refine ⟨by omega, nv[i - olds.length * sz], ?_, h1 _ (List.getElem_mem _), hv.2 _ p _ hpi hvv⟩
          have := hmid _ _ hvv
          rwa [show olds.length * sz + (i - olds.length * sz) = i by omega] at this
      refine .sl none (olds ++ news) _ pl.c pl.b 0 sz (fun i => cs.getD i undef) (by intro q h; cases h) hc hmax e5 hsz (.inr rfl) ?_ ?_ ?_
      · intro i p hpi
        obtain ⟨h2, v, h3, _, _⟩ := key i p hpi
        rw [Nat.zero_add]
        refine ⟨.inr ⟨rfl, h2⟩, ?_⟩
        rw [hcell, h3]; simp [Array.getD_eq_getD_getElem?, h3]
      · intro i p hpi
        obtain ⟨h2, v, h3, h4, _⟩ := key i p hpi
        simpa [Array.getD_eq_getD_getElem?, h3] using h4
      · intro i p hpi
        obtain ⟨h2, v, h3, _, h5⟩ := key i p hpi
        have hgd : cs.getD i undef = v := by simp [Array.getD_eq_getD_getElem?, h3]
        show PRep ro' w' p (cs.getD i undef)
        rw [hgd]
        exact h5.later hl
    · intro _ h; rw [hp] at h; cases h
    · intro q _ h
      rw [hp] at h; cases h
      rw [e2]

end
end Cr
