/- Names of the caller and names of the function: what is told by the ones, told by the others. -/
import Derived.Test.YtndjoodgimomiaaDoorFw8
namespace Cr
open Go Go.RowKit

/-- The places, by the function's names. -/
def renP (ι : Places) (ρ : Nat → Nat) (ob' : Obs) : Places := fun n => match ob' n with
  | some _ => ι (ρ n)
  | none => none

theorem renP_some {ι : Places} {ρ : Nat → Nat} {ob' : Obs} {n : Nat} {o : Ob} (h : ob' n = some o) : renP ι ρ ob' n = ι (ρ n) := by simp [renP, h]

section
variable {ob ob' : Obs} {ρ : Nat → Nat} {ι : Places} {ro : RO} {w : World}

theorem MA.rep (hs : Sub ob ρ ob') {v v' : AV} (hm : MA ob ρ ob' v v') : ∀ {x : Value}, ARep ι ob ro w v x → ARep (renP ι ρ ob') ob' ro w v' x := by
  induction hm with
  | any v => exact fun _ => .any _
  | pv v p p' h hl => exact fun hr => .pv _ _ (hl _ _ _ (hr.toPV h))
  | ptr n off t cs h =>
    intro x hr
    cases hr with
    | ptr _ _ pl t2 cs2 h1 h2 h3 => exact .ptr n off pl t cs ((renP_some h).trans h1) h h3
  | rs n len t sz es h =>
    intro x hr
    have hm : ob (ρ n) = some (.row t sz es) := hs.obj n _ h
    cases hr with
    | rs _ _ t2 sz2 es2 _ ho hl hp hfull hown =>
      rw [hm] at ho; cases ho
      exact .rs n len t sz es x h hl hp (fun e hn => hfull e ((renP_some h).symm.trans hn)) (fun pl e hn => hown pl e ((renP_some h).symm.trans hn))
  | sa n gen off len cap t g sz cs h =>
    intro x hr
    obtain ⟨cs0, hm, hms⟩ := hs.obj n _ h
    cases hr with
    | sa _ _ _ _ _ t2 g2 sz2 es2 _ ho hg hx hh =>
      rw [hm] at ho; cases ho
      exact .sa n gen off len cap t g sz cs x h hg hx fun e => by rw [renP_some h, ← hms.1]; exact hh e
  | pe n gen c t g sz cs h =>
    intro x hr
    obtain ⟨cs0, hm, hms⟩ := hs.obj n _ h
    cases hr with
    | pe _ _ _ t2 g2 sz2 es2 _ ho hg hx hh =>
      rw [hm] at ho; cases ho
      exact .pe n gen c t g sz cs x h hg hx fun e => by rw [renP_some h, ← hms.1]; exact hh e
  | yf n b r cs h =>
    intro x hr
    obtain ⟨cs0, hm, hms⟩ := hs.obj n _ h
    cases hr with
    | yf _ b2 r2 cs2 pl ho hp =>
      rw [hm] at ho; cases ho
      exact .yf n b r cs pl h ((renP_some h).trans hp)
  | rh n len t sz es h =>
    intro x hr
    have hm : ob (ρ n) = some (.row t sz es) := hs.obj n _ h
    cases hr with
    | rh _ _ t2 sz2 es2 _ ho hl hx hown =>
      rw [hm] at ho; cases ho
      exact .rh n len t sz es x h hl hx (fun pl e hn => hown pl e ((renP_some h).symm.trans hn))
  | fn f cs cs' hl h ih =>
    intro x hr
    cases hr with
    | fn _ _ xs hl2 hrep =>
      refine .fn f cs' xs (hl ▸ hl2) fun i p' y hp' hy => ?_
      have hi : i < cs.length := by rw [hl]; exact (List.getElem?_eq_some_iff.1 hp').1
      exact ih i _ p' (List.getElem?_eq_getElem hi) hp' (hrep i _ y (List.getElem?_eq_getElem hi) hy)
  | ag cs cs' hl h ih =>
    intro x hr
    cases hr with
    | ag _ xs hl2 h1 hrep =>
      refine .ag cs' xs (hl ▸ hl2) h1 fun i p' y hp' hy => ?_
      have hi : i < cs.length := by rw [hl]; exact (List.getElem?_eq_some_iff.1 hp').1
      exact ih i _ p' (List.getElem?_eq_getElem hi) hp' (hrep i _ y (List.getElem?_eq_getElem hi) hy)
  | tup cs cs' hl h ih =>
    intro x hr
    cases hr with
    | tup _ xs hl2 hrep =>
      refine .tup cs' xs (hl ▸ hl2) fun i p' y hp' hy => ?_
      have hi : i < cs.length := by rw [hl]; exact (List.getElem?_eq_some_iff.1 hp').1
      exact ih i _ p' (List.getElem?_eq_getElem hi) hp' (hrep i _ y (List.getElem?_eq_getElem hi) hy)

theorem MAs.rep (hs : Sub ob ρ ob') {cs cs' : List AV} (hm : MAs ob ρ ob' cs cs') {xs : List Value} (h : RepAll ι ob ro w cs xs) : RepAll (renP ι ρ ob') ob' ro w cs' xs := by
  refine ⟨hm.1 ▸ h.1, fun i p' y hp' hy => ?_⟩
  have hi : i < cs.length := by rw [hm.1]; exact (List.getElem?_eq_some_iff.1 hp').1
  exact (hm.2 i _ p' (List.getElem?_eq_getElem hi) hp').rep hs (h.2 i _ y (List.getElem?_eq_getElem hi) hy)

theorem repAll_pvs {ι ι' : Places} {ob ob' : Obs} {ps : List PV} {vs : List Value} (h : RepAll ι ob ro w (ps.map .pv) vs) : RepAll ι' ob' ro w (ps.map .pv) vs := by
  refine ⟨h.1, fun i p x hp hx => ?_⟩
  have hk := h.2 i p x hp hx
  simp at hp
  obtain ⟨q, hq, rfl⟩ := hp
  cases hk with
  | pv _ _ h => exact .pv _ _ h

theorem MO.has (hs : Sub ob ρ ob') (hobj : ∀ n o, ob n = some o → OHas ι ob ro w n o) {n : Nat} {o : Ob} (ho : ob' n = some o) : OHas (renP ι ρ ob') ob' ro w n o := by
  have hm := hs.obj n o ho
  cases o with
  | box t cs' =>
    obtain ⟨cs, h1, h2⟩ := hm
    obtain ⟨pl, cur, e1, e2, e3, e4, e5, e6⟩ := hobj _ _ h1
    exact ⟨pl, cur, (renP_some ho).trans e1, e2, e3, h2.rep hs e4, e5, e6⟩
  | row t sz es =>
    obtain ⟨e1, e0, e2⟩ := hobj _ _ hm
    exact ⟨e1, fun e => e0 ((renP_some ho).symm.trans e), fun pl hp => e2 pl ((renP_some ho).symm.trans hp)⟩
  | arr t g sz cs' =>
    obtain ⟨cs, h1, h2⟩ := hm
    obtain ⟨e3, e4⟩ := hobj _ _ h1
    refine ⟨fun e => ?_, fun pl hp => ?_⟩
    · have := e3 ((renP_some ho).symm.trans e)
      have hl := h2.1
      rw [this] at hl
      exact List.length_eq_zero_iff.mp hl.symm
    · obtain ⟨cur, k1, k2, k3, k4, k5, k6, k8, k9⟩ := e4 pl ((renP_some ho).symm.trans hp)
      rw [h2.1] at k4 k8
      exact ⟨cur, k1, k2, k3, k4, k5, k6, h2.rep hs k8, k9⟩
  | lrec b r cs' =>
    obtain ⟨cs, h1, h2⟩ := hm
    obtain ⟨pl, e1, e2, e3⟩ := hobj _ _ h1
    exact ⟨pl, (renP_some ho).trans e1, e2, h2.rep hs e3⟩

/-- The objects that are handed over, as the function finds them. -/
theorem Sub.has {E : Ent} (hs : Sub ob ρ ob') (h : Has E ob w ι ro) : Has ⟨w, ro, renP ι ρ ob', ob'⟩ ob' w (renP ι ρ ob') ro := by
  have key : ∀ n pl, renP ι ρ ob' n = some pl → ∃ o, ob' n = some o ∧ ι (ρ n) = some pl := by
    intro n pl e
    simp only [renP] at e
    split at e
    · rename_i o ho; exact ⟨o, ho, e⟩
    · cases e
  refine ⟨.refl _ _, fun n o ho => MO.has hs h.objs ho, fun n pl e => ?_, ?_, ?_, h.rolt, fun b o hb => .inl hb, .refl _ _ _ _⟩
  · obtain ⟨o, ho, _⟩ := key n pl e; exact ⟨o, ho⟩
  · intro n m p q hn hm e
    obtain ⟨o1, h1, h2⟩ := key n p hn
    obtain ⟨o3, h3, h4⟩ := key m q hm
    exact hs.inj n m o1 o3 h1 h3 (h.inj _ _ p q h2 h4 e)
  · intro n p hn; exact .inl ⟨n, p, hn, rfl⟩

end

/-! ### Back to the caller -/

section
variable {ob ob1 ob2 ob3 : Obs} {ρ ρ' : Nat → Nat} {ι ι2 ι3 : Places} {ro ro' : RO} {w w' : World}

theorem ARep.ren (h : ∀ n o, ob2 n = some o → ob3 (ρ' n) = some (o.ren ρ') ∧ ι3 (ρ' n) = ι2 n) {v : AV} {x : Value} (hr : ARep ι2 ob2 ro' w' v x) : ARep ι3 ob3 ro' w' (v.ren ρ') x := by
  induction hr with
  | any x => simp only [AV.ren]; exact .any x
  | pv p x hp => simp only [AV.ren]; exact .pv p x hp
  | ptr n off pl t cs h1 h2 h3 =>
    simp only [AV.ren]
    obtain ⟨k1, k2⟩ := h n _ h2
    exact .ptr _ off pl t _ (k2.trans h1) k1 h3
  | rs n len t sz es x ho hl hp hfull hown =>
    simp only [AV.ren]
    obtain ⟨k1, k2⟩ := h n _ ho
    exact .rs _ len t sz es x k1 hl hp (fun e hn => hfull e (k2.symm.trans hn)) (fun pl e hn => hown pl e (k2.symm.trans hn))
  | sa n gen off len cap t g sz es x ho hg hx hh =>
    simp only [AV.ren]
    obtain ⟨k1, k2⟩ := h n _ ho
    exact .sa _ gen off len cap t g sz _ x k1 hg hx fun e => by rw [k2, List.length_map]; exact hh e
  | pe n gen c t g sz es x ho hg hx hh =>
    simp only [AV.ren]
    obtain ⟨k1, k2⟩ := h n _ ho
    exact .pe _ gen c t g sz _ x k1 hg hx fun e => by rw [k2, List.length_map]; exact hh e
  | yf n b r cs pl ho hp =>
    simp only [AV.ren]
    obtain ⟨k1, k2⟩ := h n _ ho
    exact .yf _ b r _ pl k1 (k2.trans hp)
  | rh n len t sz es x ho hl hx hown =>
    simp only [AV.ren]
    obtain ⟨k1, k2⟩ := h n _ ho
    exact .rh _ len t sz es x k1 hl hx (fun pl e hn => hown pl e (k2.symm.trans hn))
  | fn f caps xs hl hrep ih =>
    simp only [AV.ren]
    refine .fn f _ xs (by simpa using hl) fun i p y hp hy => ?_
    simp at hp
    obtain ⟨q, hq, rfl⟩ := hp
    exact ih i q y hq hy
  | ag cs xs hl h1 hrep ih =>
    simp only [AV.ren]
    refine .ag _ xs (by simpa using hl) h1 fun i p y hp hy => ?_
    simp at hp
    obtain ⟨q, hq, rfl⟩ := hp
    exact ih i q y hq hy
  | tup cs xs hl hrep ih =>
    simp only [AV.ren]
    refine .tup _ xs (by simpa using hl) fun i p y hp hy => ?_
    simp at hp
    obtain ⟨q, hq, rfl⟩ := hp
    exact ih i q y hq hy

theorem RepAll.ren (h : ∀ n o, ob2 n = some o → ob3 (ρ' n) = some (o.ren ρ') ∧ ι3 (ρ' n) = ι2 n) {cs : List AV} {xs : List Value} (hr : RepAll ι2 ob2 ro' w' cs xs) : RepAll ι3 ob3 ro' w' (cs.map (AV.ren ρ')) xs := by
  refine ⟨by simpa using hr.1, fun i p y hp hy => ?_⟩
  simp at hp
  obtain ⟨q, hq, rfl⟩ := hp
  exact (hr.2 i q y hq hy).ren h

theorem OHas.ren (h : ∀ n o, ob2 n = some o → ob3 (ρ' n) = some (o.ren ρ') ∧ ι3 (ρ' n) = ι2 n) {n : Nat} {o : Ob} (hn : ob2 n = some o) (ho : OHas ι2 ob2 ro' w' n o) : OHas ι3 ob3 ro' w' (ρ' n) (o.ren ρ') := by
  obtain ⟨_, k2⟩ := h n o hn
  cases o with
  | box t cs =>
    obtain ⟨pl, cur, e1, e2, e3, e4, e5, e6⟩ := ho
    exact ⟨pl, cur, k2.trans e1, e2, e3, e4.ren h, e5, e6⟩
  | row t sz es => exact ⟨ho.1, fun e => ho.2.1 (k2.symm.trans e), fun pl hp => ho.2.2 pl (k2.symm.trans hp)⟩
  | arr t g sz cs =>
    refine ⟨fun e => by rw [ho.1 (k2.symm.trans e)]; rfl, fun pl hp => ?_⟩
    obtain ⟨cur, h1, h2, h3, h4, h5, h6, h8, h9⟩ := ho.2 pl (k2.symm.trans hp)
    refine ⟨cur, h1, h2, h3, by rw [List.length_map]; exact h4, h5, h6, ?_, h9⟩
    rw [List.length_map]; exact h8.ren h
  | lrec b r cs =>
    obtain ⟨pl, e1, e2, e3⟩ := ho
    exact ⟨pl, k2.trans e1, e2, e3.ren h⟩

open Classical in
/-- The caller's places behind the call. -/
noncomputable def backP (ι : Places) (ρ' : Nat → Nat) (ob2 : Obs) (ι2 : Places) : Places := fun m =>
  if h : ∃ n, (ob2 n).isSome = true ∧ ρ' n = m then ι2 h.choose else ι m

theorem backP_here (hi : ∀ n m o p, ob2 n = some o → ob2 m = some p → ρ' n = ρ' m → n = m) {n : Nat} {o : Ob} (hn : ob2 n = some o) : backP ι ρ' ob2 ι2 (ρ' n) = ι2 n := by
  have h : ∃ k, (ob2 k).isSome = true ∧ ρ' k = ρ' n := ⟨n, by simp [hn], rfl⟩
  simp only [backP]
  rw [dif_pos h]
  obtain ⟨h1, h2⟩ := h.choose_spec
  obtain ⟨o', ho'⟩ := Option.isSome_iff_exists.mp h1
  rw [hi _ _ _ _ ho' hn h2]

theorem backP_other {m : Nat} (h : ∀ n o, ob2 n = some o → ρ' n ≠ m) : backP ι ρ' ob2 ι2 m = ι m := by
  simp only [backP]
  rw [dif_neg]
  rintro ⟨n, h1, h2⟩
  obtain ⟨o, ho⟩ := Option.isSome_iff_exists.mp h1
  exact h n o ho h2

theorem back_has {E : Ent} (hs : Sub ob ρ ob1) (h : Has E ob w ι ro) (hb : Back ob ρ ob1 ρ' ob2 ob3) (h2 : Has ⟨w, ro, renP ι ρ ob1, ob1⟩ ob2 w' ι2 ro') :
    ∃ ι3, Has E ob3 w' ι3 ro' ∧ Grew ι ob ro w ι3 ob3 ro' w' ∧ (∀ n o, ob2 n = some o → ob3 (ρ' n) = some (o.ren ρ') ∧ ι3 (ρ' n) = ι2 n) := by
  have hlt : ∀ n pl, ι n = some pl → pl.b < w.heap.size := by
    intro n pl hn
    obtain ⟨o, ho⟩ := h.dom n pl hn
    have := h.objs n o ho
    cases o with
    | box t cs =>
      obtain ⟨pl', cur, e1, _, e3, _⟩ := this
      rw [hn] at e1; cases e1
      exact (Array.getElem?_eq_some_iff.1 e3).1
    | row t sz es =>
      obtain ⟨cur, fz, e3, _⟩ := this.2.2 pl hn
      exact (Array.getElem?_eq_some_iff.1 e3).1
    | arr t g sz es =>
      obtain ⟨cur, e3, _⟩ := this.2 pl hn
      exact (Array.getElem?_eq_some_iff.1 e3).1
    | lrec b r cs =>
      obtain ⟨pl', e1, e3, _⟩ := this
      rw [hn] at e1; cases e1
      exact (Array.getElem?_eq_some_iff.1 e3).1
  have kB : ∀ b, Ent.B ⟨w, ro, renP ι ρ ob1, ob1⟩ b → ∃ n o pl, ob1 n = some o ∧ ι (ρ n) = some pl ∧ pl.b = b := by
    rintro b ⟨n, pl, e, rfl⟩
    simp only [renP] at e
    split at e
    · rename_i o ho; exact ⟨n, o, pl, ho, e, rfl⟩
    · cases e
  have keep : ∀ n o, ob1 n = some o → ∃ o', ob2 n = some o' := by
    intro n o ho
    cases o with
    | box t cs => obtain ⟨c, e, _⟩ := h2.gr.box n t cs ho; exact ⟨_, e⟩
    | row t sz es => obtain ⟨c, e, _⟩ := h2.gr.row n t sz es ho; exact ⟨_, e⟩
    | arr t g sz es => obtain ⟨g', c, e, _⟩ := h2.gr.arr n t g sz es ho; exact ⟨_, e⟩
    | lrec b r cs => obtain ⟨b', cs', e, _⟩ := h2.gr.lrec n b r cs ho; exact ⟨_, e⟩
  have hereP : ∀ n o, ob2 n = some o → backP ι ρ' ob2 ι2 (ρ' n) = ι2 n := fun n o hn => backP_here hb.inj hn
  have hren : ∀ n o, ob2 n = some o → ob3 (ρ' n) = some (o.ren ρ') ∧ backP ι ρ' ob2 ι2 (ρ' n) = ι2 n := fun n o hn => ⟨hb.here n o hn, hereP n o hn⟩
  have which : ∀ m, (∃ n o, ob2 n = some o ∧ ρ' n = m) ∨ (∀ n o, ob2 n = some o → ρ' n ≠ m) := by
    intro m
    by_cases e : ∃ n o, ob2 n = some o ∧ ρ' n = m
    · exact .inl e
    · exact .inr fun n o hn hm => e ⟨n, o, hn, hm⟩
  -- what was not handed over lies where it lay
  have hother : ∀ m o pl, (∀ n o, ob2 n = some o → ρ' n ≠ m) → ob m = some o → ι m = some pl → ¬ Ent.B ⟨w, ro, renP ι ρ ob1, ob1⟩ pl.b := by
    intro m o pl hm ho hp hB
    obtain ⟨n, o1, pl1, h1, h3, h4⟩ := kB _ hB
    have := h.inj _ _ _ _ h3 hp h4
    obtain ⟨o', ho'⟩ := keep n o1 h1
    exact hm n o' ho' ((hb.same n o1 h1).trans this)
  have hl : Later ro w ro' w' := h2.gr.later
  have handed : ∀ m o, ob m = some o → (∃ n o1, ob1 n = some o1 ∧ ρ n = m) ∨ (∀ n o, ob2 n = some o → ρ' n ≠ m) := by
    intro m o ho
    rcases which m with ⟨n, o', hn, hm⟩ | hm
    · cases hn1 : ob1 n with
      | none => have := hb.fresh n o' hn hn1; rw [hm, ho] at this; cases this
      | some o1 => exact .inl ⟨n, o1, hn1, by rw [← hm, hb.same n o1 hn1]⟩
    · exact .inr hm
  have g : Grew ι ob ro w (backP ι ρ' ob2 ι2) ob3 ro' w' := by
    refine ⟨hl, ?_, ?_, ?_, ?_⟩
    · intro m t cs hc
      rcases handed m _ hc with ⟨n, o1, hn, rfl⟩ | hm
      · have hmo := hs.obj n o1 hn
        cases o1 with
        | box t1 c1 =>
          obtain ⟨c0, e0, _⟩ := hmo
          rw [e0] at hc; cases hc
          obtain ⟨c2, e1, e2⟩ := h2.gr.box n t c1 hn
          obtain ⟨k1, k2⟩ := hren n _ e1
          rw [hb.same n _ hn] at k1 k2
          exact ⟨_, k1, k2.trans (e2.trans (renP_some hn))⟩
        | row t1 sz es => rw [show ob (ρ n) = some (.row t1 sz es) from hmo] at hc; cases hc
        | arr t1 g sz es => obtain ⟨c0, e0, _⟩ := hmo; rw [e0] at hc; cases hc
        | lrec b r cs3 => obtain ⟨c0, e0, _⟩ := hmo; rw [e0] at hc; cases hc
      · exact ⟨cs, (hb.other m hm).trans hc, backP_other hm⟩
    · intro m t sz es hc
      rcases handed m _ hc with ⟨n, o1, hn, rfl⟩ | hm
      · have hmo := hs.obj n o1 hn
        cases o1 with
        | box t1 c1 => obtain ⟨c, e, _⟩ := hmo; rw [e] at hc; cases hc
        | row t1 sz1 es1 =>
          rw [show ob (ρ n) = some (.row t1 sz1 es1) from hmo] at hc; cases hc
          obtain ⟨es', e1, e2⟩ := h2.gr.row n _ _ _ hn
          obtain ⟨k1, k2⟩ := hren n _ e1
          rw [hb.same n _ hn] at k1 k2
          exact ⟨es', k1, fun e => k2.trans ((e2 e).trans (renP_some hn))⟩
        | arr t1 g sz es => obtain ⟨c0, e0, _⟩ := hmo; rw [e0] at hc; cases hc
        | lrec b r cs3 => obtain ⟨c0, e0, _⟩ := hmo; rw [e0] at hc; cases hc
      · exact ⟨[], by rw [List.append_nil]; exact (hb.other m hm).trans hc, fun _ => backP_other hm⟩
    · intro m t gn sz es hc
      rcases handed m _ hc with ⟨n, o1, hn, rfl⟩ | hm
      · have hmo := hs.obj n o1 hn
        cases o1 with
        | box t1 c1 => obtain ⟨c, e, _⟩ := hmo; rw [e] at hc; cases hc
        | row t1 sz1 es1 => rw [show ob (ρ n) = some (.row t1 sz1 es1) from hmo] at hc; cases hc
        | arr t1 g1 sz1 es1 =>
          obtain ⟨c0, e0, hms⟩ := hmo; rw [e0] at hc; cases hc
          obtain ⟨g', es', e1, e2, e3⟩ := h2.gr.arr n _ _ _ _ hn
          obtain ⟨k1, k2⟩ := hren n _ e1
          rw [hb.same n _ hn] at k1 k2
          exact ⟨g', _, k1, e2, fun e => ⟨by rw [List.length_map, (e3 e).1, hms.1], k2.trans ((e3 e).2.trans (renP_some hn))⟩⟩
        | lrec b r cs3 => obtain ⟨c0, e0, _⟩ := hmo; rw [e0] at hc; cases hc
      · exact ⟨gn, es, (hb.other m hm).trans hc, Nat.le_refl _, fun _ => ⟨rfl, backP_other hm⟩⟩
    · intro m b r cs hc
      rcases handed m _ hc with ⟨n, o1, hn, rfl⟩ | hm
      · have hmo := hs.obj n o1 hn
        cases o1 with
        | box t1 c1 => obtain ⟨c, e, _⟩ := hmo; rw [e] at hc; cases hc
        | row t1 sz1 es1 => rw [show ob (ρ n) = some (.row t1 sz1 es1) from hmo] at hc; cases hc
        | arr t1 g1 sz1 es1 => obtain ⟨c0, e0, _⟩ := hmo; rw [e0] at hc; cases hc
        | lrec b1 r1 cs1 =>
          obtain ⟨c0, e0, _⟩ := hmo; rw [e0] at hc; cases hc
          obtain ⟨b', cs', e1, e2⟩ := h2.gr.lrec n _ _ _ hn
          obtain ⟨k1, k2⟩ := hren n _ e1
          rw [hb.same n _ hn] at k1 k2
          exact ⟨b', _, k1, k2.trans (e2.trans (renP_some hn))⟩
      · exact ⟨b, cs, (hb.other m hm).trans hc, backP_other hm⟩
  have hsize : w.heap.size ≤ w'.heap.size := h2.keeps.size
  have domB : ∀ b, Ent.B ⟨w, ro, renP ι ρ ob1, ob1⟩ b → E.B b ∨ E.w0.heap.size ≤ b := by
    intro b hB
    obtain ⟨n, o, pl, _, h3, rfl⟩ := kB b hB
    exact h.home _ _ h3
  refine ⟨backP ι ρ' ob2 ι2, ⟨?_, ?_, ?_, ?_, ?_, h2.rolt, ?_, h.gr.trans g⟩, g, hren⟩
  · refine ⟨h2.keeps.os.trans h.keeps.os, h2.keeps.tape.trans h.keeps.tape, h2.keeps.output.trans h.keeps.output, Nat.le_trans h.keeps.size h2.keeps.size, fun k hk hB => (h2.keeps.block k (Nat.lt_of_lt_of_le hk h.keeps.size) fun hB' => ?_).trans (h.keeps.block k hk hB)⟩
    rcases domB k hB' with hh | hh
    · exact hB hh
    · omega
  · intro m o ho
    rcases which m with ⟨n, o', hn, rfl⟩ | hm
    · obtain ⟨k1, _⟩ := hren n o' hn
      rw [k1] at ho; cases ho
      exact (h2.objs n o' hn).ren hren hn
    · have ho' : ob m = some o := (hb.other m hm).symm.trans ho
      refine (h.objs m o ho').moved g (backP_other hm) (fun pl hp => ?_) (fun pl oo hp hr => ?_)
      · exact h2.keeps.block _ (hlt m pl hp) (hother m o pl hm ho' hp)
      · rcases h2.roold _ _ hr with e | e | e
        · exact e
        · exact absurd e (hother m o pl hm ho' hp)
        · have := hlt m pl hp; simp at e; omega
  · intro m pl hp
    rcases which m with ⟨n, o', hn, rfl⟩ | hm
    · exact ⟨_, (hren n o' hn).1⟩
    · rw [backP_other hm] at hp
      obtain ⟨o, ho⟩ := h.dom m pl hp
      exact ⟨o, (hb.other m hm).trans ho⟩
  · intro m k p q hm hk e
    have new : ∀ n o pl, ob2 n = some o → ι2 n = some pl → ∀ k q, (∀ n o, ob2 n = some o → ρ' n ≠ k) → ι k = some q → pl.b ≠ q.b := by
      intro n o pl hn hp k q hk hq e
      obtain ⟨ok, hok⟩ := h.dom k q hq
      rcases h2.home n pl hp with hB | hB
      · exact hother k ok q hk hok hq (e ▸ hB)
      · have := hlt k q hq; simp at hB; omega
    rcases which m with ⟨n, o, hn, rfl⟩ | hm' <;> rcases which k with ⟨n2, o2, hn2, rfl⟩ | hk'
    · rw [hereP n o hn] at hm; rw [hereP n2 o2 hn2] at hk
      rw [h2.inj n n2 p q hm hk e]
    · rw [hereP n o hn] at hm; rw [backP_other hk'] at hk
      exact absurd e (new n o p hn hm k q hk' hk)
    · rw [backP_other hm'] at hm; rw [hereP n2 o2 hn2] at hk
      exact absurd e.symm (new n2 o2 q hn2 hk m p hm' hm)
    · rw [backP_other hm'] at hm; rw [backP_other hk'] at hk
      exact h.inj m k p q hm hk e
  · intro m p hp
    rcases which m with ⟨n, o, hn, rfl⟩ | hm
    · rw [hereP n o hn] at hp
      rcases h2.home n p hp with hB | hB
      · exact domB _ hB
      · exact .inr (Nat.le_trans h.keeps.size hB)
    · rw [backP_other hm] at hp; exact h.home m p hp
  · intro b o hr
    rcases h2.roold b o hr with e | e | e
    · exact h.roold b o e
    · exact .inr (domB b e)
    · exact .inr (.inr (Nat.le_trans h.keeps.size e))

end
end Cr
