/- A range over a function: the loop's body and the function it ranges over, each walked over abstract states. -/
import Derived.Test.YtndjoodgimomiaaDoorFw19
namespace Cr
open Go Go.RowKit

section
variable {P : Program} {E : Ent} {ob ob' : Obs} {ι ι' : Places} {ro ro' : RO} {w w' : World}

theorem Has.lt (h : Has E ob w ι ro) {n : Nat} {pl : Place} (hp : ι n = some pl) : pl.b < w.heap.size := by
  obtain ⟨o, ho⟩ := h.dom n pl hp
  exact (h.objs n o ho).lt (σ := ⟨fun _ => .any, ob⟩) hp

/-- From here on, seen from before. -/
theorem Has.trans (h : Has E ob w ι ro) (k : Has ⟨w, ro, ι, ob⟩ ob' w' ι' ro') : Has E ob' w' ι' ro' := by
  have hB : ∀ b, Ent.B ⟨w, ro, ι, ob⟩ b → E.B b ∨ E.w0.heap.size ≤ b := by
    rintro b ⟨n, pl, hn, rfl⟩
    exact h.home n pl hn
  refine ⟨⟨k.keeps.os.trans h.keeps.os, k.keeps.tape.trans h.keeps.tape, k.keeps.output.trans h.keeps.output, Nat.le_trans h.keeps.size k.keeps.size, fun j hj hb => ?_⟩, k.objs, k.dom, k.inj, fun n p hn => ?_, k.rolt, fun b o hr => ?_, h.gr.trans k.gr⟩
  · refine (k.keeps.block j (Nat.lt_of_lt_of_le hj h.keeps.size) fun hB' => ?_).trans (h.keeps.block j hj hb)
    rcases hB j hB' with e | e
    · exact hb e
    · omega
  · rcases k.home n p hn with e | e
    · exact hB _ e
    · exact .inr (Nat.le_trans h.keeps.size e)
  · rcases k.roold b o hr with e | e | e
    · exact h.roold b o e
    · rcases hB _ e with e | e
      · exact .inr (.inl e)
      · exact .inr (.inr e)
    · exact .inr (.inr (Nat.le_trans h.keeps.size e))

theorem Has.self (h : Has E ob w ι ro) : Has ⟨w, ro, ι, ob⟩ ob w ι ro :=
  ⟨.refl _ _, h.objs, h.dom, h.inj, fun n p hn => .inl ⟨n, p, hn, rfl⟩, h.rolt, fun b o hr => .inl hr, .refl _ _ _ _⟩

theorem cell_of_noncells {w w' : World} {l : Nat} (h1 : ∀ k, k ≠ l → w'.heap[k]? = w.heap[k]?) {a b : Loop} (h2 : w.heap[l]? = some (.loop a)) (h3 : w'.heap[l]? = some (.loop b)) (k o : Nat) : w'.cell? ⟨k, o, none⟩ = w.cell? ⟨k, o, none⟩ := by
  by_cases e : k = l
  · subst e; simp only [World.cell?]; rw [h2, h3]
  · simp only [World.cell?]; rw [h1 k e]

/-- The record of a loop turns. -/
theorem Has.flip (h : Has E ob w ι ro) {n : Nat} {st : Nat} {r : Loop} {cs : List AV} (hn : ob n = some (.lrec st r cs)) {pl : Place} (hp : ι n = some pl) (st' : Nat) :
    Has E (upd ob n (.lrec st' r cs)) (w.putObj pl.b (lrecObj st' r)) ι ro := by
  obtain ⟨pl', e1, e2, e3⟩ := h.objs n _ hn
  rw [hp] at e1; cases e1
  have hlt := h.lt hp
  have hoth : ∀ k, k ≠ pl.b → (w.putObj pl.b (lrecObj st' r)).heap[k]? = w.heap[k]? := fun k hk => World.putObj_heap_other hk
  have hnew : (w.putObj pl.b (lrecObj st' r)).heap[pl.b]? = some (lrecObj st' r) := World.putObj_heap_same hlt
  have hl : Later ro w ro (w.putObj pl.b (lrecObj st' r)) := fun b o hr => ⟨hr, cell_of_noncells hoth e2 hnew b o⟩
  have g : Grew ι ob ro w ι (upd ob n (.lrec st' r cs)) ro (w.putObj pl.b (lrecObj st' r)) := by
    have hne : ∀ {m : Nat} {o : Ob}, ob m = some o → (∀ st r cs, o ≠ .lrec st r cs) → m ≠ n := fun ho hno e => by
      subst e; rw [hn] at ho; cases ho; exact hno _ _ _ rfl
    refine ⟨hl, ?_, ?_, ?_, ?_⟩
    · intro m t c hc
      exact ⟨c, by simp [upd, hne hc (by simp), hc], rfl⟩
    · intro m t sz es hc
      exact ⟨[], by simp [upd, hne hc (by simp), hc], fun _ => rfl⟩
    · intro m t gn sz es hc
      exact ⟨gn, es, by simp [upd, hne hc (by simp), hc], Nat.le_refl _, fun _ => ⟨rfl, rfl⟩⟩
    · intro m st2 r2 c2 hc
      by_cases e : m = n
      · subst e; rw [hn] at hc; cases hc; exact ⟨st', cs, by simp [upd], rfl⟩
      · exact ⟨st2, c2, by simp [upd, e, hc], rfl⟩
  refine ⟨⟨h.keeps.os, h.keeps.tape, h.keeps.output, by rw [World.putObj_size]; exact h.keeps.size, fun k hk hB => ?_⟩, ?_, ?_, h.inj, h.home, fun b o hr => by rw [World.putObj_size]; exact h.rolt b o hr, h.roold, h.gr.trans g⟩
  · rw [hoth k ?_]
    · exact h.keeps.block k hk hB
    · intro e; subst e
      rcases h.home n pl hp with e | e
      · exact hB e
      · omega
  · intro m o ho
    simp only [upd] at ho
    split at ho
    · rename_i e
      subst e; cases ho
      exact ⟨pl, hp, hnew, e3.grew g⟩
    · rename_i e
      exact (h.objs m o ho).moved g rfl (fun q hq => hoth q.b fun e' => e (h.inj m n q pl hq hp e')) (fun _ _ _ h => h)
  · intro m q hq
    obtain ⟨o, ho⟩ := h.dom m q hq
    by_cases e : m = n
    · exact ⟨_, by simp [upd, e]; rfl⟩
    · exact ⟨o, by simp [upd, e, ho]⟩

/-- A block that nobody names turns. -/
theorem Has.putOther (h : Has E ob w ι ro) {l : Nat} {a b : Loop} (hl : w.heap[l]? = some (.loop a)) (hno : ∀ n pl, ι n = some pl → pl.b ≠ l) (hE : E.w0.heap.size ≤ l) : Has E ob (w.putObj l (.loop b)) ι ro := by
  have hlt := (Array.getElem?_eq_some_iff.1 hl).1
  have hoth : ∀ k, k ≠ l → (w.putObj l (.loop b)).heap[k]? = w.heap[k]? := fun k hk => World.putObj_heap_other hk
  have hnew : (w.putObj l (.loop b)).heap[l]? = some (.loop b) := World.putObj_heap_same hlt
  have hla : Later ro w ro (w.putObj l (.loop b)) := fun c o hr => ⟨hr, cell_of_noncells hoth hl hnew c o⟩
  have g : Grew ι ob ro w ι ob ro (w.putObj l (.loop b)) := grew_of_below hla
  refine ⟨⟨h.keeps.os, h.keeps.tape, h.keeps.output, by rw [World.putObj_size]; exact h.keeps.size, fun k hk hB => ?_⟩, ?_, h.dom, h.inj, h.home, fun b o hr => by rw [World.putObj_size]; exact h.rolt b o hr, h.roold, h.gr.trans g⟩
  · rw [hoth k (by omega)]; exact h.keeps.block k hk hB
  · intro m o ho
    exact (h.objs m o ho).moved g rfl (fun q hq => hoth q.b (hno m q hq)) (fun _ _ _ h => h)

/-- A loop's record is laid. -/
theorem Has.addRec (h : Has E ob w ι ro) {n : Nat} (hn : ob n = none) {r : Loop} {cs : List AV} (hcs : RepAll ι ob ro w cs r.tmps.toList) :
    Has E (upd ob n (.lrec 0 r cs)) ((w.alloc (.deferred (some []))).alloc (lrecObj 0 r)) (fun m => if m = n then some ⟨w.heap.size + 1, 0, 0⟩ else ι m) ro ∧
    Grew ι ob ro w (fun m => if m = n then some ⟨w.heap.size + 1, 0, 0⟩ else ι m) (upd ob n (.lrec 0 r cs)) ro ((w.alloc (.deferred (some []))).alloc (lrecObj 0 r)) := by
  let w1 := (w.alloc (.deferred (some []))).alloc (lrecObj 0 r)
  let ι' : Places := fun m => if m = n then some ⟨w.heap.size + 1, 0, 0⟩ else ι m
  have hold : ∀ k, k < w.heap.size → w1.heap[k]? = w.heap[k]? := fun k hk => (Below.heap_alloc _ _ k (by simp; omega)).trans (Below.heap_alloc w _ k hk)
  have hnew : w1.heap[w.heap.size + 1]? = some (lrecObj 0 r) := by
    have := World.alloc_heap_new (w.alloc (.deferred (some []))) (lrecObj 0 r)
    rwa [World.size_alloc] at this
  have hne : ∀ {m : Nat} {o : Ob}, ob m = some o → m ≠ n := fun ho e => by subst e; rw [hn] at ho; cases ho
  have hl : Later ro w ro w1 := fun b o hr => ⟨hr, cell_other (hold b (h.rolt b o hr))⟩
  have g : Grew ι ob ro w ι' (upd ob n (.lrec 0 r cs)) ro w1 := by
    refine ⟨hl, ?_, ?_, ?_, ?_⟩
    · intro m t c hc
      exact ⟨c, by simp [upd, hne hc, hc], by simp [ι', hne hc]⟩
    · intro m t sz es hc
      exact ⟨[], by simp [upd, hne hc, hc], fun _ => by simp [ι', hne hc]⟩
    · intro m t gn sz es hc
      exact ⟨gn, es, by simp [upd, hne hc, hc], Nat.le_refl _, fun _ => ⟨rfl, by simp [ι', hne hc]⟩⟩
    · intro m st2 r2 c2 hc
      exact ⟨st2, c2, by simp [upd, hne hc, hc], by simp [ι', hne hc]⟩
  have hs1 : w1.heap.size = w.heap.size + 2 := by simp [w1]
  refine ⟨⟨⟨h.keeps.os, h.keeps.tape, h.keeps.output, by rw [hs1]; have := h.keeps.size; omega, fun k hk hB => (hold k (Nat.lt_of_lt_of_le hk h.keeps.size)).trans (h.keeps.block k hk hB)⟩, ?_, ?_, ?_, ?_, ?_, h.roold, h.gr.trans g⟩, g⟩
  · intro m o ho
    simp only [upd] at ho
    split at ho
    · rename_i e
      subst e; cases ho
      exact ⟨⟨w.heap.size + 1, 0, 0⟩, by simp, hnew, hcs.grew g⟩
    · rename_i e
      exact (h.objs m o ho).moved g (by simp [ι', e]) (fun q hq => hold _ (h.lt hq)) (fun _ _ _ h => h)
  · intro m q hq
    by_cases e : m = n
    · exact ⟨_, by simp [upd, e]; rfl⟩
    · obtain ⟨o, ho⟩ := h.dom m q (by simpa [e] using hq)
      exact ⟨o, by simp [upd, e, ho]⟩
  · intro m k p q hm hk e
    by_cases e1 : m = n <;> by_cases e2 : k = n
    · rw [e1, e2]
    · simp [e1] at hm; simp [e2] at hk; subst hm
      have := h.lt hk; simp at e; omega
    · simp [e1] at hm; simp [e2] at hk; subst hk
      have := h.lt hm; simp at e; omega
    · simp [e1] at hm; simp [e2] at hk
      exact h.inj m k p q hm hk e
  · intro m p hp
    by_cases e : m = n
    · simp [e] at hp; subst hp
      right; have := h.keeps.size; simp; omega
    · exact h.home m p (by simpa [e] using hp)
  · intro b o hr
    have := h.rolt b o hr
    rw [show ((w.alloc (.deferred (some []))).alloc (lrecObj 0 r)).heap.size = w.heap.size + 2 from hs1]; omega

end

/-! ### Rounds -/

def setL (l : List (Nat × AV)) : List Nat → List AV → List (Nat × AV)
  | k :: ks, v :: vs => setL (setk l k v) ks vs
  | _, _ => l
@[simp] theorem setL_nil (l : List (Nat × AV)) : setL l [] [] = l := (rfl)
@[simp] theorem setL_cons (l : List (Nat × AV)) (k : Nat) (v : AV) (ks : List Nat) (vs : List AV) : setL l (k :: ks) (v :: vs) = setL (setk l k v) ks vs := (rfl)

theorem setL_rep {ι : Places} {ob : Obs} {ro : RO} {w : World} {N : Nat} : ∀ (ps : List Nat) (args : List AV) (ys : List Value) (l : List (Nat × AV)) (t : Array Value), (∀ p ∈ ps, p < N) → t.size = N → (∀ k, ARep ι ob ro w (look l k) (t.getD k undef)) →
    RepAll ι ob ro w args ys → args.length = ps.length → ∀ k, ARep ι ob ro w (look (setL l ps args) k) (((ps.zip ys).foldl (fun t (p, v) => t.setIfInBounds p v) t).getD k undef)
  | [], [], ys, l, t, _, _, h, _, _ => h
  | p :: ps, v :: args, y :: ys, l, t, hp, ht, h, hr, hl => by
    refine setL_rep ps args ys (setk l p v) (t.setIfInBounds p y) (fun q hq => hp q (by simp [hq])) (by simpa using ht) ?_ ⟨by simpa using hr.1, fun i q x hq hx => hr.2 (i + 1) q x (by simpa using hq) (by simpa using hx)⟩ (by simpa using hl)
    intro k
    rw [look_setk, getD_put _ _ _ _ _ (by rw [ht]; exact hp p (by simp))]
    split
    · exact hr.2 0 v y rfl rfl
    · exact h k
  | [], _ :: _, _, _, _, _, _, _, _, hl => by simp at hl
  | _ :: _, [], _, _, _, _, _, _, _, hl => by simp at hl
  | _ :: _, _ :: _, [], _, _, _, _, _, hr, _ => by simp [RepAll] at hr

theorem foldl_size (ps : List Nat) (ys : List Value) : ∀ t : Array Value, ((ps.zip ys).foldl (fun t (p, v) => t.setIfInBounds p v) t).size = t.size := by
  induction ps generalizing ys with
  | nil => intro t; rfl
  | cons p ps ih =>
    intro t
    cases ys with
    | nil => rfl
    | cons y ys => simp only [List.zip_cons_cons, List.foldl_cons]; rw [ih]; simp

/-- The assignment to the loop's variables, over abstract states. -/
def AssignA (P : Program) (N : Nat) (ca : MCode) (l : List (Nat × AV)) (os : List (Nat × Ob)) (l1 : List (Nat × AV)) (os1 : List (Nat × Ob)) : Prop :=
  ∀ X : Ctx, X.P = P → X.N = N → X.E.ob0 = lookO os → X.awp ca (fun e σ => e = .normal ∧ Wk X.E σ (mk l1 os1)) (mk l os)
/-- One round's body; b: is it left by 'return'? -/
def BodyA (P : Program) (N : Nat) (cb : MCode) (os0 : List (Nat × Ob)) (l : List (Nat × AV)) (os : List (Nat × Ob)) (b : Bool) (os2 : List (Nat × Ob)) : Prop :=
  ∀ X : Ctx, X.P = P → X.N = N → X.E.ob0 = lookO os0 → X.awp cb (fun e σ => (e = .normal ∧ b = false ∨ e = .ret ∧ b = true) ∧ Sub σ.ob id (lookO os2) ∧ Holds X.E id (lookO os2)) (mk l os)

/-- A round: what yield's arguments and the objects are, and what comes of it. -/
structure Round (P : Program) (N : Nat) (ps : List Nat) (ca cb : MCode) (l : List (Nat × AV)) (nR : Nat) (r : Loop) (cs : List AV) (args : List AV) (os : List (Nat × Ob)) (b : Bool) (os2 : List (Nat × Ob)) : Prop where
  len : args.length = ps.length
  rec0 : lookO os nR = some (.lrec 0 r cs)
  rounds : ∃ l1 os1 c1 os3 c3, AssignA P N ca (setL l ps args) os l1 os1 ∧ lookO os1 nR = some (.lrec 0 r c1) ∧ BodyA P N cb os l1 (setk os1 nR (.lrec 2 r c1)) b os3 ∧ lookO os3 nR = some (.lrec 2 r c3) ∧ os2 = setk os3 nR (.lrec (if b then 1 else 0) r c3)

def yOf (nR : Nat) (R : List AV → List (Nat × Ob) → Bool → List (Nat × Ob) → Prop) : YRel := fun as os rs os2 => ∃ args b, as = .yf nR :: args ∧ rs = [.pv (.bool (!b))] ∧ R args os b os2

theorem fence_round (l : Nat) : (fenceOf none).inRound l = fenceOf (some l) := rfl

theorem yok_of {P : Program} {N : Nat} {ps : List Nat} {ca cb : MCode} {l : List (Nat × AV)} {nR : Nat} {r : Loop} {cs : List AV} {R : List AV → List (Nat × Ob) → Bool → List (Nat × Ob) → Prop} (hR : ∀ args os b os2, R args os b os2 → Round P N ps ca cb l nR r cs args os b os2)
    {assign body : Code} (hra : r.assign = assign) (hrb : r.body = body) (hrp : r.params.toList = ps) (hrs : r.state = .ready) (hps : ∀ p ∈ ps, p < N) (hN : r.tmps.size = N) (hl : ∀ p ∈ l, p.1 < N) (hcs : cs = (List.range N).map (look l))
    (hca : comp P N assign = some ca) (hcb : comp P N body = some cb) : YOK P none (yOf nR R) := by
  rintro as os rs os2 ⟨args, b, rfl, rfl, hround⟩ w ι ro xs hH hxs
  obtain ⟨h1, h2, l1, os1, c1, os3, c3, hA, ho1, hB, ho3, rfl⟩ := hR args os b os2 hround
  match xs, hxs with
  | [], hxs => simp [RepAll] at hxs
  | x0 :: ys, hxs =>
    have hys : RepAll ι (lookO os) ro w args ys := ⟨by simpa using hxs.1, fun i p y hp hy => hxs.2 (i + 1) p y (by simpa using hp) (by simpa using hy)⟩
    have hx0 := hxs.2 0 _ x0 rfl rfl
    cases hx0 with
    | yf _ b' r' cs' pl hob hpl =>
      obtain ⟨pl', e1, e2, e3⟩ := hH.objs nR _ h2
      rw [hpl] at e1; cases e1
      have hrdy : { r with state := .ready, pending := none } = ({ r with state := .ready, pending := none } : Loop) := rfl
      have e2' : w.heap[pl.b]? = some (.loop { r with state := .ready, pending := none }) := e2
      have hsz : ys.toArray.size = r.params.size := by
        have a1 := hys.1
        have a2 : r.params.toList.length = ps.length := by rw [hrp]
        simp at a2 ⊢; omega
      have hy := run_yield (P := P) (args := ys.toArray) e2' hsz
      -- the frame of the round
      let t1 : Array Value := (ps.zip ys).foldl (fun t (p, v) => t.setIfInBounds p v) r.tmps
      have ht1 : (({ r with state := .ready, pending := none } : Loop).params.zip ys.toArray).foldl (fun tmps (t, a) => tmps.setIfInBounds t a) r.tmps = t1 := by
        show (r.params.zip ys.toArray).foldl _ r.tmps = t1
        have : r.params = ps.toArray := by apply Array.ext'; simpa using hrp
        rw [this]
        simp [t1]
      have hslot : ∀ k, ARep ι (lookO os) ro w (look l k) (r.tmps.getD k undef) := by
        intro k
        rcases Nat.lt_or_ge k N with hk | hk
        · refine e3.2 k _ _ ?_ ?_
          · rw [hcs]; simp [hk]
          · simp [Array.getD, hN, hk]
        · rcases look_mem (l := l) (k := k) with e | e
          · rw [e]; exact .any _
          · have := hl _ e; simp at this; omega
      have hslot1 := setL_rep ps args ys l r.tmps hps hN hslot hys h1
      have hsz1 : t1.size = N := by rw [show t1.size = r.tmps.size from foldl_size _ _ _]; exact hN
      refine ⟨pl.b, ys, r.fn, t1, assign, body, rfl, ?_, ?_⟩
      · rw [hy]
        simp only [hra, hrb]
        congr 2
      · refine roundIn_of_wpIn trivial ?_
        rw [fence_round]
        let X1 : Ctx := ⟨P, N, ⟨w, ro, ι, lookO os⟩, some pl.b, noY, yok_no _ _⟩
        have hS1 : X1.Sat (mk (setL l ps args) os) { tmps := t1, defers := [] } w := by
          refine ⟨ι, ro, ⟨hH.keeps, hsz1, .nil _ _ rfl, hslot1, hH.objs, hH.dom, hH.inj, hH.home, hH.rolt, hH.roold, hH.gr⟩⟩
        refine wpIn_mono (awp_sound (X := X1) ca _ _ (hA X1 rfl rfl rfl) assign hca _ w hS1) ?_
        rintro e a1 w1 hq
        cases e with
        | normal =>
          obtain ⟨σ1, ⟨_, hwk⟩, hS⟩ := hq
          obtain ⟨ι1, ro1, hSI⟩ := Sat.weaken (X := X1) hwk hS
          have hH1 : Has ⟨w, ro, ι, lookO os⟩ (lookO os1) w1 ι1 ro1 := hSI.has
          obtain ⟨pl1, f1, f2, f3⟩ := hH1.objs nR _ ho1
          have hpl1 : pl1.b = pl.b := by
            obtain ⟨b2, c2, g1, g2⟩ := hH1.gr.lrec nR 0 r cs h2
            have g2' : some pl1 = ι nR := f1.symm.trans g2
            rw [hpl] at g2'; cases g2'; rfl
          have f2' : w1.heap[pl1.b]? = some (.loop { r with state := .ready, pending := none }) := f2
          have hbr := run_beginRound (P := P) (r := { r with state := .ready, pending := none }) f2' rfl
          rw [hpl1] at hbr
          refine ⟨_, hbr, ?_⟩
          have hflip := hH1.flip ho1 f1 2
          have hobj2 : (Obj.loop { ({ r with state := .ready, pending := none } : Loop) with state := .busy }) = lrecObj 2 r := rfl
          rw [hobj2]
          rw [hpl1] at hflip
          rw [← lookO_setk] at hflip
          let w2 := w1.putObj pl.b (lrecObj 2 r)
          have hg12 : Grew ι1 (lookO os1) ro1 w1 ι1 (lookO (setk os1 nR (.lrec 2 r c1))) ro1 w2 := by
            rw [lookO_setk]
            have := (hH1.self.flip ho1 f1 2).gr
            rw [hpl1] at this
            exact this
          have hDw : ∀ D : Nat, w1.heap[D]? = some (.deferred (some [])) → w2.heap[D]? = some (.deferred (some [])) := by
            intro D hD
            have hne : D ≠ pl.b := fun e => by subst e; rw [← hpl1, f2] at hD; cases hD
            rw [World.putObj_heap_other hne]; exact hD
          have hS2 : X1.Sat (mk l1 (setk os1 nR (.lrec 2 r c1))) a1 w2 :=
            ⟨ι1, ro1, ⟨hflip.keeps, hSI.size, hSI.defers.later hDw, fun k => (hSI.slots k).grew hg12, hflip.objs, hflip.dom, hflip.inj, hflip.home, hflip.rolt, hflip.roold, hflip.gr⟩⟩
          refine wpIn_mono (awp_sound (X := X1) cb _ _ (hB X1 rfl rfl rfl) body hcb _ w2 hS2) ?_
          have fin : ∀ (a3 : Act) (w3 : World) (σ3 : St) (jump : Option Code), X1.Sat σ3 a3 w3 → Sub σ3.ob id (lookO os3) → Holds X1.E id (lookO os3) → jump = (if b then some .ret else none) →
              ∃ v w4, (Instr.endRound pl.b jump).run P w3 = .ok v w4 ∧ ∃ vs ι' ro', Ending.returned v = .returned (retv vs) ∧ Has ⟨w, ro, ι, lookO os⟩ (lookO (setk os3 nR (.lrec (if b then 1 else 0) r c3))) w4 ι' ro' ∧ RepAll ι' (lookO (setk os3 nR (.lrec (if b then 1 else 0) r c3))) ro' w4 [.pv (.bool (!b))] vs := by
            rintro a3 w3 σ3 jump ⟨ι3, ro3, hSI3⟩ hsub hhold rfl
            have hH3 := hSI3.has.sub hsub hhold
            obtain ⟨pl3, q1, q2, q3⟩ := hH3.objs nR _ ho3
            have hpl3 : pl3.b = pl.b := by
              obtain ⟨b2, c2, g1, g2⟩ := hH3.gr.lrec nR 0 r cs h2
              have g2' : some pl3 = ι nR := q1.symm.trans g2
              rw [hpl] at g2'; cases g2'; rfl
            have q2' : w3.heap[pl3.b]? = some (.loop { r with state := .busy, pending := none }) := q2
            rw [hpl3] at q2'
            have her := run_endRound (P := P) (if b then some Code.ret else none) q2'
            have hf := hH3.flip ho3 q1 (if b then 1 else 0)
            rw [← lookO_setk, hpl3] at hf
            have hobj : (Obj.loop { ({ r with state := .busy, pending := none } : Loop) with state := if (if b then some Code.ret else none).isNone then .ready else .done, pending := if b then some .ret else none }) = lrecObj (if b then 1 else 0) r := by
              cases b <;> rfl
            rw [hobj] at her
            refine ⟨_, _, her, [.bool (if b then some Code.ret else none).isNone], _, _, rfl, hf, rfl, ?_⟩
            intro i p x hp hx
            cases i with
            | zero =>
              simp at hp hx; subst hp hx
              cases b <;> exact .pv _ _ (.bool _)
            | succ i => simp at hp
          rintro e a3 w3 hq3
          cases e with
          | normal =>
            obtain ⟨σ3, ⟨hb, hsub, hhold⟩, hS3⟩ := hq3
            have hb' : b = false := by rcases hb with ⟨_, h⟩ | ⟨h, _⟩; exact h; cases h
            exact fin a3 w3 σ3 none hS3 hsub hhold (by rw [hb']; rfl)
          | ret =>
            obtain ⟨σ3, ⟨hb, hsub, hhold⟩, hS3⟩ := hq3
            have hb' : b = true := by rcases hb with ⟨h, _⟩ | ⟨_, h⟩; cases h; exact h
            exact fin a3 w3 σ3 (some .ret) hS3 hsub hhold (by rw [hb']; rfl)
          | exit id => obtain ⟨σ3, ⟨hb, _⟩, _⟩ := hq3; rcases hb with ⟨h, _⟩ | ⟨h, _⟩ <;> cases h
          | goto l => exact hq3.elim
          | panic c => exact hq3.elim
          | outgrown => exact hq3.elim
        | exit id => obtain ⟨σ1, ⟨h, _⟩, _⟩ := hq; cases h
        | ret => obtain ⟨σ1, ⟨h, _⟩, _⟩ := hq; cases h
        | goto l => exact hq
        | panic c => exact hq
        | outgrown => exact hq

/-- A function's call, walked over abstract states. -/
theorem fn_calls {X : Ctx} (hrd : X.rd = none) {n : Nat} {g : FuncId} {fn : Func} {code : Code} {m : MCode} {ks : List RK} (hf : X.P.funcs[g]? = some fn) (hb : fn.body = some code) (hN : X.N = fn.ntmps) (hc : comp X.P fn.ntmps code = some m) (hk : cRes X.P fn.ntmps fn.results.toList = some ks)
    {xs : List Value} {w : World} {σ : St} (hS : X.Sat σ { tmps := xs.toArray ++ Array.replicate (fn.ntmps - xs.toArray.size) undef, defers := [] } w) {Q : MExit → St → Prop} (h : X.awp m Q σ) {R : Ending → World → Prop}
    (hQ : ∀ e σ' a' w' ι ro, Q e σ' → SatI X.N X.E σ' a' w' ι ro → (e = .normal ∨ e = .ret) ∧ ∃ us, resAll σ' ks = some us ∧ ∀ vs, RepAll ι σ'.ob ro w' us vs → R (.returned (retv vs)) w') : CallsIn (fenceOf none) n X.P g xs.toArray w R := by
  have h0 : CallsIn (fenceOf none) 0 X.P g xs.toArray w R := by
    refine callsIn_of_wp_marks hf hb trivial ?_
    have hok := awp_sound (X := X) m _ _ h code (by rw [hN]; exact hc) _ w hS
    rw [hrd] at hok
    refine wpIn_mono hok ?_
    have fin : ∀ e σ' a' w', Q e σ' → X.Sat σ' a' w' → (e = .normal ∨ e = .ret) ∧ LeavesInM (fenceOf none) 0 X.P fn a'.tmps R a'.defers .returning w' := by
      rintro e σ' a' w' hq ⟨ι, ro, hSI⟩
      refine ⟨(hQ e σ' a' w' ι ro hq hSI).1, ?_⟩
      obtain ⟨ds, d1, d2, d3⟩ := hSI.defers
      rw [d1]
      refine leaves_marks ds a' w' hSI d1 d2 d3 fun a2 w2 _ hSI2 => ?_
      obtain ⟨_, us, hus, hR⟩ := hQ e σ' a2 w2 ι ro hq hSI2
      obtain ⟨vs, h1, h2⟩ := res_run (P := X.P) hSI2 (by rw [hN]; exact hk) hus
      refine ⟨retv vs, ?_, hR vs h2⟩
      have e : results fn a2.tmps = (do let vs ← fn.results.mapM (resOne a2.tmps); pure (if h : vs.size = 1 then vs[0] else .tuple vs)) := rfl
      rw [e, Array.mapM_eq_mapM_toList]
      simp only [Sem.run_bind, Sem.run_map, h1]
      simp only [Result.andThen_ok, Sem.run_pure]
      congr 1
      match vs with
      | [] => rfl
      | [v] => rfl
      | _ :: _ :: _ => simp [retv]
    intro e a' w' he
    cases e with
    | normal => obtain ⟨σ', h1, h2⟩ := he; exact (fin _ σ' a' w' h1 h2).2
    | ret => obtain ⟨σ', h1, h2⟩ := he; exact (fin _ σ' a' w' h1 h2).2
    | exit id =>
      obtain ⟨σ', h1, h2⟩ := he
      rcases (fin _ σ' a' w' h1 h2).1 with h | h <;> cases h
    | goto l => exact he.elim
    | panic c => exact he.elim
    | outgrown => exact he.elim
  exact callsIn_wide.2 (callsIn_wide.1 h0)

/-- What the function that is ranged over leaves: the loop has run out (0), or a round has left by 'return' (1); then it goes on. -/
def iterQ (l : List (Nat × AV)) (nR : Nat) (r : Loop) (Q : MExit → St → Prop) (e : MExit) (σ : St) : Prop :=
  (e = .normal ∨ e = .ret) ∧ ∃ b c, (b = 0 ∨ b = 1) ∧ σ.ob nR = some (.lrec b r c) ∧ Q (if b = 0 then .normal else .ret) ⟨look l, upd σ.ob nR (.lrec (b + 3) r c)⟩

theorem Ok.range {X : Ctx} {f : Opd} {ps : List Nat} {ca cb : MCode} {Q : MExit → St → Prop} {l : List (Nat × AV)} {os : List (Nat × Ob)} {g : FuncId} {caps : List AV} {fn : Func} {Ng : Nat} {mg : MCode}
    (hrd : X.rd = none) (hf : f.val l = .fn g caps) (hfn : X.P.funcs[g]? = some fn) (hc : cFn X.P fn = some (Ng, mg, [])) (hlen : caps.length + 1 ≤ Ng)
    (nR : Nat) (hnR : lookO os nR = none) (hl : ∀ p ∈ l, p.1 < X.N)
    {cs : List AV} (hcs : (List.range X.N).map (look l) = cs) (R : Loop → List AV → List (Nat × Ob) → Bool → List (Nat × Ob) → Prop) (hR : ∀ r args os b os2, R r args os b os2 → Round X.P X.N ps ca cb l nR r cs args os b os2)
    (hI : ∀ (r : Loop) (X' : Ctx), X'.P = X.P → X'.rd = none → X'.E.ob0 = lookO ((nR, .lrec 0 r cs) :: os) → X'.Y = yOf nR (R r) → X'.awp mg (iterQ l nR r Q) (mk (argsL 0 (.yf nR :: caps)) ((nR, .lrec 0 r cs) :: os))) :
    X.Ok (.range f ps ca cb) Q (mk l os) := by
  intro code hcode a w hS
  obtain ⟨f0, ps0, assign, body, rfl, hps0, hpsN, hf0, hca, hcb⟩ := comp_as hcode
  obtain ⟨ι, ro, hSI⟩ := hS
  obtain ⟨gcode, hgb, hgn, hgc, hgk, hNg⟩ := cFn_spec hc
  rw [hrd]
  have hH : Has X.E (lookO os) w ι ro := hSI.has
  have hrepF := opd_rep hSI.slots hf0
  rw [show (mk l os).sl = look l from rfl, val_ev, hf] at hrepF
  obtain ⟨xs, hev, hxl, hxrep⟩ : ∃ xs : List Value, a.eval f0 = .func (.func g) #[] xs.toArray ∧ caps.length = xs.length ∧ ∀ (i : Nat) p x, caps[i]? = some p → xs[i]? = some x → ARep ι (lookO os) ro w p x := by
    generalize a.eval f0 = v at hrepF
    cases hrepF with
    | fn _ _ xs h1 h2 => exact ⟨xs, rfl, h1, h2⟩
  refine wpIn_rangeFunc ?_
  intro fid _
  let r : Loop := { state := .ready, pending := none, fn := fid, tmps := a.tmps, params := ps0, assign, body, defers := w.heap.size }
  have hcsrep : RepAll ι (lookO os) ro w cs r.tmps.toList := by
    subst hcs
    refine ⟨by simp [r, hSI.size], fun i p x hp hx => ?_⟩
    have hi : i < X.N := by
      have := (List.getElem?_eq_some_iff.1 hp).1
      simpa using this
    have hp' : p = look l i := by
      have : ((List.range X.N).map (look l))[i]? = some (look l i) := by simp [hi]
      rw [this] at hp; exact (Option.some.inj hp).symm
    have hx' : x = a.tmps.getD i undef := by
      have hs : i < a.tmps.size := by rw [hSI.size]; exact hi
      have : r.tmps.toList[i]? = some (a.tmps.getD i undef) := by simp [r, Array.getD, hs]
      rw [this] at hx; exact (Option.some.inj hx).symm
    rw [hp', hx']
    exact hSI.slots i
  obtain ⟨hH1, hG1⟩ := hH.addRec hnR hcsrep
  let ι1 : Places := fun m => if m = nR then some ⟨w.heap.size + 1, 0, 0⟩ else ι m
  let w1 : World := (w.alloc (.deferred (some []))).alloc (lrecObj 0 r)
  have hos1 : lookO ((nR, Ob.lrec 0 r cs) :: os) = upd (lookO os) nR (.lrec 0 r cs) := by
    funext m; simp only [lookO, upd]
  rw [← hos1] at hH1 hG1
  have hw1l : w1.heap[w.heap.size + 1]? = some (lrecObj 0 r) := by
    have := World.alloc_heap_new (w.alloc (.deferred (some []))) (lrecObj 0 r)
    rwa [World.size_alloc] at this
  have hw1D : w1.heap[w.heap.size]? = some (.deferred (some [])) := (Below.heap_alloc _ _ _ (by simp)).trans (World.alloc_heap_new w _)
  refine ⟨w.heap.size + 1, [coll w.heap.size], w1, { target := .fn (.func g) xs.toArray, args := #[.func (.yield (w.heap.size + 1)) #[] #[]] }, w1, g,
    #[.func (.yield (w.heap.size + 1)) #[] #[]] ++ xs.toArray, w1, ?_, ?_, fun _ _ => trivial, ?_, fun h => by simp [fenceOf, Fence.wide] at h, ?_⟩
  · exact run_enterLoop_outer _ _ _ _ _
  · simp only [resolve, hev]
    simp [go_sem]
  · have := run_callFunc (P := X.P) (w := w1) ⟨fn, hfn, hgn, by rw [hgb]; rfl⟩ (#[Value.func (.yield (w.heap.size + 1)) #[] #[]] ++ xs.toArray)
    simp [invoke, go_sem]
    simpa using this
  · -- THE FUNCTION THAT IS RANGED OVER
    have hyok : YOK X.P none (yOf nR (R r)) := yok_of (fun args os b os2 h => hR r args os b os2 h) rfl rfl hps0 rfl hpsN hSI.size hl hcs.symm hca hcb
    let X1 : Ctx := ⟨X.P, Ng, ⟨w1, ro, ι1, lookO ((nR, .lrec 0 r cs) :: os)⟩, none, yOf nR (R r), hyok⟩
    have hself := hH1.self
    have hargs : #[Value.func (.yield (w.heap.size + 1)) #[] #[]] ++ xs.toArray = (Value.func (.yield (w.heap.size + 1)) #[] #[] :: xs).toArray := by simp
    rw [hargs]
    have hS1 : X1.Sat (mk (argsL 0 (.yf nR :: caps)) ((nR, .lrec 0 r cs) :: os)) { tmps := (Value.func (.yield (w.heap.size + 1)) #[] #[] :: xs).toArray ++ Array.replicate (fn.ntmps - (Value.func (.yield (w.heap.size + 1)) #[] #[] :: xs).toArray.size) undef, defers := [] } w1 := by
      refine ⟨ι1, ro, ⟨hself.keeps, ?_, .nil _ _ rfl, ?_, hself.objs, hself.dom, hself.inj, hself.home, hself.rolt, hself.roold, hself.gr⟩⟩
      · show _ = Ng
        simp; omega
      · intro k
        show ARep ι1 (lookO ((nR, .lrec 0 r cs) :: os)) ro w1 (look (argsL 0 (.yf nR :: caps)) k) _
        rw [← argL_look]
        simp only [argL]
        cases hk' : (AV.yf nR :: caps)[k]? with
        | none => exact .any _
        | some p =>
          have hkl : k < (Value.func (.yield (w.heap.size + 1)) #[] #[] :: xs).length := by
            have := (List.getElem?_eq_some_iff.1 hk').1
            simp at this ⊢; omega
          have hval : ((Value.func (.yield (w.heap.size + 1)) #[] #[] :: xs).toArray ++ Array.replicate (fn.ntmps - (Value.func (.yield (w.heap.size + 1)) #[] #[] :: xs).toArray.size) undef).getD k undef = (Value.func (.yield (w.heap.size + 1)) #[] #[] :: xs)[k] := by
            rw [Array.getD_eq_getD_getElem?, Array.getElem?_append_left (by simpa using hkl)]
            simp only [List.getElem?_toArray]
            rw [List.getElem?_eq_getElem hkl]; rfl
          rw [hval]
          cases k with
          | zero =>
            simp at hk'; subst hk'
            have := ARep.yf (ι := ι1) (ob := lookO ((nR, .lrec 0 r cs) :: os)) (ro := ro) (w := w1) nR 0 r cs ⟨w.heap.size + 1, 0, 0⟩ (by simp [lookO]) (by simp [ι1])
            exact this
          | succ k =>
            have hk2 : caps[k]? = some p := by simpa using hk'
            have hk3 : k < xs.length := by simpa using hkl
            exact (hxrep k p _ hk2 (List.getElem?_eq_getElem hk3)).grew hG1
    have hrun := hI r X1 rfl rfl rfl rfl
    refine fn_calls (X := X1) rfl hfn hgb hNg hgc hgk hS1 hrun ?_
    rintro e σ' a' w' ι' ro' ⟨he, b, c, hb, hob, hq⟩ hSI'
    refine ⟨he, [], rfl, fun vs _ => ?_⟩
    -- behind it
    have hK : Has X.E σ'.ob w' ι' ro' := hH1.trans hSI'.has
    obtain ⟨pl, q1, q2, q3⟩ := hK.objs nR _ hob
    have hpl : pl.b = w.heap.size + 1 := by
      obtain ⟨b2, c2, g1, g2⟩ := hSI'.gr.lrec nR 0 r cs (by simp [X1, lookO])
      have g2' : some pl = ι1 nR := q1.symm.trans g2
      simp [ι1] at g2'
      rw [g2']
    let st : LoopState := if b = 0 then .ready else .done
    have q2' : w'.heap[pl.b]? = some (.loop { r with state := st, pending := if b = 0 then none else some .ret }) := by
      rw [q2]
      rcases hb with rfl | rfl <;> rfl
    have hel := run_endLoop (P := X.P) q2' (by show st ≠ .busy; rcases hb with rfl | rfl <;> simp [st])
    have hobj : Obj.loop { ({ r with state := st, pending := if b = 0 then none else some .ret } : Loop) with state := .exhausted } = lrecObj (b + 3) r := by
      rcases hb with rfl | rfl <;> rfl
    rw [hobj, hpl] at hel
    have hf := hK.flip hob q1 (b + 3)
    have hgf := (hK.self.flip hob q1 (b + 3)).gr
    rw [hpl] at hf hgf
    refine ⟨_, _, hel, ?_⟩
    let w4 : World := w'.putObj (w.heap.size + 1) (lrecObj (b + 3) r)
    have hsat : X.Sat ⟨look l, upd σ'.ob nR (.lrec (b + 3) r c)⟩ { a with defers := [coll w.heap.size] ++ a.defers } w4 := by
      refine ⟨ι', ro', ⟨hf.keeps, hSI.size, ?_, fun k => (((hSI.slots k).grew hG1).grew hSI'.gr).grew hgf, hf.objs, hf.dom, hf.inj, hf.home, hf.rolt, hf.roold, hf.gr⟩⟩
      have keepD : ∀ D : Nat, w1.heap[D]? = some (.deferred (some [])) → w4.heap[D]? = some (.deferred (some [])) := by
        intro D hD
        have hlt := (Array.getElem?_eq_some_iff.1 hD).1
        have h1 : w'.heap[D]? = some (.deferred (some [])) := by
          rw [hSI'.keeps.block D hlt]
          · exact hD
          · rintro ⟨m, q, hm, rfl⟩
            obtain ⟨o, ho⟩ := hH1.dom m q hm
            exact (hH1.objs m o ho).notDef hm hD
        have hne : D ≠ w.heap.size + 1 := fun e => by subst e; rw [hw1l] at hD; cases hD
        show (w'.putObj _ _).heap[D]? = _
        rw [World.putObj_heap_other hne]; exact h1
      obtain ⟨ds, d1, d2, d3⟩ := hSI.defers
      refine ⟨w.heap.size :: ds, by simp [d1], ?_, ?_⟩
      · rw [List.nodup_cons]
        refine ⟨fun hm => ?_, d2⟩
        have := (Array.getElem?_eq_some_iff.1 (d3 _ hm).2).1
        omega
      · intro D hD
        rcases List.mem_cons.mp hD with e | e
        · subst e; exact ⟨hSI.keeps.size, keepD _ hw1D⟩
        · refine ⟨(d3 D e).1, keepD D ?_⟩
          have hlt := (Array.getElem?_eq_some_iff.1 (d3 D e).2).1
          exact ((Below.heap_alloc _ _ D (by simp; omega)).trans (Below.heap_alloc w _ D hlt)).trans (d3 D e).2
    rcases hb with rfl | rfl
    · exact ⟨_, hq, hsat⟩
    · exact wpIn_ret ⟨_, hq, hsat⟩

/-! ### By lists -/

theorem AV.ren_id (v : AV) : v.ren id = v := by
  match v with
  | .fn f caps => simp only [AV.ren]; rw [(List.map_congr_left fun x hx => AV.ren_id x : caps.map (AV.ren id) = caps.map id), List.map_id]
  | .ag cs => simp only [AV.ren]; rw [(List.map_congr_left fun x hx => AV.ren_id x : cs.map (AV.ren id) = cs.map id), List.map_id]
  | .tup cs => simp only [AV.ren]; rw [(List.map_congr_left fun x hx => AV.ren_id x : cs.map (AV.ren id) = cs.map id), List.map_id]
  | .pv _ | .ptr _ _ | .rs _ _ | .sa _ _ _ _ _ | .pe _ _ _ | .rh _ _ | .yf _ | .any => simp only [AV.ren, id]
termination_by sizeOf v
decreasing_by all_goals (simp; have := List.sizeOf_lt_of_mem hx; omega)
@[simp] theorem map_ren_id (cs : List AV) : cs.map (AV.ren id) = cs := by
  rw [(List.map_congr_left fun x _ => AV.ren_id x : cs.map (AV.ren id) = cs.map id), List.map_id]
@[simp] theorem Ob.ren_id (o : Ob) : o.ren id = o := by
  cases o <;> simp [Ob.ren]

def AssignE (os0 : List (Nat × Ob)) (l1 : List (Nat × AV)) (os1 : List (Nat × Ob)) : MExit → St → Prop
  | .normal, σ => AllL (fun p => MO σ.ob id (lookO os1) p.1 p.2) os1 ∧ (os1.map fun p => p.1).Nodup ∧ AllL (fun p => (lookO os1 p.1).isSome = true) os0 ∧ AllL (fun p => MA σ.ob id (lookO os1) (σ.sl p.1) p.2) l1
  | _, _ => False
@[simp] theorem assignE_normal (os0 : List (Nat × Ob)) (l1 : List (Nat × AV)) (os1 : List (Nat × Ob)) (l : List (Nat × AV)) (os : List (Nat × Ob)) : AssignE os0 l1 os1 .normal (mk l os) =
    (AllL (fun p => MO (lookO os) id (lookO os1) p.1 p.2) os1 ∧ (os1.map fun p => p.1).Nodup ∧ AllL (fun p => (lookO os1 p.1).isSome = true) os0 ∧ AllL (fun p => MA (lookO os) id (lookO os1) (look l p.1) p.2) l1) := (rfl)
def BodyE (os0 : List (Nat × Ob)) (b : Bool) (os2 : List (Nat × Ob)) : MExit → St → Prop
  | .normal, σ => b = false ∧ AllL (fun p => MO σ.ob id (lookO os2) p.1 p.2) os2 ∧ (os2.map fun p => p.1).Nodup ∧ AllL (fun p => (lookO os2 p.1).isSome = true) os0
  | .ret, σ => b = true ∧ AllL (fun p => MO σ.ob id (lookO os2) p.1 p.2) os2 ∧ (os2.map fun p => p.1).Nodup ∧ AllL (fun p => (lookO os2 p.1).isSome = true) os0
  | _, _ => False
@[simp] theorem bodyE_normal (os0 : List (Nat × Ob)) (b : Bool) (os2 : List (Nat × Ob)) (l : List (Nat × AV)) (os : List (Nat × Ob)) : BodyE os0 b os2 .normal (mk l os) =
    (b = false ∧ AllL (fun p => MO (lookO os) id (lookO os2) p.1 p.2) os2 ∧ (os2.map fun p => p.1).Nodup ∧ AllL (fun p => (lookO os2 p.1).isSome = true) os0) := (rfl)
@[simp] theorem bodyE_ret (os0 : List (Nat × Ob)) (b : Bool) (os2 : List (Nat × Ob)) (l : List (Nat × AV)) (os : List (Nat × Ob)) : BodyE os0 b os2 .ret (mk l os) =
    (b = true ∧ AllL (fun p => MO (lookO os) id (lookO os2) p.1 p.2) os2 ∧ (os2.map fun p => p.1).Nodup ∧ AllL (fun p => (lookO os2 p.1).isSome = true) os0) := (rfl)

theorem subL {os2 : List (Nat × Ob)} {ob : Obs} (h1 : AllL (fun p => MO ob id (lookO os2) p.1 p.2) os2) (h2 : (os2.map fun p => p.1).Nodup) : Sub ob id (lookO os2) :=
  ⟨fun n o ho => allL_mem h1 _ (lookO_mem ho), fun n m o p hn hm e => nodup_inj id (by simpa using h2) n m o p hn hm e⟩
theorem holdsL {E : Ent} {os0 os2 : List (Nat × Ob)} (h0 : E.ob0 = lookO os0) (h : AllL (fun p => (lookO os2 p.1).isSome = true) os0) : Holds E id (lookO os2) := fun n o hn => by
  rw [h0] at hn
  exact ⟨rfl, Option.isSome_iff_exists.mp (allL_mem h _ (lookO_mem hn))⟩

theorem assignA_of {P : Program} {N : Nat} {ca : MCode} {l l1 : List (Nat × AV)} {os os1 : List (Nat × Ob)} (h : ∀ X : Ctx, X.P = P → X.E.ob0 = lookO os → Run X [.code ca] (AssignE os l1 os1) (mk l os)) : AssignA P N ca l os l1 os1 := by
  intro X hP _ h0
  refine awp_mono ?_ (h X hP h0)
  intro e σ he
  cases e with
  | normal =>
    obtain ⟨h1, h2, h3, h4⟩ := he
    refine ⟨rfl, ⟨subL h1 h2, holdsL h0 h3, fun k => ?_⟩⟩
    show MA σ.ob id (lookO os1) (σ.sl k) (look l1 k)
    rcases look_mem (l := l1) (k := k) with e | e
    · rw [e]; exact .any _
    · exact allL_mem h4 _ e
  | ret => exact he.elim
  | exit id => exact he.elim
theorem bodyA_of {P : Program} {N : Nat} {cb : MCode} {l : List (Nat × AV)} {os0 os os2 : List (Nat × Ob)} {b : Bool} (h : ∀ X : Ctx, X.P = P → X.E.ob0 = lookO os0 → Run X [.code cb] (BodyE os0 b os2) (mk l os)) : BodyA P N cb os0 l os b os2 := by
  intro X hP _ h0
  refine awp_mono ?_ (h X hP h0)
  intro e σ he
  cases e with
  | normal => exact ⟨.inl ⟨rfl, he.1⟩, subL he.2.1 he.2.2.1, holdsL h0 he.2.2.2⟩
  | ret => exact ⟨.inr ⟨rfl, he.1⟩, subL he.2.1 he.2.2.1, holdsL h0 he.2.2.2⟩
  | exit id => exact he.elim

def IterR (X : Ctx) (l : List (Nat × AV)) (nR : Nat) (r : Loop) (rest : List It) (Q : MExit → St → Prop) (os : List (Nat × Ob)) : Option Ob → Prop
  | some (.lrec 0 r' c) => r' = r ∧ Run X rest Q (mk l (setk os nR (.lrec 3 r c)))
  | some (.lrec 1 r' c) => r' = r ∧ contQ X rest Q .ret (mk l (setk os nR (.lrec 4 r c)))
  | _ => False
@[simp] theorem iterR_0 (X : Ctx) (l : List (Nat × AV)) (nR : Nat) (r r' : Loop) (rest : List It) (Q : MExit → St → Prop) (os : List (Nat × Ob)) (c : List AV) : IterR X l nR r rest Q os (some (.lrec 0 r' c)) = (r' = r ∧ Run X rest Q (mk l (setk os nR (.lrec 3 r c)))) := (rfl)
@[simp] theorem iterR_1 (X : Ctx) (l : List (Nat × AV)) (nR : Nat) (r r' : Loop) (rest : List It) (Q : MExit → St → Prop) (os : List (Nat × Ob)) (c : List AV) : IterR X l nR r rest Q os (some (.lrec 1 r' c)) = (r' = r ∧ contQ X rest Q .ret (mk l (setk os nR (.lrec 4 r c)))) := (rfl)
def IterL (X : Ctx) (l : List (Nat × AV)) (nR : Nat) (r : Loop) (rest : List It) (Q : MExit → St → Prop) : MExit → St → Prop := iterQ l nR r (contQ X rest Q)
theorem iterL_any (X : Ctx) (l : List (Nat × AV)) (nR : Nat) (r : Loop) (rest : List It) (Q : MExit → St → Prop) (l' : List (Nat × AV)) (os : List (Nat × Ob)) (e : MExit) (he : e = .normal ∨ e = .ret) (h : IterR X l nR r rest Q os (lookO os nR)) : IterL X l nR r rest Q e (mk l' os) := by
  refine ⟨he, ?_⟩
  have hm : ∀ st c, (⟨look l, upd (mk l' os).ob nR (.lrec st r c)⟩ : St) = mk l (setk os nR (.lrec st r c)) := fun st c => by
    simp only [mk, lookO_setk]
  unfold IterR at h
  split at h
  · rename_i r' c hl; obtain ⟨rfl, h⟩ := h
    exact ⟨0, c, .inl rfl, hl, by rw [hm]; exact h⟩
  · rename_i r' c hl; obtain ⟨rfl, h⟩ := h
    exact ⟨1, c, .inr rfl, hl, by rw [hm]; exact h⟩
  · exact h.elim

/-- A range over a function. 'R': a round, told by yield's arguments, the objects as it begins, whether it is left by 'return', and the objects behind it. -/
theorem RangeG.rule {X : Ctx} {P : Program} {N : Nat} {f : Opd} {ps : List Nat} {ca cb : MCode} {rest : List It} {Q : MExit → St → Prop} {l : List (Nat × AV)} {os : List (Nat × Ob)} {g : FuncId} {caps : List AV} {fn : Func} {Ng : Nat} {mg : MCode}
    (hX : X.P = P) (hrN : X.rd = none ∧ X.N = N) (hf : f.val l = .fn g caps) (hfn : P.funcs[g]? = some fn) (hc : cFn P fn = some (Ng, mg, [])) (hlen : caps.length + 1 ≤ Ng)
    (nR : Nat) (hnR : lookO os nR = none) (hl : AllL (fun p => p.1 < N) l)
    {cs : List AV} (hcs : (List.range N).map (look l) = cs) (R : Loop → List AV → List (Nat × Ob) → Bool → List (Nat × Ob) → Prop) (hR : ∀ r args os b os2, R r args os b os2 → Round P N ps ca cb l nR r cs args os b os2)
    (hI : ∀ (r : Loop) (X' : Ctx) (Q' : MExit → St → Prop), X'.P = P → X'.E.ob0 = lookO ((nR, .lrec 0 r cs) :: os) → X'.Y = yOf nR (R r) → (∀ l' os', IterR X l nR r rest Q os' (lookO os' nR) → Q' .normal (mk l' os') ∧ Q' .ret (mk l' os')) →
      Run X' [.code mg] Q' (mk (argsL 0 (.yf nR :: caps)) ((nR, .lrec 0 r cs) :: os))) : RangeG X f ps ca cb rest Q (mk l os) := by
  obtain ⟨hrd, hN⟩ := hrN
  subst hX; subst hN
  refine Ok.range hrd hf hfn hc hlen nR hnR (fun p hp => allL_mem hl p hp) hcs R hR fun r X' h1 h2 h3 h4 => ?_
  exact hI r X' (IterL X l nR r rest Q) h1 h3 h4 fun l' os' h => ⟨iterL_any X l nR r rest Q l' os' _ (.inl rfl) h, iterL_any X l nR r rest Q l' os' _ (.inr rfl) h⟩

/-- A call of yield. -/
theorem yield_ok {X : Ctx} {d nR : Nat} {vs : List AV} {r : List It} {Q : MExit → St → Prop} {l : List (Nat × AV)} {os : List (Nat × Ob)} {R : List AV → List (Nat × Ob) → Bool → List (Nat × Ob) → Prop} (hY : X.Y = yOf nR R) {args : List AV} {os1 os2 : List (Nat × Ob)} {b : Bool} (hr : R args os1 b os2)
    (h1 : AllL (fun p => MO (lookO os) id (lookO os1) p.1 p.2) os1) (hnd1 : (os1.map fun p => p.1).Nodup) (hnd2 : (os2.map fun p => p.1).Nodup) (hf : AllL (fun p => lookO os1 p.1 = none → lookO os p.1 = none) os2)
    (hm : MAs (lookO os) id (lookO os1) (.yf nR :: vs) (.yf nR :: args)) (k : Run X r Q (mk (setk l d (.pv (.bool (!b)))) (backL os id os2))) : CallY X d nR vs r Q l os := by
  refine ⟨.yf nR :: args, os1, [.pv (.bool (!b))], os2, id, id, _, ?_, sub_of h1 (by simpa using hnd1), hm, back_of (by simpa using hnd2) (by simpa using hf), ?_⟩
  · show X.Y _ _ _ _
    rw [hY]
    exact ⟨args, b, rfl, rfl, hr⟩
  · show contQ X r Q .normal (St.put _ _ _)
    rw [put_mk]; simp only [List.map_cons, List.map_nil, AV.ren, retA]; exact k

def IsLrec : Option Ob → Prop
  | some (.lrec _ _ _) => True
  | _ => False
@[simp] theorem isLrec_some (b : Nat) (r : Loop) (cs : List AV) : IsLrec (some (.lrec b r cs)) = True := (rfl)
@[simp] theorem MA_yf {ob ob' : Obs} {ρ : Nat → Nat} {m n : Nat} : MA ob ρ ob' (.yf m) (.yf n) = (m = ρ n ∧ IsLrec (ob' n)) := by
  apply propext
  constructor
  · intro h
    cases h with
    | yf _ b r cs h => exact ⟨rfl, by rw [h]; trivial⟩
  · rintro ⟨rfl, h⟩
    unfold IsLrec at h
    split at h
    · rename_i b r cs e; exact .yf n b r cs e
    · exact h.elim
def LrecM (st : Nat) (r : Loop) (ob : Obs) (ρ : Nat → Nat) (ob' : Obs) (cs' : List AV) (b : Option Ob) : Prop := match b with
  | some (.lrec st2 r2 cs) => st2 = st ∧ r2 = r ∧ MAs ob ρ ob' cs cs'
  | _ => False
@[simp] theorem MO_lrec {ob ob' : Obs} {ρ : Nat → Nat} {n st : Nat} {r : Loop} {cs' : List AV} : MO ob ρ ob' n (.lrec st r cs') = LrecM st r ob ρ ob' cs' (ob (ρ n)) := by
  apply propext
  unfold LrecM
  constructor
  · rintro ⟨cs, h, k⟩; rw [h]; exact ⟨rfl, rfl, k⟩
  · intro h
    split at h
    · rename_i st2 r2 cs e; obtain ⟨rfl, rfl, h⟩ := h; exact ⟨cs, e, h⟩
    · exact h.elim
end Cr
