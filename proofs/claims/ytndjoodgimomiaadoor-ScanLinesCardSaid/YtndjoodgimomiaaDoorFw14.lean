/- Operations in whatever order. -/
import Derived.Test.YtndjoodgimomiaaDoorFw13
namespace Cr
open Go Go.RowKit

/-- What the instruction may come to. -/
def Does (C : Cons) (d : Nat) (m : MOp) (s : Nat → AV) (ob : Obs) (v : AV) (ob' : Obs) : Prop := ∀ K : AV → Obs → Prop, K v ob' → mop C d m s ob K

section
variable {C : Cons} {d : Nat} {m : MOp} {s s2 : Nat → AV} {ob ob2 : Obs} {K : AV → Obs → Prop}

theorem ev_congr {x : Opd} (h : ∀ k ∈ x.slots, s k = s2 k) : x.ev s = x.ev s2 := by
  cases x with
  | t k => exact h k (by simp [Opd.slots])
  | c p => rfl
  | v a => rfl

theorem map_ev_congr {xs : List Opd} (h : ∀ k ∈ xs.flatMap Opd.slots, s k = s2 k) : xs.map (Opd.ev s) = xs.map (Opd.ev s2) :=
  List.map_congr_left fun x hx => ev_congr fun k hk => h k (List.mem_flatMap.mpr ⟨x, hx, hk⟩)

theorem optI_congr {x : Option Opd} (h : ∀ k ∈ optSlots x, s k = s2 k) (n : Int) : optI s n x = optI s2 n x := by
  cases x with
  | none => rfl
  | some x => simp only [optI, ev_congr (s := s) (s2 := s2) (x := x) h]

theorem buildW_congr : ∀ {ps : List (Nat × Nat × Opd)} {z : List AV}, (∀ k ∈ ps.flatMap (fun p => p.2.2.slots), s k = s2 k) → buildW z ps s = buildW z ps s2
  | [], z, _ => rfl
  | (o, n, x) :: r, z, h => by
    have hx : x.ev s = x.ev s2 := ev_congr fun k hk => h k (by simp [hk])
    simp only [buildW, hx]
    split
    · split
      · exact buildW_congr fun k hk => h k (by simp only [List.flatMap_cons, List.mem_append]; exact .inr hk)
      · rfl
    · rfl

theorem elemsW_congr {sz : Nat} : ∀ {ps : List (Nat × Opd)} {z : List PV}, (∀ k ∈ ps.flatMap (fun p => p.2.slots), s k = s2 k) → elemsW ob sz z ps s = elemsW ob sz z ps s2
  | [], z, _ => rfl
  | (i, x) :: r, z, h => by
    have hx : x.ev s = x.ev s2 := ev_congr fun k hk => h k (by simp [hk])
    simp only [elemsW, hx]
    split
    · split
      · exact elemsW_congr fun k hk => h k (by simp only [List.flatMap_cons, List.mem_append]; exact .inr hk)
      · rfl
    · rfl

theorem minmaxW_congr {b : Bool} {xs : List Opd} {K : PV → Prop} (h : ∀ k ∈ xs.flatMap Opd.slots, s k = s2 k) : minmaxW b s xs K = minmaxW b s2 xs K := by
  match xs with
  | [x, y] =>
    have hx : x.ev s = x.ev s2 := ev_congr fun k hk => h k (by simp [hk])
    have hy : y.ev s = y.ev s2 := ev_congr fun k hk => h k (by simp [hk])
    simp only [minmaxW, hx, hy]
  | [] => rfl
  | [_] => rfl
  | _ :: _ :: _ :: _ => rfl

theorem mop_congr (h : ∀ k ∈ m.slots, s k = s2 k) : mop C d m s ob K = mop C d m s2 ob K := by
  cases m with
  | mv x => simp only [mop, ev_congr (s := s) (s2 := s2) (x := x) h]
  | box t x => simp only [mop, ev_congr (s := s) (s2 := s2) (x := x) h]
  | zero t cs => rfl
  | build z ps => simp only [mop, buildW_congr (s := s) (s2 := s2) h]
  | bsl sz z len ps => simp only [mop, elemsW_congr (s := s) (s2 := s2) h]
  | load g sz x => simp only [mop, ev_congr (s := s) (s2 := s2) (x := x) h]
  | store sz x v =>
    have hx : x.ev s = x.ev s2 := ev_congr fun k hk => h k (by simp [MOp.slots, hk])
    have hv : v.ev s = v.ev s2 := ev_congr fun k hk => h k (by simp [MOp.slots, hk])
    simp only [mop, hx, hv]
  | nilck x => simp only [mop, ev_congr (s := s) (s2 := s2) (x := x) h]
  | bin op pl x y =>
    have hx : x.ev s = x.ev s2 := ev_congr fun k hk => h k (by simp [MOp.slots, hk])
    have hv : y.ev s = y.ev s2 := ev_congr fun k hk => h k (by simp [MOp.slots, hk])
    simp only [mop, hx, hv]
  | not x => simp only [mop, ev_congr (s := s) (s2 := s2) (x := x) h]
  | neg x => simp only [mop, ev_congr (s := s) (s2 := s2) (x := x) h]
  | conv k x => simp only [mop, ev_congr (s := s) (s2 := s2) (x := x) h]
  | fadr off x => simp only [mop, ev_congr (s := s) (s2 := s2) (x := x) h]
  | fld g off sz x => simp only [mop, ev_congr (s := s) (s2 := s2) (x := x) h]
  | iadr sz x i =>
    have hx : x.ev s = x.ev s2 := ev_congr fun k hk => h k (by simp [MOp.slots, hk])
    have hv : i.ev s = i.ev s2 := ev_congr fun k hk => h k (by simp [MOp.slots, hk])
    simp only [mop, hx, hv]
  | idx x i =>
    have hx : x.ev s = x.ev s2 := ev_congr fun k hk => h k (by simp [MOp.slots, hk])
    have hv : i.ev s = i.ev s2 := ev_congr fun k hk => h k (by simp [MOp.slots, hk])
    simp only [mop, hx, hv]
  | slc str sz x lo hi mx =>
    have hx : x.ev s = x.ev s2 := ev_congr fun k hk => h k (by simp [MOp.slots, hk])
    have h1 : ∀ n, optI s n lo = optI s2 n lo := optI_congr fun k hk => h k (by simp [MOp.slots, hk])
    have h2 : ∀ n, optI s n hi = optI s2 n hi := optI_congr fun k hk => h k (by simp [MOp.slots, hk])
    have h3 : ∀ n, optI s n mx = optI s2 n mx := optI_congr fun k hk => h k (by simp [MOp.slots, hk])
    simp only [mop, hx, h1, h2, h3]
  | ext x i => simp only [mop, ev_congr (s := s) (s2 := s2) (x := x) h]
  | pick c x y =>
    have hc : c.ev s = c.ev s2 := ev_congr fun k hk => h k (by simp [MOp.slots, hk])
    have hx : x.ev s = x.ev s2 := ev_congr fun k hk => h k (by simp [MOp.slots, hk])
    have hv : y.ev s = y.ev s2 := ev_congr fun k hk => h k (by simp [MOp.slots, hk])
    simp only [mop, hc, hx, hv]
  | mkfn f caps => simp only [mop, map_ev_congr (s := s) (s2 := s2) (xs := caps) h]
  | call pr f args =>
    have hx : f.ev s = f.ev s2 := ev_congr fun k hk => h k (by simp [MOp.slots, hk])
    have hv : args.map (Opd.ev s) = args.map (Opd.ev s2) := map_ev_congr fun k hk => h k (by simp only [MOp.slots, List.mem_append]; exact .inr hk)
    simp only [mop, hx, hv]
  | len str x => simp only [mop, ev_congr (s := s) (s2 := s2) (x := x) h]
  | app t sz bytes x y =>
    have hx : x.ev s = x.ev s2 := ev_congr fun k hk => h k (by simp [MOp.slots, hk])
    have hv : y.ev s = y.ev s2 := ev_congr fun k hk => h k (by simp [MOp.slots, hk])
    simp only [mop, hx, hv]
  | apps t x y =>
    have hx : x.ev s = x.ev s2 := ev_congr fun k hk => h k (by simp [MOp.slots, hk])
    have hv : y.ev s = y.ev s2 := ev_congr fun k hk => h k (by simp [MOp.slots, hk])
    simp only [mop, hx, hv]
  | minmax b xs => exact minmaxW_congr h
  | toU x => simp only [mop, ev_congr (s := s) (s2 := s2) (x := x) h]
  | frU t nc x => simp only [mop, ev_congr (s := s) (s2 := s2) (x := x) h]
  | sdat x => simp only [mop, ev_congr (s := s) (s2 := s2) (x := x) h]
  | ustr t x y =>
    have hx : x.ev s = x.ev s2 := ev_congr fun k hk => h k (by simp [MOp.slots, hk])
    have hv : y.ev s = y.ev s2 := ev_congr fun k hk => h k (by simp [MOp.slots, hk])
    simp only [mop, hx, hv]

/-- A predicate transformer that chooses one value. -/
def Picks {α : Type} (T : (α → Prop) → Prop) : Prop := ∀ K, T K → ∃ v, K v ∧ ∀ K', K' v → T K'

theorem Picks.at {α : Type} (v : α) : Picks (fun K => K v) := fun _ h => ⟨v, h, fun _ h => h⟩
theorem Picks.and {α : Type} (c : Prop) {T : (α → Prop) → Prop} (h : Picks T) : Picks (fun K => c ∧ T K) := fun K hk => let ⟨v, h1, h2⟩ := h K hk.2; ⟨v, h1, fun K' h' => ⟨hk.1, h2 K' h'⟩⟩
theorem Picks.ex {α β : Type} {T : β → (α → Prop) → Prop} (h : ∀ b, Picks (T b)) : Picks (fun K => ∃ b, T b K) := fun K ⟨b, hb⟩ => let ⟨v, h1, h2⟩ := h b K hb; ⟨v, h1, fun K' h' => ⟨b, h2 K' h'⟩⟩
theorem Picks.no {α : Type} : Picks (fun _ : α → Prop => False) := fun _ h => h.elim
theorem Picks.via {α β : Type} (f : β → α) {T : (β → Prop) → Prop} (h : Picks T) : Picks (fun K : α → Prop => T fun b => K (f b)) := fun K hk => let ⟨v, h1, h2⟩ := h _ hk; ⟨f v, h1, fun K' h' => h2 _ h'⟩

theorem picks_intBin (op : BinOp) (k : IntKind) (a b : Int) : Picks (intBin op k a b) := by
  show Picks fun K => intBin op k a b K
  cases op <;> simp only [intBin] <;> (repeat' first | exact Picks.no | exact Picks.at _ | apply Picks.and)
theorem picks_strBin (op : BinOp) (a b : Str) : Picks (strBin op a b) := by
  show Picks fun K => strBin op a b K
  cases op <;> simp only [strBin] <;> (repeat' first | exact Picks.no | exact Picks.at _ | apply Picks.and)
theorem picks_eqBin (op : BinOp) (r : Option Bool) : Picks (eqBin op r) := by
  unfold eqBin; split <;> first | exact Picks.no | exact Picks.at _
theorem picks_binW (op : BinOp) (pl : List Nat) (x y : AV) : Picks (binW op pl x y) := by
  unfold binW
  split
  · exact Picks.and _ (picks_intBin _ _ _ _)
  · exact picks_strBin _ _ _
  · exact Picks.and _ (picks_eqBin _ _)
  · exact Picks.and _ (picks_eqBin _ _)
  · exact Picks.and _ (picks_eqBin _ _)
  · exact Picks.and _ (picks_eqBin _ _)
  · exact Picks.and _ (Picks.and _ (Picks.and _ (picks_eqBin _ _)))
  · exact Picks.no
theorem picks_slcStr (x : Str) (l h : Int) : Picks (slcStr x l h) := by
  unfold slcStr; (repeat' first | exact Picks.at _ | apply Picks.and)
theorem picks_slcRow (cap : Option Nat) (es : List PV) (l h : Int) (m : Option Int) : Picks (slcRow cap es l h m) := by
  show Picks fun K => slcRow cap es l h m K
  cases m <;> simp only [slcRow] <;> (repeat' first | exact Picks.at _ | apply Picks.and)
theorem picks_minmax (b : Bool) (s : Nat → AV) (xs : List Opd) : Picks (minmaxW b s xs) := by
  show Picks fun K => minmaxW b s xs K
  match xs with
  | [x, y] =>
    simp only [minmaxW]
    split
    · exact Picks.and _ (Picks.at _)
    · exact Picks.no
  | [] => exact Picks.no
  | [_] => exact Picks.no
  | _ :: _ :: _ :: _ => exact Picks.no

theorem picks_mop (C : Cons) (d : Nat) (m : MOp) (s : Nat → AV) (ob : Obs) : Picks (fun K : AV × Obs → Prop => mop C d m s ob fun v o => K (v, o)) := by
  have at2 : ∀ (v : AV) (o : Obs), Picks (fun K : AV × Obs → Prop => K (v, o)) := fun v o => Picks.at (v, o)
  have pv2 : ∀ (T : (PV → Prop) → Prop), Picks T → Picks (fun K : AV × Obs → Prop => T fun p => K (.pv p, ob)) := fun T h => Picks.via (fun p => (AV.pv p, ob)) h
  cases m <;> simp only [mop]
  case mv x => exact at2 _ _
  case box t x =>
    split
    · exact Picks.and _ (at2 _ _)
    · exact Picks.no
  case zero t cs => exact Picks.and _ (at2 _ _)
  case build z ps => split; · exact at2 _ _
                     · exact Picks.no
  case bsl sz z len ps => split; · exact at2 _ _
                          · exact Picks.no
  case load g sz x =>
    split
    · split
      · exact Picks.and _ (at2 _ _)
      · exact Picks.ex fun p => Picks.and _ (at2 _ _)
    · split
      · split
        · exact Picks.and _ (at2 _ _)
        · exact Picks.ex fun p => Picks.and _ (at2 _ _)
      · exact Picks.no
    · exact Picks.no
  case store sz x v =>
    split
    · split
      · exact Picks.and _ (Picks.and _ (at2 _ _))
      · exact Picks.no
    · exact Picks.no
  case nilck x => split <;> first | exact at2 _ _ | exact Picks.no
  case bin op pl x y => exact pv2 _ (picks_binW _ _ _ _)
  case not x => split <;> first | exact at2 _ _ | exact Picks.no
  case neg x => split <;> first | exact Picks.and _ (at2 _ _) | exact Picks.no
  case conv k x => split <;> first | exact Picks.and _ (at2 _ _) | exact Picks.no
  case fadr off x => split <;> first | exact at2 _ _ | exact Picks.no
  case fld g off sz x =>
    split
    · split
      · exact Picks.and _ (at2 _ _)
      · exact Picks.ex fun p => Picks.and _ (at2 _ _)
    · exact Picks.no
  case iadr sz x i => split; · exact Picks.and _ (Picks.ex fun e => Picks.and _ (Picks.and _ (at2 _ _)))
                      · exact Picks.no
  case idx x i => split; · exact Picks.and _ (Picks.ex fun e => Picks.and _ (at2 _ _))
                  · exact Picks.no
  case slc str sz x lo hi mx =>
    split
    · refine Picks.and _ ?_
      split
      · exact pv2 _ (picks_slcStr _ _ _)
      · exact Picks.no
    · refine Picks.and _ (Picks.and _ ?_)
      split
      · split
        · exact pv2 _ (picks_slcRow _ _ _ _ _)
        · split
          · exact Picks.and _ (pv2 _ (picks_slcRow _ _ _ _ _))
          · exact Picks.no
      · exact Picks.no
    · exact Picks.no
  case ext x i => split <;> first | exact Picks.ex fun v => Picks.and _ (at2 _ _) | exact Picks.no
  case pick c x y =>
    split
    · rename_i t _
      cases t with
      | true => intro K h; exact ⟨_, h.1 rfl, fun K' h' => ⟨fun _ => h', fun e => by cases e⟩⟩
      | false => intro K h; exact ⟨_, h.2 rfl, fun K' h' => ⟨fun e => (by cases e), fun _ => h'⟩⟩
    · exact Picks.no
  case mkfn f caps => exact at2 _ _
  case call pr f args =>
    have pW : ∀ (g : Option FuncId) vs, Picks (fun K : AV × Obs → Prop => callW C g vs ob fun v o => K (v, o)) := fun g vs =>
      Picks.ex fun as => Picks.ex fun os => Picks.ex fun rs => Picks.ex fun os2 => Picks.ex fun ρ => Picks.ex fun ρ' => Picks.ex fun ob2 =>
        Picks.and _ (Picks.and _ (Picks.and _ (Picks.and _ (at2 _ _))))
    have pP : ∀ g vs, Picks (fun K : AV × Obs → Prop => callP C g vs ob fun v o => K (v, o)) := by
      intro g vs
      simp only [callP]
      split
      · exact Picks.ex fun qs => Picks.ex fun rs => Picks.and _ (Picks.and _ (at2 _ _))
      · exact Picks.no
    split
    · cases pr
      · exact pW _ _
      · exact pP _ _
    · cases pr
      · exact pW _ _
      · exact Picks.no
    · cases pr
      · exact pW _ _
      · exact Picks.no
    · exact Picks.no
  case len str x => split <;> first | exact Picks.and _ (at2 _ _) | exact Picks.no
  case app t sz bytes x y =>
    split
    · refine Picks.and _ ?_
      split
      · (repeat' first | exact at2 _ _ | apply Picks.and)
      · split
        · (repeat' first | exact at2 _ _ | apply Picks.and)
        · exact Picks.no
      · exact Picks.no
    · exact Picks.no
  case apps t x y =>
    split
    · split
      · (repeat' first | exact at2 _ _ | apply Picks.and)
      · split
        · (repeat' first | exact at2 _ _ | apply Picks.and)
        · exact Picks.no
      · exact Picks.no
    · exact Picks.no
  case minmax b xs => exact pv2 _ (picks_minmax _ _ _)
  case toU x =>
    split
    · split
      · exact Picks.and _ (at2 _ _)
      · exact Picks.no
    · exact Picks.no
  case frU t nc x =>
    split
    · split
      · exact Picks.and _ (Picks.and _ (Picks.and _ (at2 _ _)))
      · exact Picks.no
    · exact Picks.no
  case sdat x =>
    split
    · split
      · exact Picks.and _ (Picks.and _ (at2 _ _))
      · exact Picks.no
    · exact Picks.no
  case ustr t x y =>
    split
    · unfold ustrRow
      split
      · exact Picks.and _ (Picks.and _ (Picks.and _ (Picks.and _ (Picks.and _ (Picks.ex fun b => Picks.and _ (at2 _ _))))))
      · exact Picks.no
    · exact Picks.no

theorem mop_ex (h : mop C d m s ob K) : ∃ v ob', K v ob' ∧ Does C d m s ob v ob' := by
  obtain ⟨⟨v, ob'⟩, h1, h2⟩ := picks_mop C d m s ob (fun p => K p.1 p.2) h
  exact ⟨v, ob', h1, fun K' h' => h2 (fun p => K' p.1 p.2) h'⟩

/-- An instruction of the kinds 0 and 1 changes no variable; one of the kind 0 looks at none. -/
theorem mop_kind1 (hk : m.kind ≤ 1) : mop C d m s ob K = mop C d m s ob fun v _ => K v ob := by
  cases m <;> simp only [MOp.kind] at hk <;> first | omega | rfl | skip
  rename_i pr f args
  cases pr
  · simp at hk
  · simp only [mop, callP, if_true]

theorem mop_kind0 (hk : m.kind = 0) : mop C d m s ob K = mop C d m s ob2 fun v _ => K v ob := by
  cases m <;> simp only [MOp.kind] at hk <;> first | omega | rfl | skip
  rename_i pr f args
  cases pr <;> simp at hk

end
end Cr
