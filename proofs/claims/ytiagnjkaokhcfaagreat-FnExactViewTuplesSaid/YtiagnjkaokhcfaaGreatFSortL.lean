/- slices.SortFunc and slices.CompactFunc at lists of ints. -/
import Derived.Test.YtiagnjkaokhcfaaGreatFOrd
import Derived.Test.YtiagnjkaokhcfaaGreatFLays
import Derived.Test.YtiagnjkaokhcfaaGreatFCompact1
import Derived.Test.YtiagnjkaokhcfaaGreatFEv2
set_option linter.unusedVariables false
set_option linter.unusedSimpArgs false
set_option maxRecDepth 100000
namespace Go.Proofs.YtiagnjkaokhcfaaGreatD
open Go Go.Proofs Go.Shelf Go.Sort

theorem SpecG.mono' {P : Program} {f : Nat} {vs : List V} {g : List (Option Obj)} {Post Post' : V → List (Option Obj) → Prop} (h : SpecG P f vs g Post) (hp : ∀ r g2, Post r g2 → Post' r g2) : SpecG P f vs g Post' := by
  refine ⟨h.1, fun E0 xs hin hv => (h.2 E0 xs hin hv).mono fun e w' he => ?_⟩
  cases e with
  | panicked chain => exact he.elim
  | outgrown => exact he.elim
  | returned x =>
    obtain ⟨r, g2, E2, h1, h2⟩ := he
    exact ⟨r, g2, E2, hp r g2 h1, h2⟩
theorem rows_map' {α β : Type} (f : β → List V) (g : α → β) (xs : List α) : rows (fun x => f (g x)) xs = rows f (xs.map g) := by
  induction xs with
  | nil => rfl
  | cons x xs ih => simp [rows, ih]
/-- Lists that are not too long. -/
abbrev ListB := { l : List Int // l.length ≤ 1099511627776 }
theorem liftL : ∀ (xs : List (List Int)), (∀ x ∈ xs, x.length ≤ 1099511627776) → ∃ ys : List ListB, ys.map (fun y => y.1) = xs
  | [], _ => ⟨[], rfl⟩
  | x :: xs, h => by
    obtain ⟨ys, hy⟩ := liftL xs fun y hy => h y (by simp [hy])
    exact ⟨⟨x, h x (by simp)⟩ :: ys, by simp [hy]⟩
theorem tL_ro (x : List Int) : roV (intsT x) = ints x := by
  show V.ro _ (roVs _) = _
  rw [roVs_ci]; rfl
theorem eqL_dec (a b : List Int) : decide (a = b) = decide (a = b) := rfl
theorem sortLists_none (p : Option Addr) (cap : Nat) (fv : Value) (w : World) : Calls Tryz.prog 165 #[.slice p 0 cap, fv] w fun e w' => e = .returned (.tuple #[]) ∧ w' = w :=
  AnyF.slices_SortFunc_none { layL_ok with } p cap fv w
theorem sortLists_spec (xs : List (List Int)) (hb : ∀ x ∈ xs, x.length ≤ 1099511627776) (hsz : xs.length ≤ 1099511627776) :
    SpecG Tryz.prog 165 [.own 0 1 0 xs.length xs.length none, .fn 166 []] [some ⟨false, rows tL xs⟩] fun r g2 => r = .tup [] ∧ ∃ ys : List (List Int), ys.Perm xs ∧ ys.Pairwise (fun a b => ¬ cmpI b a < 0) ∧ g2 = [some ⟨false, rows tL ys⟩] := by
  obtain ⟨zs, rfl⟩ := liftL xs hb
  have := sort_spec1 layL_ok (fun x : ListB => intsT x.1) (fun x => by rw [tL_ro]; rfl) 166 (fun a b => cmpI a.1 b.1) (swo_of_tot (lt := fun a b => ltI a.1 b.1) ⟨fun a => totI.irr _, fun a b c => totI.tr _ _ _, fun a b => by
    rcases totI.tri a.1 b.1 with h | h | h
    · exact .inl h
    · exact .inr (.inl (Subtype.ext h))
    · exact .inr (.inr h)⟩ fun a b => ltI_cmp _ _) (fun x y => by rw [tL_ro, tL_ro]; exact slicesCompare_spec x.1 y.1 x.2 y.2) ⟨_, _, Tryz.func165, rfl, rfl⟩ sortLists_none zs (by rw [List.length_map] at hsz; omega)
  have e1 : ∀ zs : List ListB, rows (fun x : ListB => [intsT x.1]) zs = rows tL (zs.map fun y => y.1) := fun zs => rows_map' tL _ zs
  rw [e1] at this
  rw [List.length_map]
  refine SpecG.mono' this fun r g2 ⟨h1, ys, h2, h3, h4⟩ => ⟨h1, ys.map (·.1), h2.map _, ?_, ?_⟩
  · rw [List.pairwise_map]; exact h3
  · rw [h4, e1]
set_option maxHeartbeats 1000000 in
theorem compLists_none (p : Option Addr) (cap : Nat) (fv : Value) (w : World) : Calls Tryz.prog 238 #[.slice p 0 cap, fv] w fun e w' => e = .returned (.slice p 0 cap) ∧ w' = w := by
  go_enter Tryz.func238, Tryz.ntmps238
  go_wp2
  go_ret
  first | exact ⟨rfl, rfl⟩ | rfl
theorem compLists_walk : CompWalk Tryz.prog 238 1 fun vs => vs.headD (.bool false) := by
  intro α _ enc hk h1 ef g blk off cap d w eg hcmp hH hblk hF hsz hcap
  obtain ⟨ea, he'⟩ : ∃ ea : α → Value, enc = fun x => [ea x] := by
    refine ⟨fun x => (enc x).headD (.bool false), ?_⟩
    funext x
    have := hk x
    show enc x = [(enc x).headD (.bool false)]
    generalize enc x = l at this ⊢
    match l, this with
    | [a], _ => rfl
  clear hk
  subst he'
  exact compact_walk1 ea ef g blk off cap d w eg hcmp (fun x => h1 x _ (by simp)) hH hblk hF hsz hcap
theorem compLists_spec (xs : List (List Int)) (hb : ∀ x ∈ xs, x.length ≤ 1099511627776) (hsz : xs.length ≤ 1099511627776) :
    SpecG Tryz.prog 238 [.own 0 1 0 xs.length xs.length none, .fn 182 []] [some ⟨false, rows tL xs⟩] fun r g2 => r = .tr 1 (compL (fun a b => decide (a = b)) xs).length (rows tL (compL (fun a b => decide (a = b)) xs)) ∧ g2 = [none] := by
  obtain ⟨zs, rfl⟩ := liftL xs hb
  have := comp_specK (P := Tryz.prog) (k := 1) (by decide) (mk := fun vs => vs.headD (.bool false)) (mv := fun vs => vs.headD .any) (fun E vs xs hl h => by
    match vs, xs, hl, h with
    | [v], [x], _, h => exact h.1) compLists_walk (fun x : ListB => tL x.1) (fun x => rfl) (fun x c hc => by
      have : c = roV (intsT x.1) := by simpa [tL, roVs] using hc
      rw [this, tL_ro]; rfl) 182 (fun a b => decide (a.1 = b.1)) (fun x y => by
      show Spec _ _ [roV (intsT x.1), roV (intsT y.1)] _
      rw [tL_ro, tL_ro]; exact slicesEq_spec x.1 y.1 x.2 y.2) ⟨_, _, Tryz.func238, rfl, rfl⟩ compLists_none zs (by rw [List.length_map] at hsz; omega)
  rw [rows_map' tL] at this
  rw [List.length_map]
  refine SpecG.mono' this fun r g2 ⟨h1, h2⟩ => ⟨?_, h2⟩
  rw [h1, rows_map' tL, compL_map (fun a b => decide (a = b)) (fun y : ListB => y.1), ← compL_map (fun a b => decide (a = b)) (fun y : ListB => y.1), List.length_map]
end Go.Proofs.YtiagnjkaokhcfaaGreatD
