/- slices.SortFunc and slices.CompactFunc at facts. -/
import Derived.Test.YtiagnjkaokhcfaaGreatFOrd
import Derived.Test.YtiagnjkaokhcfaaGreatFLays
import Derived.Test.YtiagnjkaokhcfaaGreatFCompactK
set_option linter.unusedVariables false
set_option linter.unusedSimpArgs false
set_option maxRecDepth 100000
namespace Go.Proofs.YtiagnjkaokhcfaaGreatD
open Go Go.Proofs Go.Shelf Go.Sort

theorem SpecG.mono {P : Program} {f : Nat} {vs : List V} {g : List (Option Obj)} {Post Post' : V → List (Option Obj) → Prop} (h : SpecG P f vs g Post) (hp : ∀ r g2, Post r g2 → Post' r g2) : SpecG P f vs g Post' := by
  refine ⟨h.1, fun E0 xs hin hv => (h.2 E0 xs hin hv).mono fun e w' he => ?_⟩
  cases e with
  | panicked chain => exact he.elim
  | outgrown => exact he.elim
  | returned x =>
    obtain ⟨r, g2, E2, h1, h2⟩ := he
    exact ⟨r, g2, E2, hp r g2 h1, h2⟩
theorem rows_map {α β : Type} (f : β → List V) (g : α → β) (xs : List α) : rows (fun x => f (g x)) xs = rows f (xs.map g) := by
  induction xs with
  | nil => rfl
  | cons x xs ih => simp [rows, ih]
/-- Facts that are not too long. -/
abbrev FactB := { f : FactC // f.2.length ≤ 1099511627776 }
theorem liftB : ∀ (xs : List FactC), (∀ x ∈ xs, x.2.length ≤ 1099511627776) → ∃ ys : List FactB, ys.map (fun y => y.1) = xs
  | [], _ => ⟨[], rfl⟩
  | x :: xs, h => by
    obtain ⟨ys, hy⟩ := liftB xs fun y hy => h y (by simp [hy])
    exact ⟨⟨x, h x (by simp)⟩ :: ys, by simp [hy]⟩
theorem flat_rFact (x : FactC) : ∀ c ∈ roVs (tFact x), flat c = true := by
  rw [tFact_ro]
  intro c hc
  simp only [rFact, List.mem_cons, List.not_mem_nil, or_false] at hc
  rcases hc with rfl | rfl <;> rfl
theorem sortFacts_spec (xs : List FactC) (hb : ∀ x ∈ xs, x.2.length ≤ 1099511627776) (hsz : xs.length ≤ 1099511627776) :
    SpecG Tryz.prog 135 [.own 0 2 0 xs.length xs.length none, .fn 136 []] [some ⟨false, rows tFact xs⟩] fun r g2 => r = .tup [] ∧ ∃ ys : List FactC, ys.Perm xs ∧ ys.Pairwise (fun a b => ¬ cmpF b a < 0) ∧ g2 = [some ⟨false, rows tFact ys⟩] := by
  obtain ⟨zs, rfl⟩ := liftB xs hb
  have := sort_specK layF_ok 2 (by decide) Tryz.isAgg138 Tryz.sizeOf138 (fun x : FactB => tFact x.1) (fun x => rfl) (fun x => flat_rFact x.1) 136 (fun a b => cmpF a.1 b.1) (swo_of_tot (lt := fun a b => ltF a.1 b.1) ⟨fun a => totF.irr _, fun a b c => totF.tr _ _ _, fun a b => by
    rcases totF.tri a.1 b.1 with h | h | h
    · exact .inl h
    · exact .inr (.inl (Subtype.ext h))
    · exact .inr (.inr h)⟩ fun a b => ltF_cmp _ _) (fun x y => by rw [tFact_ro, tFact_ro]; exact compareFacts_spec x.1 y.1 x.2 y.2) ⟨_, _, Tryz.func135, rfl, rfl⟩ zs (by rw [List.length_map] at hsz; omega)
  rw [rows_map] at this
  rw [List.length_map]
  refine SpecG.mono this fun r g2 ⟨h1, ys, h2, h3, h4⟩ => ⟨h1, ys.map (·.1), h2.map _, ?_, ?_⟩
  · rw [List.pairwise_map]; exact h3
  · rw [h4, rows_map]
set_option maxHeartbeats 1000000 in
theorem compFacts_none (p : Option Addr) (cap : Nat) (fv : Value) (w : World) : Calls Tryz.prog 137 #[.slice p 0 cap, fv] w fun e w' => e = .returned (.slice p 0 cap) ∧ w' = w := by
  go_enter Tryz.func137, Tryz.ntmps137
  go_wp2
  go_ret
  first | exact ⟨rfl, rfl⟩ | rfl
theorem compFacts_walk : CompWalk Tryz.prog 137 2 fun vs => .agg vs.toArray := by
  intro α _ enc hk h1 ef g blk off cap d w eg hcmp hH hblk hF hsz hcap
  obtain ⟨ea, eb, he'⟩ : ∃ ea eb : α → Value, enc = fun x => [ea x, eb x] := by
    refine ⟨fun x => (enc x).getD 0 (.bool false), fun x => (enc x).getD 1 (.bool false), ?_⟩
    funext x
    have := hk x
    show enc x = [(enc x).getD 0 (.bool false), (enc x).getD 1 (.bool false)]
    generalize enc x = l at this ⊢
    match l, this with
    | [a, b], _ => rfl
  clear hk
  subst he'
  exact compact_walkK ea eb ef g blk off cap d w eg hcmp (fun x => ⟨h1 x _ (by simp), h1 x _ (by simp)⟩) hH hblk hF hsz hcap
theorem compFacts_spec (xs : List FactC) (hb : ∀ x ∈ xs, x.2.length ≤ 1099511627776) (hsz : xs.length ≤ 1099511627776) :
    SpecG Tryz.prog 137 [.own 0 2 0 xs.length xs.length none, .fn 138 []] [some ⟨false, rows tFact xs⟩] fun r g2 => r = wFactS (compL eqF xs) ∧ g2 = [none] := by
  obtain ⟨zs, rfl⟩ := liftB xs hb
  have := comp_specK (P := Tryz.prog) (k := 2) (by decide) (mk := fun vs => .agg vs.toArray) (mv := fun vs => .agg vs) (fun E vs xs _ h => ⟨xs, rfl, h⟩) compFacts_walk (fun x : FactB => tFact x.1) (fun x => rfl) (fun x => flat_rFact x.1) 138 (fun a b => eqF a.1 b.1) (fun x y => by rw [tFact_ro, tFact_ro]; exact equalFact_spec x.1 y.1 x.2 y.2) ⟨_, _, Tryz.func137, rfl, rfl⟩ compFacts_none zs (by rw [List.length_map] at hsz; omega)
  rw [rows_map] at this
  rw [List.length_map]
  refine SpecG.mono this fun r g2 ⟨h1, h2⟩ => ⟨?_, h2⟩
  rw [h1, rows_map, compL_map eqF (fun y : FactB => y.1), wFactS, ← compL_map eqF (fun y : FactB => y.1), List.length_map]
end Go.Proofs.YtiagnjkaokhcfaaGreatD
