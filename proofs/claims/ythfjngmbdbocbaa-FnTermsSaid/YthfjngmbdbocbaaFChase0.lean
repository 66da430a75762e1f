/- What a chase is made of: terms made equal, and why it comes to an end. -/
import Derived.Test.YthfjngmbdbocbaaFReplaceTerm3
import Derived.Test.YthfjngmbdbocbaaFMap2
set_option linter.unusedVariables false
set_option linter.unusedSimpArgs false
set_option maxRecDepth 100000
namespace Go.Proofs.YthfjngmbdbocbaaD
open Go Go.Proofs

def eqP (q : QueryT) (t u : Int) : Option QueryT :=
  if t == u then some q else if !isVar t && !isVar u then none
  else if !isVar t || (isVar u && decide (t < u)) then some (pReplaceTerm q u t) else some (pReplaceTerm q t u)
def wEq : Option QueryT → V
  | none => .tup [wQuery ([], []), cb false]
  | some y => .tup [wQuery y, cb true]
def wEqS (q : QueryT) : Option QueryT → V
  | none => .tup [vQuery q, cb false]
  | some y => .tup [wQuery y, cb true]
theorem isVar_iff {t : Int} (h : t < 20) : isVar t = decide (0 ≤ t) := by
  simp only [isVar, inR]
  by_cases h0 : 0 ≤ t
  · rw [decide_eq_true h0, decide_eq_true (by omega)]
    rfl
  · rw [decide_eq_false h0]
    rfl
theorem rep_size (q : QueryT) (a b : Int) : cQuery (pReplaceTerm q a b) = cQuery q := by
  unfold cQuery cAtomS
  simp only [pReplaceTerm, List.length_map]
  rw [sumB_map (c := cAtom) (d := cAtom) (fun x => by simp [cAtom, repA])]
theorem occurs_mem {q : QueryT} {v : Int} : occurs q v = true ↔ ∃ a ∈ q.2, v ∈ a.2 := by
  simp only [occurs, List.any_eq_true, hasA, has]
  constructor
  · rintro ⟨a, ha, w, hw, he⟩
    have : w = v := by simpa [eqV] using he
    exact ⟨a, ha, this ▸ hw⟩
  · rintro ⟨a, ha, hv⟩
    exact ⟨a, ha, v, hv, by simp [eqV]⟩
theorem occurs_rep {q : QueryT} {a b v : Int} (h : occurs (pReplaceTerm q a b) v = true) : (occurs q v = true ∧ v ≠ a) ∨ v = b := by
  obtain ⟨x, hx, hv⟩ := occurs_mem.1 h
  simp only [pReplaceTerm, List.mem_map] at hx
  obtain ⟨y, hy, rfl⟩ := hx
  simp only [repA, List.mem_map] at hv
  obtain ⟨w, hw, rfl⟩ := hv
  unfold rep1
  split
  · exact .inr rfl
  · rename_i hne
    exact .inl ⟨occurs_mem.2 ⟨y, hy, hw⟩, by simpa using hne⟩
def mu (q : QueryT) : Nat := ((List.range 20).filter fun v : Nat => occurs q (v : Int)).length
theorem filter_le {p q : Nat → Bool} : ∀ {l : List Nat}, (∀ v ∈ l, q v = true → p v = true) → (l.filter q).length ≤ (l.filter p).length
  | [], _ => Nat.le_refl _
  | x :: l, h => by
    have ih := filter_le (l := l) fun v hv => h v (by simp [hv])
    simp only [List.filter_cons]
    cases hq : q x with
    | true =>
      rw [h x (by simp) hq]
      simpa using ih
    | false =>
      cases hp : p x with
      | true => simp; omega
      | false => simpa using ih
theorem filter_lt {p q : Nat → Bool} : ∀ {l : List Nat} {a : Nat}, (∀ v ∈ l, q v = true → p v = true) → a ∈ l → p a = true → q a = false → (l.filter q).length < (l.filter p).length
  | x :: l, a, h, ha, hp, hq => by
    simp only [List.mem_cons] at ha
    have hl : ∀ v ∈ l, q v = true → p v = true := fun v hv => h v (by simp [hv])
    simp only [List.filter_cons]
    rcases ha with rfl | ha
    · rw [hp, hq]
      have := filter_le hl
      simp
      omega
    · have ih := filter_lt hl ha hp hq
      cases hqx : q x with
      | true =>
        rw [h x (by simp) hqx]
        simpa using ih
      | false =>
        cases hpx : p x with
        | true => simp; omega
        | false => simpa using ih
theorem mu_rep {q : QueryT} {a b : Int} (ha : isVar a = true) (hoa : occurs q a = true) (hab : a ≠ b) (hb : isVar b = true → occurs q b = true) : mu (pReplaceTerm q a b) < mu q := by
  obtain ⟨n, rfl, hn⟩ := isVar_nat ha
  refine filter_lt (p := fun v : Nat => occurs q (v : Int)) (q := fun v : Nat => occurs (pReplaceTerm q n b) (v : Int)) (a := n) (fun v hv h => ?_) (List.mem_range.2 hn) hoa ?_
  · rcases occurs_rep h with ⟨h1, _⟩ | h1
    · exact h1
    · have hvb : isVar b = true := by
        rw [← h1, isVar_iff (by have := List.mem_range.1 hv; omega)]
        exact decide_eq_true (by omega)
      rw [h1]
      exact hb hvb
  · cases h : occurs (pReplaceTerm q n b) n with
    | false => rfl
    | true =>
      rcases occurs_rep h with ⟨_, h1⟩ | h1
      · exact absurd rfl h1
      · exact absurd h1 hab
/-- The steps by which two terms of the body become one. -/
theorem mu_eqP {q y : QueryT} {t u : Int} (hne : t ≠ u) (ht : occurs q t = true) (hu : occurs q u = true) (h : eqP q t u = some y) : mu y < mu q ∧ cQuery y = cQuery q := by
  unfold eqP at h
  rw [show (t == u) = false from by simpa using hne, if_neg (by simp)] at h
  split at h
  · cases h
  · rename_i hv
    split at h
    · rename_i hv2
      cases h
      have huv : isVar u = true := by
        cases h1 : isVar t <;> cases h2 : isVar u <;> simp_all
      exact ⟨mu_rep huv hu (fun h => hne h.symm) (fun _ => ht), rep_size _ _ _⟩
    · rename_i hv2
      cases h
      have htv : isVar t = true := by
        cases h1 : isVar t <;> simp_all
      exact ⟨mu_rep htv ht hne (fun _ => hu), rep_size _ _ _⟩
/-- Atoms of one relation have as many arguments; all terms are terms. -/
def okA (l : List AtomC) : Prop := (∀ a ∈ l, ∀ b ∈ l, a.1 = b.1 → a.2.length = b.2.length) ∧ fineA l
theorem okA_rep {q : QueryT} {a b : Int} (h : okA q.2) (hb : b < 20) : okA (pReplaceTerm q a b).2 := by
  refine ⟨fun x hx y hy hxy => ?_, fun x hx t ht => ?_⟩
  · simp only [pReplaceTerm, List.mem_map] at hx hy
    obtain ⟨x', hx', rfl⟩ := hx
    obtain ⟨y', hy', rfl⟩ := hy
    simpa [repA] using h.1 x' hx' y' hy' hxy
  · simp only [pReplaceTerm, List.mem_map] at hx
    obtain ⟨x', hx', rfl⟩ := hx
    simp only [repA, List.mem_map] at ht
    obtain ⟨w, hw, rfl⟩ := ht
    unfold rep1
    split
    · exact hb
    · exact h.2 x' hx' w hw
theorem okA_eqP {q y : QueryT} {t u : Int} (h : okA q.2) (ht : t < 20) (hu : u < 20) (he : eqP q t u = some y) : okA y.2 := by
  unfold eqP at he
  split at he
  · cases he; exact h
  · split at he
    · cases he
    · split at he
      · cases he; exact okA_rep h ht
      · cases he; exact okA_rep h hu
theorem fineH_eqP {q y : QueryT} {t u : Int} (h : fineT q.1) (ht : t < 20) (hu : u < 20) (he : eqP q t u = some y) : fineT y.1 := by
  have key : ∀ a b, b < 20 → fineT (pReplaceTerm q a b).1 := fun a b hb x hx => by
    simp only [pReplaceTerm, List.mem_map] at hx
    obtain ⟨w, hw, rfl⟩ := hx
    unfold rep1
    split
    · exact hb
    · exact h w hw
  unfold eqP at he
  split at he
  · cases he; exact h
  · split at he
    · cases he
    · split at he
      · cases he; exact key _ _ ht
      · cases he; exact key _ _ hu
end Go.Proofs.YthfjngmbdbocbaaD
