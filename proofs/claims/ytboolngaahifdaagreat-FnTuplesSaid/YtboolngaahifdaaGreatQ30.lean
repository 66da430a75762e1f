/- Contracts and plain laws of this seat; no condition. -/
import Derived.Test.YtboolngaahifdaaGreatQ13
import Derived.Test.YtboolngaahifdaaGreatQ29
import Derived.Test.YtboolngaahifdaaGreatQ19
import Derived.Test.YtboolngaahifdaaGreatQ11
set_option linter.unusedVariables false
set_option linter.unusedSimpArgs false
set_option maxRecDepth 100000
namespace Go.Proofs.YtboolngaahifdaaGreatD
open Go Go.Proofs Go.Shelf Go.Sort
theorem SpecG.mono {P : Program} {f : Nat} {vs : List V} {g : List (Option Obj)} {Post Post' : V → List (Option Obj) → Prop} (h : SpecG P f vs g Post) (hp : ∀ r g2, Post r g2 → Post' r g2) : SpecG P f vs g Post' := by
 refine ⟨h.1, fun E0 xs hin hv => (h.2 E0 xs hin hv).mono fun e w' he => ?_⟩
 cases e with
 | panicked chain => exact he.elim
 | outgrown => exact he.elim
 | returned x =>
  obtain ⟨r, g2, E2, h1, h2⟩ := he
  exact ⟨r, g2, E2, hp r g2 h1, h2⟩
theorem rows_map {α β : Type} (f : β → List V) (g : α → β) (xs : List α) : rows (fun x => f (g x)) xs = rows f (xs.map g) := by
 induction xs with
 | nil => rfl
 | cons x xs ih => simp [rows, ih]
abbrev FactB := { f : FactC // f.2.length ≤ 1099511627776 }
theorem liftB : ∀ (xs : List FactC), (∀ x ∈ xs, x.2.length ≤ 1099511627776) → ∃ ys : List FactB, ys.map (fun y => y.1) = xs
 | [], _ => ⟨[], rfl⟩
 | x :: xs, h => by
  obtain ⟨ys, hy⟩ := liftB xs fun y hy => h y (by simp [hy])
  exact ⟨⟨x, h x (by simp)⟩ :: ys, by simp [hy]⟩
theorem flat_rFact (x : FactC) : ∀ c ∈ roVs (tFact x), flat c = true := by
 rw [tFact_ro]
 intro c hc
 simp only [rFact, List.mem_cons, List.not_mem_nil, or_false] at hc
 rcases hc with rfl | rfl <;> rfl
theorem sortFacts_spec (xs : List FactC) (hb : ∀ x ∈ xs, x.2.length ≤ 1099511627776) (hsz : xs.length ≤ 1099511627776) :
  SpecG Tryz.prog 172 [.own 0 2 0 xs.length xs.length none, .fn 147 []] [some ⟨false, rows tFact xs⟩] fun r g2 => r = .tup [] ∧ ∃ ys : List FactC, ys.Perm xs ∧ ys.Pairwise (fun a b => ¬ cmpF b a < 0) ∧ g2 = [some ⟨false, rows tFact ys⟩] := by
 obtain ⟨zs, rfl⟩ := liftB xs hb
 have := sort_specK layF_ok 2 (by decide) Tryz.isAgg121 Tryz.sizeOf121 (fun x : FactB => tFact x.1) (fun x => rfl) (fun x => flat_rFact x.1) 147 (fun a b => cmpF a.1 b.1) (swo_of_tot (lt := fun a b => ltF a.1 b.1) ⟨fun a => totF.irr _, fun a b c => totF.tr _ _ _, fun a b => by
  rcases totF.tri a.1 b.1 with h | h | h
  ·exact .inl h
  ·exact .inr (.inl (Subtype.ext h))
  ·exact .inr (.inr h)⟩ fun a b => ltF_cmp _ _) (fun x y => by rw [tFact_ro, tFact_ro]; exact compareFacts_spec x.1 y.1 x.2 y.2) ⟨_, _, Tryz.func172, rfl, rfl⟩ zs (by rw [List.length_map] at hsz; omega)
 rw [rows_map] at this
 rw [List.length_map]
 refine SpecG.mono this fun r g2 ⟨h1, ys, h2, h3, h4⟩ => ⟨h1, ys.map (·.1), h2.map _, ?_, ?_⟩
 ·rw [List.pairwise_map]; exact h3
 ·rw [h4, rows_map]
set_option maxHeartbeats 1000000 in
theorem compFacts_none (p : Option Addr) (cap : Nat) (fv : Value) (w : World) : Calls Tryz.prog 173 #[.slice p 0 cap, fv] w fun e w' => e = .returned (.slice p 0 cap) ∧ w' = w := by
 go_enter Tryz.func173, Tryz.ntmps173
 go_wp2
 go_ret
 first | exact ⟨rfl, rfl⟩ | rfl
theorem compFacts_walk : CompWalk Tryz.prog 173 2 fun vs => .agg vs.toArray := by
 intro α _ enc hk h1 ef g blk off cap d w eg hcmp hH hblk hF hsz hcap
 obtain ⟨ea, eb, he'⟩ : ∃ ea eb : α → Value, enc = fun x => [ea x, eb x] := by
  refine ⟨fun x => (enc x).getD 0 (.bool false), fun x => (enc x).getD 1 (.bool false), ?_⟩
  funext x
  have := hk x
  show enc x = [(enc x).getD 0 (.bool false), (enc x).getD 1 (.bool false)]
  generalize enc x = l at this ⊢
  match l, this with
  | [a, b], _ => rfl
 clear hk
 subst he'
 exact compact_walkK ea eb ef g blk off cap d w eg hcmp (fun x => ⟨h1 x _ (by simp), h1 x _ (by simp)⟩) hH hblk hF hsz hcap
theorem compFacts_spec (xs : List FactC) (hb : ∀ x ∈ xs, x.2.length ≤ 1099511627776) (hsz : xs.length ≤ 1099511627776) :
  SpecG Tryz.prog 173 [.own 0 2 0 xs.length xs.length none, .fn 174 []] [some ⟨false, rows tFact xs⟩] fun r g2 => r = wFactS (compL eqF xs) ∧ g2 = [none] := by
 obtain ⟨zs, rfl⟩ := liftB xs hb
 have := comp_specK (P := Tryz.prog) (k := 2) (by decide) (mk := fun vs => .agg vs.toArray) (mv := fun vs => .agg vs) (fun E vs xs _ h => ⟨xs, rfl, h⟩) compFacts_walk (fun x : FactB => tFact x.1) (fun x => rfl) (fun x => flat_rFact x.1) 174 (fun a b => eqF a.1 b.1) (fun x y => by rw [tFact_ro, tFact_ro]; exact equalFact_spec x.1 y.1 x.2 y.2) ⟨_, _, Tryz.func173, rfl, rfl⟩ compFacts_none zs (by rw [List.length_map] at hsz; omega)
 rw [rows_map] at this
 rw [List.length_map]
 refine SpecG.mono this fun r g2 ⟨h1, h2⟩ => ⟨?_, h2⟩
 rw [h1, rows_map, compL_map eqF (fun y : FactB => y.1), wFactS, ← compL_map eqF (fun y : FactB => y.1), List.length_map]
end Go.Proofs.YtboolngaahifdaaGreatD
namespace Go.Proofs.YtboolngaahifdaaGreatD
open Go Go.Proofs
abbrev QueryF := List Int × List FactC
def fzF (a : FactC) : FactC := (a.1, a.2.map fz)
def frzOk (q : QueryF) : Bool := terms3 q.1 && decide (q.2.length ≤ 8) && q.2.all fun a => terms3 a.2
def pFreeze (q : QueryF) : List FactC × List Int := if frzOk q then ((q.2.map fzF).foldl putF [], q.1.map fz) else ([], [])
def pFreezeV (q : QueryF) : V := .tup [wFactS (pFreeze q).1, intsT (pFreeze q).2]
theorem terms3_len {xs : List Int} (h : terms3 xs = true) : xs.length ≤ 3 := by
  unfold terms3 at h
  simp only [Bool.and_eq_true, decide_eq_true_eq] at h
  exact h.2
theorem terms3_all {xs : List Int} (h : terms3 xs = true) : xs.all isTerm = true := by
  unfold terms3 at h
  simp only [Bool.and_eq_true] at h
  exact h.1
theorem sumB_cap {α : Type} (f : α → Nat) (n : Nat) : ∀ (xs : List α), (∀ x ∈ xs, f x ≤ n) → sumB f xs ≤ n * xs.length
  | [], _ => by simp [sumB]
  | x :: xs, h => by
    have h1 := sumB_cap f n xs fun y hy => h y (by simp [hy])
    have h2 := h x (by simp)
    simp only [sumB, List.length_cons, Nat.mul_add, Nat.mul_one]
    omega
theorem mem_putGo (f a : FactC) : ∀ (l : List FactC) (p : Bool), a ∈ putGo f p l → a = f ∨ a ∈ l
  | [], p, h => by cases p <;> simp [putGo] at h; exact .inl h
  | x :: r, p, h => by
    have ih := mem_putGo f a r
    simp only [putGo] at h
    split at h
    · rcases List.mem_append.1 h with h1 | h1
      · split at h1
        · cases h1
        · exact .inl (by simpa using h1)
      · rcases List.mem_cons.1 h1 with rfl | h1
        · exact .inr (by simp)
        · rcases ih true h1 with h2 | h2
          · exact .inl h2
          · exact .inr (by simp [h2])
    · rcases List.mem_cons.1 h with rfl | h1
      · exact .inr (by simp)
      · rcases ih p h1 with h2 | h2
        · exact .inl h2
        · exact .inr (by simp [h2])
theorem short_fold : ∀ (fs db : List FactC), (∀ x ∈ fs, x.2.length ≤ 3) → (∀ x ∈ db, x.2.length ≤ 3) → (∀ x ∈ fs.foldl putF db, x.2.length ≤ 3) ∧ (fs.foldl putF db).length ≤ fs.length + db.length
  | [], db, _, h => ⟨h, by simp⟩
  | f :: fs, db, hf, h => by
    have h1 : ∀ x ∈ putF db f, x.2.length ≤ 3 := fun x hx => by
      rcases mem_putGo f x db false hx with rfl | h2
      · exact hf _ (by simp)
      · exact h x h2
    obtain ⟨i1, i2⟩ := short_fold fs (putF db f) (fun x hx => hf x (by simp [hx])) h1
    refine ⟨i1, ?_⟩
    have := putGo_length f db false
    rw [List.foldl_cons]
    have e : (putF db f).length ≤ db.length + 1 := this
    simp only [List.length_cons]
    omega
set_option maxHeartbeats 4000000 in
theorem specFreeze_spec (q : QueryF) (h : cQuery q ≤ 1048576) : Spec Tryz.prog 45 [vQuery q] (pFreezeV q) := by
  unfold cQuery cAtomS at h
  refine Spec_of mx Γ_ok Tryz.func45 rfl ?_
  unfold pFreezeV pFreeze frzOk
  conv => whnf
  refine ⟨_, l3Terms_spec q.1 (by omega), .inl rfl, .inl ?_⟩
  conv => whnf
  generalize ht : terms3 q.1 = b1
  cases b1 with
  | false =>
    conv => whnf
    exact ⟨rfl, rfl, rfl⟩
  | true =>
    conv => whnf
    generalize hc2 : decide ((q.2.length : Int) > 8) = c2
    cases c2 with
    | true =>
      have hl : ¬ q.2.length ≤ 8 := by have := of_decide_eq_true hc2; omega
      conv => whnf
      simp only [decide_eq_false hl, Bool.and_false, Bool.false_and, Bool.false_eq_true, if_false]
      exact ⟨rfl, rfl, rfl⟩
    | false =>
      have hl : q.2.length ≤ 8 := by have := of_decide_eq_false hc2; omega
      simp only [decide_eq_true hl, Bool.and_true, Bool.true_and]
      conv => whnf
      refine ⟨[(1,0),(2,0),(3,0),(4,0),(5,0)], fun m s => ∃ (k : Nat) (e : Int) (db : List FactC) (n : Nat) (r : List V), e = k ∧ m + k = q.2.length ∧ db = ((q.2.take k).map fzF).foldl putF [] ∧ n = db.length ∧ r = rows tFact db ∧ q.2.all (fun a => terms3 a.2) = (q.2.drop k).all (fun a => terms3 a.2) ∧ (∀ x ∈ (q.2.take k), x.2.length ≤ 3) ∧
        s = ⟨56, [(1, .ptr 0 0), (2, cnil), (3, cnil), (4, .own 1 2 0 n n none), (5, ci e)], [some ⟨true, rQuery q⟩, some ⟨false, r⟩]⟩, q.2.length, ⟨0, 0, [], 0, _, rfl, rfl, rfl, rfl, rfl, rfl, by simp, rfl⟩, ?_⟩
      rintro m s ⟨k, _, db, n, _, rfl, hm, hdb, hn, rfl, hall, hsh, rfl⟩
      conv => whnf
      split <;> rename_i h1
      all_goals simp only [decide_eq_true_eq, decide_eq_false_iff_not] at h1
      · conv => whnf
        have hk : k < q.2.length := by omega
        have hb := sumB_one (f := cAtom) hk
        have hcb : cAtom q.2[k] = q.2[k].2.length := rfl
        obtain ⟨s1, s2⟩ := short_fold ((q.2.take k).map fzF) [] (fun x hx => by
          obtain ⟨y, hy, rfl⟩ := List.mem_map.1 hx
          simpa [fzF] using hsh y hy) (by simp)
        rw [← hdb] at s1 s2
        have hcnt : cFactS db ≤ 1048576 := by
          have h3 := sumB_cap cFact 3 db s1
          have h4 : db.length ≤ k := by rw [List.length_map, List.length_take] at s2; simp at s2; omega
          show db.length + sumB cFact db ≤ 1048576
          omega
        rw [drop_all hk] at hall
        refine ⟨by omega, rows_len rAtom_len _, ?_⟩
        conv => whnf
        refine ⟨_, takeN_rp_field (k := k) (d := 1) (m := 1) (r := [ints q.2[k].2]) rAtom_len hk (by omega) rfl, ?_⟩
        conv => whnf
        refine ⟨_, l3Terms_spec q.2[k].2 (by omega), .inl rfl, .inl ?_⟩
        conv => whnf
        generalize ht2 : terms3 q.2[k].2 = b2 at hall
        cases b2 with
        | false =>
          conv => whnf
          rw [hall]
          exact ⟨rfl, rfl, rfl⟩
        | true =>
          conv => whnf
          rw [Bool.true_and] at hall
          refine ⟨List.range 17, by kernel_rfl, ?_⟩
          conv => whnf
          refine ⟨by omega, rows_len rAtom_len _, ?_⟩
          conv => whnf
          refine ⟨_, takeN_rp_field (k := k) (d := 0) (m := 1) (r := [ci q.2[k].1]) rAtom_len hk (by omega) rfl, ?_⟩
          conv => whnf
          refine ⟨by omega, rows_len rAtom_len _, ?_⟩
          conv => whnf
          refine ⟨_, takeN_rp_field (k := k) (d := 1) (m := 1) (r := [ints q.2[k].2]) rAtom_len hk (by omega) rfl, ?_⟩
          conv => whnf
          refine ⟨_, l8Values_spec q.2[k].2 (by omega) (terms3_all ht2), .inl rfl, .inl ?_⟩
          conv => whnf
          subst hn
          refine ⟨_, _, takeN_all (by rw [rows_len tFact_len]), roVs_rows tFact_ro _, ?_⟩
          conv => whnf
          rw [roVs_ci]
          refine ⟨_, l5Put_spec db (fzF q.2[k]) hcnt (by simp only [fzF, List.length_map]; omega), .inr (closed_wFactS _), .inr ?_⟩
          conv => whnf
          refine ⟨m - 1, by omega, k + 1, _, putF db (fzF q.2[k]), _, _, wrap_id (by omega) (by omega), by omega, ?_, rfl, rfl, hall, ?_, rfl⟩
          · rw [hdb, List.take_succ_eq_append_getElem hk, List.map_append, List.foldl_append]
            rfl
          · intro x hx
            rw [List.take_succ_eq_append_getElem hk] at hx
            rcases List.mem_append.1 hx with hx | hx
            · exact hsh x hx
            · have : x = q.2[k] := by simpa using hx
              subst this
              exact terms3_len ht2
      · conv => whnf
        have hkk : k = q.2.length := by omega
        rw [drop_end (by omega), List.all_nil] at hall
        rw [hkk, List.take_length] at hdb
        refine ⟨_, l8Values_spec q.1 (by omega) (terms3_all ht), .inl rfl, .inr ?_⟩
        conv => whnf
        rw [hall, hn]
        refine ⟨by rw [rows_len tFact_len], by rw [rows_len ciL_len], ?_⟩
        rw [hdb]
        rfl
theorem terms3_eq (xs : List Int) : terms3 xs = (decide (xs.length ≤ 3) && xs.all isTerm) := by unfold terms3; rw [Bool.and_comm]
set_option maxHeartbeats 4000000 in
theorem implFreeze_spec (q : QueryF) (h : cQuery q ≤ 1048576) : Spec Tryz.prog 104 [vQuery q] (pFreezeV q) := by
  unfold cQuery cAtomS at h
  refine Spec_of mx Γ_ok Tryz.func104 rfl ?_
  conv => whnf
  have hok : (terms3 q.1 && decide (q.2.length ≤ 8)) = (decide ((q.2.length : Int) ≤ 8) && (decide ((q.1.length : Int) ≤ 3) && q.1.all isTerm)) := by
    have e1 : decide ((q.2.length : Int) ≤ 8) = decide (q.2.length ≤ 8) := by rw [decide_eq_decide]; omega
    have e2 : decide ((q.1.length : Int) ≤ 3) = decide (q.1.length ≤ 3) := by rw [decide_eq_decide]; omega
    rw [e1, e2, ← terms3_eq, Bool.and_comm]
  generalize decide ((q.2.length : Int) ≤ 8) = c1 at hok
  cases c1
  rotate_left
  conv => whnf
  generalize decide ((q.1.length : Int) ≤ 3) = c2 at hok
  cases c2
  rotate_left
  conv => whnf
  refine ⟨_, areTerms_spec q.1 (by omega), .inl rfl, .inl ?_⟩
  generalize q.1.all isTerm = c3 at hok
  all_goals simp only [Bool.false_and, Bool.true_and] at hok
  all_goals conv => whnf
  all_goals refine ⟨[(1,0),(2,0),(3,0),(4,0),(26,0),(27,0),(28,0)], fun m s => ∃ (k : Nat) (e : Int) (ok : Bool), e = k ∧ m + k = q.2.length ∧ ok = (terms3 q.1 && decide (q.2.length ≤ 8) && (q.2.take k).all fun a => terms3 a.2) ∧
        s = ⟨74, [(1, .ptr 0 0), (2, cnil), (3, cnil), (4, cb ok), (26, vAtomS q.2), (27, ci q.2.length), (28, ci e)], [some ⟨true, rQuery q⟩]⟩, q.2.length, ⟨0, 0, _, rfl, rfl, by rw [hok, List.take_zero, List.all_nil, Bool.and_true], rfl⟩, ?_⟩
  all_goals
   (rintro m s ⟨k, _, ok, rfl, hm, hok2, rfl⟩
    conv => whnf
    split <;> rename_i h1
    all_goals simp only [decide_eq_true_eq, decide_eq_false_iff_not] at h1
    · conv => whnf
      have hk : k < q.2.length := by omega
      have hb := sumB_one (f := cAtom) hk
      have hcb : cAtom q.2[k] = q.2[k].2.length := rfl
      have hstep : (q.2.take (k + 1)).all (fun a => terms3 a.2) = ((q.2.take k).all (fun a => terms3 a.2) && (decide ((q.2[k].2.length : Int) ≤ 3) && q.2[k].2.all isTerm)) := by
        have e2 : decide ((q.2[k].2.length : Int) ≤ 3) = decide (q.2[k].2.length ≤ 3) := by rw [decide_eq_decide]; omega
        rw [List.take_succ_eq_append_getElem hk, List.all_append, e2, ← terms3_eq]; simp
      refine ⟨by omega, rows_len rAtom_len _, ?_⟩
      conv => whnf
      refine ⟨_, takeN_rp (k := k) rAtom_len hk, ?_⟩
      conv => whnf
      cases ok with
      | false =>
        conv => whnf
        refine ⟨m - 1, by omega, k + 1, _, false, wrap_id (by omega) (by omega), by omega, ?_, rfl⟩
        rw [hstep, ← Bool.and_assoc, ← hok2]; rfl
      | true =>
        conv => whnf
        generalize decide ((q.2[k].2.length : Int) ≤ 3) = d1 at hstep
        cases d1 with
        | false =>
          conv => whnf
          refine ⟨m - 1, by omega, k + 1, _, false, wrap_id (by omega) (by omega), by omega, ?_, rfl⟩
          rw [hstep, ← Bool.and_assoc, ← hok2]; rfl
        | true =>
          conv => whnf
          refine ⟨_, areTerms_spec q.2[k].2 (by omega), .inl rfl, .inl ?_⟩
          generalize q.2[k].2.all isTerm = d2 at hstep
          conv => whnf
          refine ⟨m - 1, by omega, k + 1, _, d2, wrap_id (by omega) (by omega), by omega, ?_, rfl⟩
          rw [hstep, ← Bool.and_assoc, ← hok2]; rfl
    · conv => whnf
      have hkk : k = q.2.length := by omega
      rw [hkk, List.take_length] at hok2
      have hfr : frzOk q = ok := hok2.symm
      unfold pFreezeV pFreeze
      rw [hfr]
      cases ok with
      | false =>
        conv => whnf
        exact ⟨rfl, rfl, rfl⟩
      | true =>
        have hall : q.2.all (fun a => terms3 a.2) = true := by
          unfold frzOk at hfr
          simp only [Bool.and_eq_true] at hfr
          exact hfr.2
        have hlen : q.2.length ≤ 8 := by
          unfold frzOk at hfr
          simp only [Bool.and_eq_true, decide_eq_true_eq] at hfr
          exact hfr.1.2
        have hhd : terms3 q.1 = true := by
          unfold frzOk at hfr
          simp only [Bool.and_eq_true] at hfr
          exact hfr.1.1
        conv => whnf
        refine ⟨[(1,0),(2,0),(3,0),(7,0),(51,0),(52,0),(53,0)], fun m s => ∃ (k : Nat) (e : Int) (n : Nat) (r : List V), e = k ∧ m + k = q.2.length ∧ n = k ∧ r = rows tFact ((q.2.take k).map fzF) ∧
          s = ⟨74, [(1, .ptr 0 0), (2, cnil), (3, cnil), (7, .own 1 2 0 n n none), (51, vAtomS q.2), (52, ci q.2.length), (53, ci e)], [some ⟨true, rQuery q⟩, some ⟨false, r⟩]⟩, q.2.length, ⟨0, 0, 0, _, rfl, rfl, rfl, rfl, rfl⟩, ?_⟩
        rintro m s ⟨k, _, n, _, rfl, hm, rfl, rfl, rfl⟩
        conv => whnf
        split <;> rename_i h1
        all_goals simp only [decide_eq_true_eq, decide_eq_false_iff_not] at h1
        · conv => whnf
          have hk : n < q.2.length := by omega
          have hb := sumB_one (f := cAtom) hk
          have hcb : cAtom q.2[n] = q.2[n].2.length := rfl
          have ht : terms3 q.2[n].2 = true := List.all_eq_true.1 hall _ (List.getElem_mem hk)
          refine ⟨by omega, rows_len rAtom_len _, ?_⟩
          conv => whnf
          refine ⟨_, takeN_rp (k := n) rAtom_len hk, ?_⟩
          conv => whnf
          refine ⟨List.range 10, by kernel_rfl, ?_⟩
          conv => whnf
          refine ⟨_, frozenAll_spec q.2[n].2 (by omega) (terms3_all ht), .inl rfl, .inr ?_⟩
          conv => whnf
          refine ⟨by rw [rows_len ciL_len], ?_⟩
          conv => whnf
          refine ⟨_, rfl, .inr ⟨solid_tFact (fzF q.2[n]), ?_⟩⟩
          conv => whnf
          refine ⟨by omega, by rw [rows_len tFact_len, List.length_map, List.length_take]; congr 1; omega, _, snoc_rows tFact _ (fzF q.2[n]), ?_⟩
          conv => whnf
          refine ⟨m - 1, by omega, n + 1, _, _, _, wrap_id (by omega) (by omega), by omega, rfl, ?_, rfl⟩
          rw [List.take_succ_eq_append_getElem hk, List.map_append, List.map_singleton]
        · conv => whnf
          have hkk : n = q.2.length := by omega
          subst hkk
          rw [List.take_length]
          refine .inr (.inr ⟨[1], [], ?_⟩)
          conv => whnf
          have hsh : ∀ x ∈ q.2.map fzF, x.2.length ≤ 1099511627776 := fun x hx => by
            obtain ⟨y, hy, rfl⟩ := List.mem_map.1 hx
            have := terms3_len (List.all_eq_true.1 hall _ hy)
            simp only [fzF, List.length_map]; omega
          have hs := sortFacts_spec (q.2.map fzF) hsh (by rw [List.length_map]; omega)
          rw [List.length_map] at hs
          refine ⟨_, hs, fun r g2 hP => ?_⟩
          obtain ⟨rfl, ys, hp, hsrt, rfl⟩ := hP
          have hyl : q.2.length = ys.length := by rw [hp.length_eq, List.length_map]
          refine .inl ?_
          conv => whnf
          refine ⟨[1001, 0, 2, 3, 1, 4, 5, 6, 1000, 1000], by kernel_rfl, ?_⟩
          conv => whnf
          refine .inr (.inr ⟨[1], noSubT_lk (by kernel_rfl), rfl, ?_⟩)
          conv => whnf
          have hys : ∀ x ∈ ys, x.2.length ≤ 1099511627776 := fun x hx => hsh x (hp.mem_iff.1 hx)
          have hcs := compFacts_spec ys hys (by omega)
          rw [← hyl] at hcs
          refine ⟨_, hcs, fun r g2 hP => ?_⟩
          obtain ⟨rfl, rfl⟩ := hP
          refine .inr ?_
          conv => whnf
          refine .inl ?_
          conv => whnf
          refine ⟨_, frozenAll_spec q.1 (by omega) (terms3_all hhd), .inl rfl, .inr ?_⟩
          conv => whnf
          refine ⟨by rw [rows_len tFact_len], by rw [rows_len ciL_len], ?_⟩
          show one [_, _] = V.tup [wFactS ((q.2.map fzF).foldl putF []), intsT (q.1.map fz)]
          rw [← sort_comp (q.2.map fzF) ys hp hsrt]
          rfl)
theorem small_Freeze (x0 : QueryF) (h0 : cQuery x0 ≤ 1048576) : cFactS (pFreeze x0).1 ≤ 1048576 ∧ (pFreeze x0).2.length ≤ 1048576 := by
  unfold pFreeze
  split
  · rename_i hf
    unfold frzOk at hf
    simp only [Bool.and_eq_true, decide_eq_true_eq] at hf
    obtain ⟨⟨h1, h2⟩, h3⟩ := hf
    obtain ⟨s1, s2⟩ := short_fold (x0.2.map fzF) [] (fun x hx => by
      obtain ⟨y, hy, rfl⟩ := List.mem_map.1 hx
      have := terms3_len (List.all_eq_true.1 h3 _ hy)
      simpa [fzF] using this) (by simp)
    have h4 := sumB_cap cFact 3 _ s1
    have h5 := terms3_len h1
    rw [List.length_map, List.length_nil] at s2
    refine ⟨?_, ?_⟩
    · show ((x0.2.map fzF).foldl putF []).length + sumB cFact ((x0.2.map fzF).foldl putF []) ≤ _
      omega
    · show (x0.1.map fz).length ≤ _
      rw [List.length_map]; omega
  · exact ⟨by show (0 : Nat) + 0 ≤ _; omega, by show (0 : Nat) ≤ _; omega⟩
theorem inR_bd {x lo hi : Int} (h : inR x lo hi = true) : lo ≤ x ∧ x ≤ hi := by simpa [inR] using h
def fzv (x : Int) : Int := 80 + x
theorem isQ_facts {s : List Int} {q : QueryT} (h : isQuery s q = true) : isSchema s = true ∧ q.1.all isTerm = true ∧ q.1.length ≤ 3 ∧ q.2.length ≤ 4 ∧ ∀ a ∈ q.2, takesS s a.1 a.2.length = true ∧ a.2.all isTerm = true := by
 simp only [isQuery, fineQ, terms3, Bool.and_eq_true, decide_eq_true_eq] at h
 obtain ⟨h1, ⟨h2, h3⟩, h4, h5, h6⟩ := h
 refine ⟨h1, h2, h3, by have := inR_bd h4; omega, fun a ha => ?_⟩
 have := List.all_eq_true.1 h5 a ha
 simp only [isAtom, Bool.and_eq_true] at this
 exact this
theorem takes_len {s : List Int} {r n : Int} (h : takesS s r n = true) : n ≤ 3 := by
 simp only [takesS, Bool.and_eq_true, decide_eq_true_eq] at h
 obtain ⟨h1, h2, h3⟩ := h
 have h4 := inR_bd h2
 obtain ⟨k, rfl⟩ : ∃ k : Nat, r = k := ⟨r.toNat, by omega⟩
 have hk : k < s.length := by omega
 rw [Int.toNat_natCast] at h3
 have : s.getD k 0 = s[k] := by simp [List.getD_eq_getElem?_getD, hk]
 rw [this] at h3
 unfold isSchema at h1
 simp only [Bool.and_eq_true, List.all_eq_true] at h1
 have h5 := inR_bd (h1.1 s[k] (List.getElem_mem hk))
 omega
theorem frz_ok {s : List Int} {q : QueryT} (h : isQuery s q = true) : frzOk q = true := by
 obtain ⟨h1, h2, h3, h4, h5⟩ := isQ_facts h
 simp only [frzOk, terms3, Bool.and_eq_true, decide_eq_true_eq, List.all_eq_true]
 refine ⟨⟨⟨List.all_eq_true.1 h2, h3⟩, by omega⟩, fun a ha => ⟨List.all_eq_true.1 (h5 a ha).2, ?_⟩⟩
 have := takes_len (h5 a ha).1
 omega
theorem strict_go {s : List Int} : ∀ (db : List FactC) (p : Option FactC), Strict ltF db → (∀ f ∈ db, isFact s f = true) → (∀ y, p = some y → ∀ f ∈ db, ltF y f = true) → dbGo s p db = true
 | [], p, _, _, _ => by cases p <;> rfl
 | x :: r, p, hs, hf, hp => by
  obtain ⟨h1, h2⟩ := List.pairwise_cons.1 hs
  simp only [dbGo, Bool.and_eq_true]
  refine ⟨⟨hf x (by simp), ?_⟩, strict_go r (some x) h2 (fun f hf' => hf f (by simp [hf'])) fun y hy f hf' => by cases hy; exact h1 f hf'⟩
  cases p with
  | none => rfl
  | some y => exact hp y rfl x (by simp)
theorem fz_rng {t : Int} (h : isTerm t = true) : 0 ≤ fz t ∧ fz t ≤ 99 := by
 have := term_rng h
 unfold fz
 split <;> omega
theorem frz_mem (q : QueryT) (a : FactC) : a ∈ (q.2.map fzF).foldl putF [] ↔ ∃ c ∈ q.2, fzF c = a := by
 rw [(putAll (q.2.map fzF) [] List.Pairwise.nil).2 a]
 simp
theorem frz_db {s : List Int} {q : QueryT} (h : isQuery s q = true) : isDb s (pFreeze q).1 = true := by
 obtain ⟨h1, h2, h3, h4, h5⟩ := isQ_facts h
 unfold pFreeze
 rw [if_pos (frz_ok h)]
 have hst := (putAll (q.2.map fzF) [] List.Pairwise.nil).1
 simp only [isDb, Bool.and_eq_true, decide_eq_true_eq]
 refine ⟨strict_go _ none hst (fun f hf => ?_) (fun y hy => by cases hy), h1, ?_⟩
 ·obtain ⟨c, hc, rfl⟩ := (frz_mem q f).1 hf
  obtain ⟨t1, t2⟩ := h5 c hc
  simp only [isFact, isVals, fzF, Bool.and_eq_true, List.length_map, List.all_eq_true, List.mem_map]
  refine ⟨t1, ?_⟩
  rintro y ⟨t, ht, rfl⟩
  have := fz_rng (List.all_eq_true.1 t2 t ht)
  simp [inR, this.1, this.2]
 ·have h6 := (short_fold (q.2.map fzF) [] (fun x hx => by
   obtain ⟨c, hc, rfl⟩ := List.mem_map.1 hx
   have := takes_len (h5 c hc).1
   simp only [fzF, List.length_map]
   omega) (fun x hx => by cases hx)).2
  simp only [List.length_map, List.length_nil] at h6
  omega
def unfz (x : Int) : Int := if x > 79 then IntKind.i64.wrap (IntKind.i64.wrap (x - 79) - 1) else IntKind.i64.wrap (-1 - x)
theorem specUnfreeze_spec (xs : List Int) (h : xs.length ≤ 1099511627776) : Spec Tryz.prog 118 [ints xs] (intsT (xs.map unfz)) := by
 refine Spec_of mx Γ_ok Tryz.func118 rfl ?_
 conv => whnf
 refine ⟨[(0,0),(2,0),(3,0),(4,0)], fun m st => ∃ (k : Nat) (e : Int) (n : Nat) (r : List V), e = k ∧ m + k = xs.length ∧ n = k ∧ r = rows ciL ((xs.take k).map unfz) ∧
  st = ⟨31, [(0, ints xs), (2, cnil), (3, .own 0 1 0 n n none), (4, ci e)], [some ⟨false, r⟩]⟩, xs.length, ⟨0, 0, 0, _, rfl, rfl, rfl, rfl, rfl⟩, ?_⟩
 rintro m st ⟨k, _, n, _, rfl, hm, rfl, rfl, rfl⟩
 conv => whnf
 split <;> rename_i h1
 all_goals simp only [decide_eq_true_eq, decide_eq_false_iff_not] at h1
 ·conv => whnf
  have hk : n < xs.length := by omega
  refine ⟨by omega, rows_len ciL_len _, ?_⟩
  conv => whnf
  refine ⟨_, takeN_rp (k := n) ciL_len hk, ?_⟩
  conv => whnf
  have hs : (xs.take (n + 1)).map unfz = (xs.take n).map unfz ++ [unfz xs[n]] := by
   rw [List.take_succ_eq_append_getElem hk, List.map_append]; rfl
  split <;> rename_i h2
  all_goals simp only [decide_eq_true_eq, decide_eq_false_iff_not] at h2
  ·have hu : unfz xs[n] = IntKind.i64.wrap (IntKind.i64.wrap (xs[n] - 79) - 1) := if_pos h2
   conv => whnf
   refine ⟨_, rfl, .inl ⟨flat1 rfl, ?_⟩⟩
   conv => whnf
   refine ⟨by omega, by rw [rows_len ciL_len, List.length_map, List.length_take, Nat.min_eq_left (by omega)], _, snoc_ci _ _, ?_⟩
   conv => whnf
   refine ⟨m - 1, by omega, n + 1, _, _, _, wrap_id (by omega) (by omega), by omega, rfl, ?_, rfl⟩
   rw [hs, hu]
  ·have hu : unfz xs[n] = IntKind.i64.wrap (-1 - xs[n]) := if_neg h2
   conv => whnf
   refine ⟨_, rfl, .inl ⟨flat1 rfl, ?_⟩⟩
   conv => whnf
   refine ⟨by omega, by rw [rows_len ciL_len, List.length_map, List.length_take, Nat.min_eq_left (by omega)], _, snoc_ci _ _, ?_⟩
   conv => whnf
   refine ⟨m - 1, by omega, n + 1, _, _, _, wrap_id (by omega) (by omega), by omega, rfl, ?_, rfl⟩
   rw [hs, hu]
 ·conv => whnf
  have hkk : n = xs.length := by omega
  subst hkk
  rw [List.take_length]
  refine ⟨by rw [rows_len ciL_len, List.length_map], ?_⟩
  simp only [intsT, List.length_map]
  rfl
theorem implUnfreeze_spec (xs : List Int) (h : xs.length ≤ 1099511627776) : Spec Tryz.prog 116 [ints xs] (intsT (xs.map unfz)) := by
 refine Spec_of mx Γ_ok Tryz.func116 rfl ?_
 conv => whnf
 refine ⟨[(2,0),(3,0),(7,0),(8,0),(9,0)], fun m st => ∃ (k : Nat) (e : Int) (n : Nat) (r : List V), e = k ∧ m + k = xs.length ∧ n = k ∧ r = rows ciL ((xs.take k).map unfz) ∧
  st = ⟨28, [(2, cnil), (3, .own 0 1 0 n n none), (7, ints xs), (8, ci xs.length), (9, ci e)], [some ⟨false, r⟩]⟩, xs.length, ⟨0, 0, 0, _, rfl, rfl, rfl, rfl, rfl⟩, ?_⟩
 rintro m st ⟨k, _, n, _, rfl, hm, rfl, rfl, rfl⟩
 conv => whnf
 split <;> rename_i h1
 all_goals simp only [decide_eq_true_eq, decide_eq_false_iff_not] at h1
 ·conv => whnf
  have hk : n < xs.length := by omega
  refine ⟨by omega, rows_len ciL_len _, ?_⟩
  conv => whnf
  refine ⟨_, takeN_rp (k := n) ciL_len hk, ?_⟩
  conv => whnf
  have hs : (xs.take (n + 1)).map unfz = (xs.take n).map unfz ++ [unfz xs[n]] := by
   rw [List.take_succ_eq_append_getElem hk, List.map_append]; rfl
  split <;> rename_i h2
  all_goals simp only [decide_eq_true_eq, decide_eq_false_iff_not] at h2
  ·have hu : unfz xs[n] = IntKind.i64.wrap (IntKind.i64.wrap (xs[n] - 79) - 1) := if_pos h2
   conv => whnf
   refine ⟨_, rfl, .inl ⟨flat1 rfl, ?_⟩⟩
   conv => whnf
   refine ⟨by omega, by rw [rows_len ciL_len, List.length_map, List.length_take, Nat.min_eq_left (by omega)], _, snoc_ci _ _, ?_⟩
   conv => whnf
   refine ⟨m - 1, by omega, n + 1, _, _, _, wrap_id (by omega) (by omega), by omega, rfl, ?_, rfl⟩
   rw [hs, hu]
  ·have hu : unfz xs[n] = IntKind.i64.wrap (-1 - xs[n]) := if_neg h2
   conv => whnf
   refine ⟨_, rfl, .inl ⟨flat1 rfl, ?_⟩⟩
   conv => whnf
   refine ⟨by omega, by rw [rows_len ciL_len, List.length_map, List.length_take, Nat.min_eq_left (by omega)], _, snoc_ci _ _, ?_⟩
   conv => whnf
   refine ⟨m - 1, by omega, n + 1, _, _, _, wrap_id (by omega) (by omega), by omega, rfl, ?_, rfl⟩
   rw [hs, hu]
 ·conv => whnf
  have hkk : n = xs.length := by omega
  subst hkk
  rw [List.take_length]
  refine ⟨by rw [rows_len ciL_len, List.length_map], ?_⟩
  simp only [intsT, List.length_map]
  rfl
end Go.Proofs.YtboolngaahifdaaGreatD
