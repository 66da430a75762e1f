/- Contracts and plain laws of this seat; no condition. -/
import Derived.Test.YtboolngaahifdaaGreatQ16
set_option linter.unusedVariables false
set_option linter.unusedSimpArgs false
set_option maxRecDepth 100000
namespace Go.Proofs.YtboolngaahifdaaGreatD
open Go Go.Proofs
abbrev QueryF := List Int × List FactC
def fzF (a : FactC) : FactC := (a.1, a.2.map fz)
def frzOk (q : QueryF) : Bool := terms3 q.1 && decide (q.2.length ≤ 8) && q.2.all fun a => terms3 a.2
def pFreeze (q : QueryF) : List FactC × List Int := if frzOk q then ((q.2.map fzF).foldl putF [], q.1.map fz) else ([], [])
def pFreezeV (q : QueryF) : V := .tup [wFactS (pFreeze q).1, intsT (pFreeze q).2]
theorem terms3_len {xs : List Int} (h : terms3 xs = true) : xs.length ≤ 3 := by
  unfold terms3 at h
  simp only [Bool.and_eq_true, decide_eq_true_eq] at h
  exact h.2
theorem terms3_all {xs : List Int} (h : terms3 xs = true) : xs.all isTerm = true := by
  unfold terms3 at h
  simp only [Bool.and_eq_true] at h
  exact h.1
theorem sumB_cap {α : Type} (f : α → Nat) (n : Nat) : ∀ (xs : List α), (∀ x ∈ xs, f x ≤ n) → sumB f xs ≤ n * xs.length
  | [], _ => by simp [sumB]
  | x :: xs, h => by
    have h1 := sumB_cap f n xs fun y hy => h y (by simp [hy])
    have h2 := h x (by simp)
    simp only [sumB, List.length_cons, Nat.mul_add, Nat.mul_one]
    omega
theorem mem_putGo (f a : FactC) : ∀ (l : List FactC) (p : Bool), a ∈ putGo f p l → a = f ∨ a ∈ l
  | [], p, h => by cases p <;> simp [putGo] at h; exact .inl h
  | x :: r, p, h => by
    have ih := mem_putGo f a r
    simp only [putGo] at h
    split at h
    · rcases List.mem_append.1 h with h1 | h1
      · split at h1
        · cases h1
        · exact .inl (by simpa using h1)
      · rcases List.mem_cons.1 h1 with rfl | h1
        · exact .inr (by simp)
        · rcases ih true h1 with h2 | h2
          · exact .inl h2
          · exact .inr (by simp [h2])
    · rcases List.mem_cons.1 h with rfl | h1
      · exact .inr (by simp)
      · rcases ih p h1 with h2 | h2
        · exact .inl h2
        · exact .inr (by simp [h2])
theorem short_fold : ∀ (fs db : List FactC), (∀ x ∈ fs, x.2.length ≤ 3) → (∀ x ∈ db, x.2.length ≤ 3) → (∀ x ∈ fs.foldl putF db, x.2.length ≤ 3) ∧ (fs.foldl putF db).length ≤ fs.length + db.length
  | [], db, _, h => ⟨h, by simp⟩
  | f :: fs, db, hf, h => by
    have h1 : ∀ x ∈ putF db f, x.2.length ≤ 3 := fun x hx => by
      rcases mem_putGo f x db false hx with rfl | h2
      · exact hf _ (by simp)
      · exact h x h2
    obtain ⟨i1, i2⟩ := short_fold fs (putF db f) (fun x hx => hf x (by simp [hx])) h1
    refine ⟨i1, ?_⟩
    have := putGo_length f db false
    rw [List.foldl_cons]
    have e : (putF db f).length ≤ db.length + 1 := this
    simp only [List.length_cons]
    omega
set_option maxHeartbeats 4000000 in
theorem specFreeze_spec (q : QueryF) (h : cQuery q ≤ 1048576) : Spec Tryz.prog 45 [vQuery q] (pFreezeV q) := by
  unfold cQuery cAtomS at h
  refine Spec_of mx Γ_ok Tryz.func45 rfl ?_
  unfold pFreezeV pFreeze frzOk
  conv => whnf
  refine ⟨_, l3Terms_spec q.1 (by omega), .inl rfl, .inl ?_⟩
  conv => whnf
  generalize ht : terms3 q.1 = b1
  cases b1 with
  | false =>
    conv => whnf
    exact ⟨rfl, rfl, rfl⟩
  | true =>
    conv => whnf
    generalize hc2 : decide ((q.2.length : Int) > 8) = c2
    cases c2 with
    | true =>
      have hl : ¬ q.2.length ≤ 8 := by have := of_decide_eq_true hc2; omega
      conv => whnf
      simp only [decide_eq_false hl, Bool.and_false, Bool.false_and, Bool.false_eq_true, if_false]
      exact ⟨rfl, rfl, rfl⟩
    | false =>
      have hl : q.2.length ≤ 8 := by have := of_decide_eq_false hc2; omega
      simp only [decide_eq_true hl, Bool.and_true, Bool.true_and]
      conv => whnf
      refine ⟨[(1,0),(2,0),(3,0),(4,0),(5,0)], fun m s => ∃ (k : Nat) (e : Int) (db : List FactC) (n : Nat) (r : List V), e = k ∧ m + k = q.2.length ∧ db = ((q.2.take k).map fzF).foldl putF [] ∧ n = db.length ∧ r = rows tFact db ∧ q.2.all (fun a => terms3 a.2) = (q.2.drop k).all (fun a => terms3 a.2) ∧ (∀ x ∈ (q.2.take k), x.2.length ≤ 3) ∧
        s = ⟨56, [(1, .ptr 0 0), (2, cnil), (3, cnil), (4, .own 1 2 0 n n none), (5, ci e)], [some ⟨true, rQuery q⟩, some ⟨false, r⟩]⟩, q.2.length, ⟨0, 0, [], 0, _, rfl, rfl, rfl, rfl, rfl, rfl, by simp, rfl⟩, ?_⟩
      rintro m s ⟨k, _, db, n, _, rfl, hm, hdb, hn, rfl, hall, hsh, rfl⟩
      conv => whnf
      split <;> rename_i h1
      all_goals simp only [decide_eq_true_eq, decide_eq_false_iff_not] at h1
      · conv => whnf
        have hk : k < q.2.length := by omega
        have hb := sumB_one (f := cAtom) hk
        have hcb : cAtom q.2[k] = q.2[k].2.length := rfl
        obtain ⟨s1, s2⟩ := short_fold ((q.2.take k).map fzF) [] (fun x hx => by
          obtain ⟨y, hy, rfl⟩ := List.mem_map.1 hx
          simpa [fzF] using hsh y hy) (by simp)
        rw [← hdb] at s1 s2
        have hcnt : cFactS db ≤ 1048576 := by
          have h3 := sumB_cap cFact 3 db s1
          have h4 : db.length ≤ k := by rw [List.length_map, List.length_take] at s2; simp at s2; omega
          show db.length + sumB cFact db ≤ 1048576
          omega
        rw [drop_all hk] at hall
        refine ⟨by omega, rows_len rAtom_len _, ?_⟩
        conv => whnf
        refine ⟨_, takeN_rp_field (k := k) (d := 1) (m := 1) (r := [ints q.2[k].2]) rAtom_len hk (by omega) rfl, ?_⟩
        conv => whnf
        refine ⟨_, l3Terms_spec q.2[k].2 (by omega), .inl rfl, .inl ?_⟩
        conv => whnf
        generalize ht2 : terms3 q.2[k].2 = b2 at hall
        cases b2 with
        | false =>
          conv => whnf
          rw [hall]
          exact ⟨rfl, rfl, rfl⟩
        | true =>
          conv => whnf
          rw [Bool.true_and] at hall
          refine ⟨List.range 17, by kernel_rfl, ?_⟩
          conv => whnf
          refine ⟨by omega, rows_len rAtom_len _, ?_⟩
          conv => whnf
          refine ⟨_, takeN_rp_field (k := k) (d := 0) (m := 1) (r := [ci q.2[k].1]) rAtom_len hk (by omega) rfl, ?_⟩
          conv => whnf
          refine ⟨by omega, rows_len rAtom_len _, ?_⟩
          conv => whnf
          refine ⟨_, takeN_rp_field (k := k) (d := 1) (m := 1) (r := [ints q.2[k].2]) rAtom_len hk (by omega) rfl, ?_⟩
          conv => whnf
          refine ⟨_, l8Values_spec q.2[k].2 (by omega) (terms3_all ht2), .inl rfl, .inl ?_⟩
          conv => whnf
          subst hn
          refine ⟨_, _, takeN_all (by rw [rows_len tFact_len]), roVs_rows tFact_ro _, ?_⟩
          conv => whnf
          rw [roVs_ci]
          refine ⟨_, l5Put_spec db (fzF q.2[k]) hcnt (by simp only [fzF, List.length_map]; omega), .inr (closed_wFactS _), .inr ?_⟩
          conv => whnf
          refine ⟨m - 1, by omega, k + 1, _, putF db (fzF q.2[k]), _, _, wrap_id (by omega) (by omega), by omega, ?_, rfl, rfl, hall, ?_, rfl⟩
          · rw [hdb, List.take_succ_eq_append_getElem hk, List.map_append, List.foldl_append]
            rfl
          · intro x hx
            rw [List.take_succ_eq_append_getElem hk] at hx
            rcases List.mem_append.1 hx with hx | hx
            · exact hsh x hx
            · have : x = q.2[k] := by simpa using hx
              subst this
              exact terms3_len ht2
      · conv => whnf
        have hkk : k = q.2.length := by omega
        rw [drop_end (by omega), List.all_nil] at hall
        rw [hkk, List.take_length] at hdb
        refine ⟨_, l8Values_spec q.1 (by omega) (terms3_all ht), .inl rfl, .inr ?_⟩
        conv => whnf
        rw [hall, hn]
        refine ⟨by rw [rows_len tFact_len], by rw [rows_len ciL_len], ?_⟩
        rw [hdb]
        rfl
theorem terms3_eq (xs : List Int) : terms3 xs = (decide (xs.length ≤ 3) && xs.all isTerm) := by unfold terms3; rw [Bool.and_comm]
set_option maxHeartbeats 4000000 in
theorem implFreeze_spec (q : QueryF) (h : cQuery q ≤ 1048576) : Spec Tryz.prog 104 [vQuery q] (pFreezeV q) := by
  unfold cQuery cAtomS at h
  refine Spec_of mx Γ_ok Tryz.func104 rfl ?_
  conv => whnf
  have hok : (terms3 q.1 && decide (q.2.length ≤ 8)) = (decide ((q.2.length : Int) ≤ 8) && (decide ((q.1.length : Int) ≤ 3) && q.1.all isTerm)) := by
    have e1 : decide ((q.2.length : Int) ≤ 8) = decide (q.2.length ≤ 8) := by rw [decide_eq_decide]; omega
    have e2 : decide ((q.1.length : Int) ≤ 3) = decide (q.1.length ≤ 3) := by rw [decide_eq_decide]; omega
    rw [e1, e2, ← terms3_eq, Bool.and_comm]
  generalize decide ((q.2.length : Int) ≤ 8) = c1 at hok
  cases c1
  rotate_left
  conv => whnf
  generalize decide ((q.1.length : Int) ≤ 3) = c2 at hok
  cases c2
  rotate_left
  conv => whnf
  refine ⟨_, areTerms_spec q.1 (by omega), .inl rfl, .inl ?_⟩
  generalize q.1.all isTerm = c3 at hok
  all_goals simp only [Bool.false_and, Bool.true_and] at hok
  all_goals conv => whnf
  all_goals refine ⟨[(1,0),(2,0),(3,0),(4,0),(26,0),(27,0),(28,0)], fun m s => ∃ (k : Nat) (e : Int) (ok : Bool), e = k ∧ m + k = q.2.length ∧ ok = (terms3 q.1 && decide (q.2.length ≤ 8) && (q.2.take k).all fun a => terms3 a.2) ∧
        s = ⟨74, [(1, .ptr 0 0), (2, cnil), (3, cnil), (4, cb ok), (26, vAtomS q.2), (27, ci q.2.length), (28, ci e)], [some ⟨true, rQuery q⟩]⟩, q.2.length, ⟨0, 0, _, rfl, rfl, by rw [hok, List.take_zero, List.all_nil, Bool.and_true], rfl⟩, ?_⟩
  all_goals
   (rintro m s ⟨k, _, ok, rfl, hm, hok2, rfl⟩
    conv => whnf
    split <;> rename_i h1
    all_goals simp only [decide_eq_true_eq, decide_eq_false_iff_not] at h1
    · conv => whnf
      have hk : k < q.2.length := by omega
      have hb := sumB_one (f := cAtom) hk
      have hcb : cAtom q.2[k] = q.2[k].2.length := rfl
      have hstep : (q.2.take (k + 1)).all (fun a => terms3 a.2) = ((q.2.take k).all (fun a => terms3 a.2) && (decide ((q.2[k].2.length : Int) ≤ 3) && q.2[k].2.all isTerm)) := by
        have e2 : decide ((q.2[k].2.length : Int) ≤ 3) = decide (q.2[k].2.length ≤ 3) := by rw [decide_eq_decide]; omega
        rw [List.take_succ_eq_append_getElem hk, List.all_append, e2, ← terms3_eq]; simp
      refine ⟨by omega, rows_len rAtom_len _, ?_⟩
      conv => whnf
      refine ⟨_, takeN_rp (k := k) rAtom_len hk, ?_⟩
      conv => whnf
      cases ok with
      | false =>
        conv => whnf
        refine ⟨m - 1, by omega, k + 1, _, false, wrap_id (by omega) (by omega), by omega, ?_, rfl⟩
        rw [hstep, ← Bool.and_assoc, ← hok2]; rfl
      | true =>
        conv => whnf
        generalize decide ((q.2[k].2.length : Int) ≤ 3) = d1 at hstep
        cases d1 with
        | false =>
          conv => whnf
          refine ⟨m - 1, by omega, k + 1, _, false, wrap_id (by omega) (by omega), by omega, ?_, rfl⟩
          rw [hstep, ← Bool.and_assoc, ← hok2]; rfl
        | true =>
          conv => whnf
          refine ⟨_, areTerms_spec q.2[k].2 (by omega), .inl rfl, .inl ?_⟩
          generalize q.2[k].2.all isTerm = d2 at hstep
          conv => whnf
          refine ⟨m - 1, by omega, k + 1, _, d2, wrap_id (by omega) (by omega), by omega, ?_, rfl⟩
          rw [hstep, ← Bool.and_assoc, ← hok2]; rfl
    · conv => whnf
      have hkk : k = q.2.length := by omega
      rw [hkk, List.take_length] at hok2
      have hfr : frzOk q = ok := hok2.symm
      unfold pFreezeV pFreeze
      rw [hfr]
      cases ok with
      | false =>
        conv => whnf
        exact ⟨rfl, rfl, rfl⟩
      | true =>
        have hall : q.2.all (fun a => terms3 a.2) = true := by
          unfold frzOk at hfr
          simp only [Bool.and_eq_true] at hfr
          exact hfr.2
        have hlen : q.2.length ≤ 8 := by
          unfold frzOk at hfr
          simp only [Bool.and_eq_true, decide_eq_true_eq] at hfr
          exact hfr.1.2
        have hhd : terms3 q.1 = true := by
          unfold frzOk at hfr
          simp only [Bool.and_eq_true] at hfr
          exact hfr.1.1
        conv => whnf
        refine ⟨[(1,0),(2,0),(3,0),(7,0),(51,0),(52,0),(53,0)], fun m s => ∃ (k : Nat) (e : Int) (n : Nat) (r : List V), e = k ∧ m + k = q.2.length ∧ n = k ∧ r = rows tFact ((q.2.take k).map fzF) ∧
          s = ⟨74, [(1, .ptr 0 0), (2, cnil), (3, cnil), (7, .own 1 2 0 n n none), (51, vAtomS q.2), (52, ci q.2.length), (53, ci e)], [some ⟨true, rQuery q⟩, some ⟨false, r⟩]⟩, q.2.length, ⟨0, 0, 0, _, rfl, rfl, rfl, rfl, rfl⟩, ?_⟩
        rintro m s ⟨k, _, n, _, rfl, hm, rfl, rfl, rfl⟩
        conv => whnf
        split <;> rename_i h1
        all_goals simp only [decide_eq_true_eq, decide_eq_false_iff_not] at h1
        · conv => whnf
          have hk : n < q.2.length := by omega
          have hb := sumB_one (f := cAtom) hk
          have hcb : cAtom q.2[n] = q.2[n].2.length := rfl
          have ht : terms3 q.2[n].2 = true := List.all_eq_true.1 hall _ (List.getElem_mem hk)
          refine ⟨by omega, rows_len rAtom_len _, ?_⟩
          conv => whnf
          refine ⟨_, takeN_rp (k := n) rAtom_len hk, ?_⟩
          conv => whnf
          refine ⟨List.range 10, by kernel_rfl, ?_⟩
          conv => whnf
          refine ⟨_, frozenAll_spec q.2[n].2 (by omega) (terms3_all ht), .inl rfl, .inr ?_⟩
          conv => whnf
          refine ⟨by rw [rows_len ciL_len], ?_⟩
          conv => whnf
          refine ⟨_, rfl, .inr ⟨solid_tFact (fzF q.2[n]), ?_⟩⟩
          conv => whnf
          refine ⟨by omega, by rw [rows_len tFact_len, List.length_map, List.length_take]; congr 1; omega, _, snoc_rows tFact _ (fzF q.2[n]), ?_⟩
          conv => whnf
          refine ⟨m - 1, by omega, n + 1, _, _, _, wrap_id (by omega) (by omega), by omega, rfl, ?_, rfl⟩
          rw [List.take_succ_eq_append_getElem hk, List.map_append, List.map_singleton]
        · conv => whnf
          have hkk : n = q.2.length := by omega
          subst hkk
          rw [List.take_length]
          refine .inr (.inr ⟨[1], [], ?_⟩)
          conv => whnf
          have hsh : ∀ x ∈ q.2.map fzF, x.2.length ≤ 1099511627776 := fun x hx => by
            obtain ⟨y, hy, rfl⟩ := List.mem_map.1 hx
            have := terms3_len (List.all_eq_true.1 hall _ hy)
            simp only [fzF, List.length_map]; omega
          have hs := sortFacts_spec (q.2.map fzF) hsh (by rw [List.length_map]; omega)
          rw [List.length_map] at hs
          refine ⟨_, hs, fun r g2 hP => ?_⟩
          obtain ⟨rfl, ys, hp, hsrt, rfl⟩ := hP
          have hyl : q.2.length = ys.length := by rw [hp.length_eq, List.length_map]
          refine .inl ?_
          conv => whnf
          refine ⟨[1001, 0, 2, 3, 1, 4, 5, 6, 1000, 1000], by kernel_rfl, ?_⟩
          conv => whnf
          refine .inr (.inr ⟨[1], noSubT_lk (by kernel_rfl), rfl, ?_⟩)
          conv => whnf
          have hys : ∀ x ∈ ys, x.2.length ≤ 1099511627776 := fun x hx => hsh x (hp.mem_iff.1 hx)
          have hcs := compFacts_spec ys hys (by omega)
          rw [← hyl] at hcs
          refine ⟨_, hcs, fun r g2 hP => ?_⟩
          obtain ⟨rfl, rfl⟩ := hP
          refine .inr ?_
          conv => whnf
          refine .inl ?_
          conv => whnf
          refine ⟨_, frozenAll_spec q.1 (by omega) (terms3_all hhd), .inl rfl, .inr ?_⟩
          conv => whnf
          refine ⟨by rw [rows_len tFact_len], by rw [rows_len ciL_len], ?_⟩
          show one [_, _] = V.tup [wFactS ((q.2.map fzF).foldl putF []), intsT (q.1.map fz)]
          rw [← sort_comp (q.2.map fzF) ys hp hsrt]
          rfl)
theorem small_Freeze (x0 : QueryF) (h0 : cQuery x0 ≤ 1048576) : cFactS (pFreeze x0).1 ≤ 1048576 ∧ (pFreeze x0).2.length ≤ 1048576 := by
  unfold pFreeze
  split
  · rename_i hf
    unfold frzOk at hf
    simp only [Bool.and_eq_true, decide_eq_true_eq] at hf
    obtain ⟨⟨h1, h2⟩, h3⟩ := hf
    obtain ⟨s1, s2⟩ := short_fold (x0.2.map fzF) [] (fun x hx => by
      obtain ⟨y, hy, rfl⟩ := List.mem_map.1 hx
      have := terms3_len (List.all_eq_true.1 h3 _ hy)
      simpa [fzF] using this) (by simp)
    have h4 := sumB_cap cFact 3 _ s1
    have h5 := terms3_len h1
    rw [List.length_map, List.length_nil] at s2
    refine ⟨?_, ?_⟩
    · show ((x0.2.map fzF).foldl putF []).length + sumB cFact ((x0.2.map fzF).foldl putF []) ≤ _
      omega
    · show (x0.1.map fz).length ≤ _
      rw [List.length_map]; omega
  · exact ⟨by show (0 : Nat) + 0 ≤ _; omega, by show (0 : Nat) ≤ _; omega⟩
def bitI (m k : Int) : Bool := andI .i64 (shrI .i64 m k) 1 == 1
def twX (v m : Int) (p : Nat) (x : Int) : Int := bif decide (x = v) && bitI m p then 99 else x
def twL (v m : Int) (xs : List Int) : List Int := xs.mapIdx (twX v m)
def twF (v m : Int) (f : FactC) : FactC := (f.1, twL v m f.2)
def fitsL (v m : Int) (xs : List Int) : Bool := (xs.mapIdx fun p x => !bitI m p || decide (x = v)).all id
def twA (db : List FactC) (v : Int) : List FactC := db.flatMap fun f => (List.range 8).map fun m => twF v (m : Nat) f
def twS (db : List FactC) (v : Int) : List FactC := (twA db v).foldl putF db
def dbM (v : Int) (f : FactC) : List FactC := ((List.range (2 ^ f.2.length)).drop 1).flatMap fun m => if fitsL v (m : Nat) f.2 then [twF v (m : Nat) f] else []
def dbA (db : List FactC) (v : Int) : List FactC := db ++ db.flatMap (dbM v)
theorem bits8 : ∀ b0 b1 b2 : Bool, bitI ((b0.toNat + 2 * b1.toNat + 4 * b2.toNat : Nat) : Int) (0 : Nat) = b0 ∧ bitI ((b0.toNat + 2 * b1.toNat + 4 * b2.toNat : Nat) : Int) (1 : Nat) = b1 ∧ bitI ((b0.toNat + 2 * b1.toNat + 4 * b2.toNat : Nat) : Int) (2 : Nat) = b2 := by decide
theorem twX_none {v m : Int} {p : Nat} {x : Int} (h : (decide (x = v) && bitI m p) = false) : twX v m p x = x := by unfold twX; rw [h]; rfl
theorem twX_eq {v m n : Int} {p : Nat} {x : Int} (h : (decide (x = v) && bitI m p) = (decide (x = v) && bitI n p)) : twX v m p x = twX v n p x := by unfold twX; rw [h]
theorem mask_of (v : Int) (m : Nat) : ∀ (xs : List Int), xs.length ≤ 3 → ∃ n : Nat, n < 2 ^ xs.length ∧ fitsL v n xs = true ∧ twL v n xs = twL v m xs
 | [], _ => ⟨0, by decide, rfl, rfl⟩
 | [a], _ => by
  obtain ⟨h0, _, _⟩ := bits8 (decide (a = v) && bitI m (0 : Nat)) false false
  generalize hb : (decide (a = v) && bitI m (0 : Nat)) = b at h0
  refine ⟨b.toNat + 2 * false.toNat + 4 * false.toNat, ?_, ?_, ?_⟩
  ·show _ < 2 ^ 1
   cases b <;> decide
  ·show ((!bitI _ (0 : Nat) || decide (a = v)) && true) = true
   rw [h0, ← hb]
   cases decide (a = v) <;> simp
  ·show [twX _ _ 0 a] = [twX _ _ 0 a]
   rw [twX_eq (n := m) (p := 0) (x := a)]
   rw [h0, ← hb]; cases decide (a = v) <;> simp
 | [a, b], _ => by
  obtain ⟨h0, h1, _⟩ := bits8 (decide (a = v) && bitI m (0 : Nat)) (decide (b = v) && bitI m (1 : Nat)) false
  generalize hb0 : (decide (a = v) && bitI m (0 : Nat)) = b0 at h0 h1
  generalize hb1 : (decide (b = v) && bitI m (1 : Nat)) = b1 at h0 h1
  refine ⟨b0.toNat + 2 * b1.toNat + 4 * false.toNat, ?_, ?_, ?_⟩
  ·show _ < 2 ^ 2
   cases b0 <;> cases b1 <;> decide
  ·show ((!bitI _ (0 : Nat) || decide (a = v)) && ((!bitI _ (1 : Nat) || decide (b = v)) && true)) = true
   rw [h0, h1, ← hb0, ← hb1]
   cases decide (a = v) <;> cases decide (b = v) <;> simp
  ·show [twX _ _ 0 a, twX _ _ 1 b] = [twX _ _ 0 a, twX _ _ 1 b]
   rw [twX_eq (n := m) (p := 0) (x := a), twX_eq (n := m) (p := 1) (x := b)]
   ·rw [h1, ← hb1]; cases decide (b = v) <;> simp
   ·rw [h0, ← hb0]; cases decide (a = v) <;> simp
 | [a, b, c], _ => by
  obtain ⟨h0, h1, h2⟩ := bits8 (decide (a = v) && bitI m (0 : Nat)) (decide (b = v) && bitI m (1 : Nat)) (decide (c = v) && bitI m (2 : Nat))
  generalize hb0 : (decide (a = v) && bitI m (0 : Nat)) = b0 at h0 h1 h2
  generalize hb1 : (decide (b = v) && bitI m (1 : Nat)) = b1 at h0 h1 h2
  generalize hb2 : (decide (c = v) && bitI m (2 : Nat)) = b2 at h0 h1 h2
  refine ⟨b0.toNat + 2 * b1.toNat + 4 * b2.toNat, ?_, ?_, ?_⟩
  ·show _ < 2 ^ 3
   cases b0 <;> cases b1 <;> cases b2 <;> decide
  ·show ((!bitI _ (0 : Nat) || decide (a = v)) && ((!bitI _ (1 : Nat) || decide (b = v)) && ((!bitI _ (2 : Nat) || decide (c = v)) && true))) = true
   rw [h0, h1, h2, ← hb0, ← hb1, ← hb2]
   cases decide (a = v) <;> cases decide (b = v) <;> cases decide (c = v) <;> simp
  ·show [twX _ _ 0 a, twX _ _ 1 b, twX _ _ 2 c] = [twX _ _ 0 a, twX _ _ 1 b, twX _ _ 2 c]
   rw [twX_eq (n := m) (p := 0) (x := a), twX_eq (n := m) (p := 1) (x := b), twX_eq (n := m) (p := 2) (x := c)]
   ·rw [h2, ← hb2]; cases decide (c = v) <;> simp
   ·rw [h1, ← hb1]; cases decide (b = v) <;> simp
   ·rw [h0, ← hb0]; cases decide (a = v) <;> simp
 | a :: b :: c :: d :: r, h => by simp at h
theorem twL_zero (v : Int) (xs : List Int) (h : xs.length ≤ 3) : twL v ((0 : Nat) : Int) xs = xs := by
 obtain ⟨h0, h1, h2⟩ := bits8 false false false
 have e : ((false.toNat + 2 * false.toNat + 4 * false.toNat : Nat) : Int) = ((0 : Nat) : Int) := rfl
 rw [e] at h0 h1 h2
 match xs, h with
 | [], _ => rfl
 | [a], _ =>
  show [twX _ _ 0 a] = _
  rw [twX_none (p := 0) (x := a) (by rw [h0, Bool.and_false])]
 | [a, b], _ =>
  show [twX _ _ 0 a, twX _ _ 1 b] = _
  rw [twX_none (p := 0) (x := a) (by rw [h0, Bool.and_false]), twX_none (p := 1) (x := b) (by rw [h1, Bool.and_false])]
 | [a, b, c], _ =>
  show [twX _ _ 0 a, twX _ _ 1 b, twX _ _ 2 c] = _
  rw [twX_none (p := 0) (x := a) (by rw [h0, Bool.and_false]), twX_none (p := 1) (x := b) (by rw [h1, Bool.and_false]), twX_none (p := 2) (x := c) (by rw [h2, Bool.and_false])]
theorem mem_dbM {v : Int} {f x : FactC} : x ∈ dbM v f ↔ ∃ m : Nat, 1 ≤ m ∧ m < 2 ^ f.2.length ∧ fitsL v m f.2 = true ∧ x = twF v m f := by
 have hr : ∀ m : Nat, m ∈ (List.range (2 ^ f.2.length)).drop 1 ↔ 1 ≤ m ∧ m < 2 ^ f.2.length := fun m => by
  rw [List.mem_iff_getElem?]
  constructor
  ·rintro ⟨i, hi⟩
   rw [List.getElem?_drop] at hi
   obtain ⟨h1, h2⟩ := List.getElem?_eq_some_iff.1 hi
   rw [List.getElem_range] at h2
   rw [List.length_range] at h1
   omega
  ·rintro ⟨h1, h2⟩
   refine ⟨m - 1, ?_⟩
   rw [List.getElem?_drop, show 1 + (m - 1) = m from by omega, List.getElem?_range h2]
 unfold dbM
 simp only [List.mem_flatMap, hr]
 constructor
 ·rintro ⟨m, ⟨h1, h2⟩, h3⟩
  split at h3
  ·rename_i h4
   exact ⟨m, h1, h2, h4, List.mem_singleton.1 h3⟩
  ·cases h3
 ·rintro ⟨m, h1, h2, h3, rfl⟩
  exact ⟨m, ⟨h1, h2⟩, by rw [if_pos h3]; simp⟩
theorem pow8 {n : Nat} (h : n ≤ 3) : 2 ^ n ≤ 8 := Nat.pow_le_pow_right (n := 2) (by decide) h
theorem tw_same {db : List FactC} (hs : Strict ltF db) (hl : ∀ f ∈ db, f.2.length ≤ 3) (v : Int) : (dbA db v).foldl putF [] = twS db v := by
 obtain ⟨a1, a2⟩ := putAll (dbA db v) [] List.Pairwise.nil
 obtain ⟨b1, b2⟩ := putAll (twA db v) db hs
 refine strict_unique totF a1 b1 fun x => ?_
 rw [a2, show (x ∈ twS db v ↔ x ∈ twA db v ∨ x ∈ db) from b2 x]
 have e1 : x ∈ dbA db v ↔ x ∈ db ∨ ∃ f ∈ db, x ∈ dbM v f := by unfold dbA; rw [List.mem_append, List.mem_flatMap]
 have e2 : x ∈ twA db v ↔ ∃ f ∈ db, ∃ m : Nat, m < 8 ∧ x = twF v m f := by
  unfold twA
  simp only [List.mem_flatMap, List.mem_map, List.mem_range]
  constructor
  ·rintro ⟨f, hf, m, hm, rfl⟩; exact ⟨f, hf, m, hm, rfl⟩
  ·rintro ⟨f, hf, m, hm, rfl⟩; exact ⟨f, hf, m, hm, rfl⟩
 rw [e1, e2]
 constructor
 ·rintro ((h | ⟨f, hf, h⟩) | h)
  ·exact .inr h
  ·obtain ⟨m, _, h2, _, rfl⟩ := mem_dbM.1 h
   have := pow8 (hl f hf)
   exact .inl ⟨f, hf, m, by omega, rfl⟩
  ·cases h
 ·rintro (⟨f, hf, m, hm, rfl⟩ | h)
  ·obtain ⟨n, h1, h2, h3⟩ := mask_of v m f.2 (hl f hf)
   have e : twF v m f = twF v n f := Prod.ext rfl h3.symm
   left
   by_cases hn : n = 0
   ·subst hn
    rw [e, show twF v ((0 : Nat) : Int) f = f from Prod.ext rfl (twL_zero v f.2 (hl f hf))]
    exact .inl hf
   ·exact .inr ⟨f, hf, mem_dbM.2 ⟨n, by omega, h1, h2, e⟩⟩
  ·exact .inl (.inl h)
theorem tw_none {db : List FactC} (hs : Strict ltF db) {v : Int} (h : ∀ f ∈ db, ∀ x ∈ f.2, x ≠ v) : twS db v = db := by
 obtain ⟨b1, b2⟩ := putAll (twA db v) db hs
 refine strict_unique totF b1 hs fun x => (b2 x).trans ⟨?_, .inr⟩
 rintro (hx | hx)
 ·unfold twA at hx
  simp only [List.mem_flatMap, List.mem_map] at hx
  obtain ⟨f, hf, m, _, rfl⟩ := hx
  have e : twF v m f = f := Prod.ext rfl (by
   show twL v m f.2 = f.2
   refine List.ext_getElem (by simp [twL]) fun k h1 h2 => ?_
   simp only [twL, List.getElem_mapIdx]
   exact twX_none (by rw [decide_eq_false (h f hf _ (List.getElem_mem h2)), Bool.false_and]))
  rw [e]
  exact hf
 ·exact hx
theorem twF_len (v m : Int) (f : FactC) : (twF v m f).2.length = f.2.length := by simp [twF, twL]
theorem twA_len {db : List FactC} (v : Int) : (twA db v).length = 8 * db.length := by
 unfold twA
 induction db with
 | nil => rfl
 | cons f db ih => rw [List.flatMap_cons, List.length_append, ih, List.length_cons]; simp; omega
end Go.Proofs.YtboolngaahifdaaGreatD
