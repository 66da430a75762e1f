/- Contracts and plain laws of this seat; no condition. -/
import Derived.Test.YtboolngaahifdaaGreatQ19
set_option linter.unusedVariables false
set_option linter.unusedSimpArgs false
set_option maxRecDepth 100000
namespace Go.Proofs.YtboolngaahifdaaGreatD
open Go Go.Proofs
def kC (v : List Int) (out : List (List Int)) : Nat → Nat
  | 0 => 0
  | k + 1 => if ltI v (out.getD k []) then kC v out k else k + 1
def l4 (once : Bool) (out : List (List Int)) (v : List Int) : List (List Int) :=
  if once && decide (0 < kC v out out.length) && decide (out.getD (kC v out out.length - 1) [] = v) then out else out.take (kC v out out.length) ++ v :: out.drop (kC v out out.length)
def lB (once : Bool) (l : List (List Int)) : List (List Int) := l.foldl (l4 once) []
set_option maxHeartbeats 8000000 in
theorem oS (l : List (List Int)) (once : Bool) (hl : l.length ≤ 549755813888) (hb : ∀ v ∈ l, v.length ≤ 1099511627776) : bI Tryz.prog 75 [kZ l, cb once] (pM (lB once l)) := by
  refine aF mx aJ Tryz.func75 rfl ?_
  conv => whnf
  refine ⟨[(0,0),(1,0),(4,0),(5,0),(6,0)], fun m s => ∃ (i : Nat) (e : Int) (out : List (List Int)), e = i ∧ m + i = l.length ∧ lB once l = (l.drop i).foldl (l4 once) out ∧ out.length ≤ i ∧ (∀ x ∈ out, x ∈ l) ∧
    s = ⟨91, [(0, kZ l), (1, cb once), (4, cG), (5, .own 0 1 0 out.length out.length none), (6, ci e)], [some ⟨false, aB tL out⟩]⟩, l.length, ⟨0, 0, [], rfl, rfl, rfl, Nat.le_refl _, by simp, by kernel_rfl⟩, ?_⟩
  rintro m s ⟨i, _, out, rfl, hm, hj, hol, hmem, rfl⟩
  conv => whnf
  split <;> rename_i h1
  all_goals simp only [decide_eq_true_eq, decide_eq_false_iff_not] at h1
  · conv => whnf
    have hi : i < l.length := by omega
    have hbi := hb _ (List.getElem_mem hi)
    rw [List.drop_eq_getElem_cons hi, List.foldl_cons] at hj
    refine ⟨[(0,0),(1,0),(4,0),(5,0),(6,0),(7,0)], fun m s => ∃ (k : Nat) (e : Int), e = k ∧ m = k ∧ k ≤ out.length ∧ kC l[i] out out.length = kC l[i] out k ∧
      s = ⟨91, [(0, kZ l), (1, cb once), (4, cG), (5, .own 0 1 0 out.length out.length none), (6, ci i), (7, ci e)], [some ⟨false, aB tL out⟩]⟩, out.length, ⟨out.length, _, rfl, rfl, Nat.le_refl _, rfl, by kernel_rfl⟩, ?_⟩
    rintro m' s ⟨k, _, rfl, hm', hko, hsc, rfl⟩
    conv => whnf
    refine ⟨List.range 14, by kernel_rfl, ?_⟩
    conv => whnf
    generalize hc1 : decide ((k : Int) > 0) = c1
    cases c1
    rotate_left
    have hk0 : 0 < k := by have := of_decide_eq_true hc1; omega
    have hw : IntKind.i64.wrap ((k : Int) - 1) = ((k - 1 : Nat) : Int) := by rw [a8 (by omega) (by omega)]; omega
    have hk1 : k - 1 < out.length := by omega
    conv => whnf
    refine ⟨by omega, a6 mM _, ?_⟩
    conv => whnf
    refine ⟨_, aD (k := i) mM hi, ?_⟩
    conv => whnf
    rw [hw]
    refine ⟨by omega, ?_⟩
    conv => whnf
    refine ⟨_, b7 (f := tL) (k := k - 1) (d := 0) (m := 1) (xs := out) dN (by show 0 + ((k - 1 : Nat) : Int).toNat * 1 = _; omega) hk1 (by omega) rfl, ?_⟩
    conv => whnf
    refine ⟨_, _, _, _, eP (v := bE out[k - 1]) dN (k := k - 1) (d := 0) (by show 0 + ((k - 1 : Nat) : Int).toNat * 1 = _; omega) hk1 rfl, cK _, ?_⟩
    conv => whnf
    refine ⟨_, tJ l[i] out[k - 1] hbi (hb _ (hmem _ (List.getElem_mem hk1))), .inr trivial, .inl ?_⟩
    conv => whnf
    have hsc1 : kC l[i] out k = if ltI l[i] out[k - 1] then kC l[i] out (k - 1) else k := by
      obtain ⟨j, rfl⟩ : ∃ j, k = j + 1 := ⟨k - 1, by omega⟩
      have hk2 : j < out.length := hk1
      simp only [kC, Nat.add_sub_cancel]
      rw [List.getD_eq_getElem?_getD, List.getElem?_eq_getElem hk2]
      rfl
    generalize ltI l[i] out[k - 1] = c2 at hsc1
    cases c2
    rotate_left
    · conv => whnf
      simp only [if_true] at hsc1
      exact ⟨m' - 1, by omega, k - 1, _, hw, by omega, by omega, by rw [hsc, hsc1], by kernel_rfl⟩
    have hfin : kC l[i] out out.length = k := by
      have hk00 : k = 0 := by have := of_decide_eq_false hc1; omega
      rw [hsc, hk00]; rfl
    rotate_left
    have hfin : kC l[i] out out.length = k := by
      rw [hsc, hsc1]; simp
    all_goals conv => whnf
    all_goals
     (refine ⟨List.range 17, by kernel_rfl, ?_⟩
      conv => whnf
      cases once
      · conv => whnf
        have hins : l4 false out l[i] = out.take k ++ l[i] :: out.drop k := by unfold l4; rw [hfin]; simp
        refine ⟨[(0,0),(1,0),(4,0),(5,0),(6,0),(7,0),(8,0),(9,0)], fun m s => ∃ (j : Nat) (e : Int) (cs : List V) (n : Nat) (r : List V), e = j ∧ m + j = k ∧ cs.length = out.length ∧ (∀ p, j ≤ p → ∀ h : p < out.length, cs[p]? = some (bE out[p])) ∧ n = j ∧ r = aB tL (out.take j) ∧
          s = ⟨91, [(0, kZ l), (1, cb false), (4, cG), (5, .own 0 1 0 out.length out.length none), (6, ci i), (7, ci k), (8, .own 1 1 0 n n none), (9, ci e)], [some ⟨false, cs⟩, some ⟨false, r⟩]⟩, k, ⟨0, 0, aB tL out, 0, _, rfl, by omega, by rw [a6 dN, Nat.mul_one], ?_, rfl, rfl, by kernel_rfl⟩, ?_⟩
        · intro p _ h
          exact eP (v := bE out[p]) (f := tL) dN (k := p) (d := 0) (by omega) h rfl
        rintro m2 s ⟨j, _, cs, n, _, rfl, hm2, hcl, hcs, rfl, rfl, rfl⟩
        conv => whnf
        split <;> rename_i h2
        all_goals simp only [decide_eq_true_eq, decide_eq_false_iff_not] at h2
        · conv => whnf
          have hjo : n < out.length := by omega
          have hcell : cs[0 + (n : Int).toNat * 1]? = some (bE out[n]) := by
            have := hcs n (Nat.le_refl _) hjo
            simpa using this
          refine ⟨by omega, ?_⟩
          conv => whnf
          refine ⟨_, s6 hcell, ?_⟩
          conv => whnf
          refine ⟨_, _, _, hcell, ?_⟩
          conv => whnf
          refine ⟨_, rfl, .inr ⟨gJ out[n], ?_⟩⟩
          conv => whnf
          refine ⟨by omega, by rw [a6 dN, List.length_take, Nat.min_eq_left (by omega)], _, bQ tL _ out[n], ?_⟩
          conv => whnf
          refine ⟨m2 - 1, by omega, n + 1, _, cs.set (0 + (n : Int).toNat * 1) .any, n + 1, aB tL (out.take n ++ [out[n]]), a8 (by omega) (by omega), by omega, by rw [List.length_set, hcl], ?_, rfl, ?_, by kernel_rfl⟩
          · intro p hp h
            rw [List.getElem?_set_ne (by simp; omega)]
            exact hcs p (by omega) h
          · rw [List.take_succ_eq_append_getElem hjo]
        · conv => whnf
          obtain rfl : n = k := by omega
          refine ⟨by omega, a6 mM _, ?_⟩
          conv => whnf
          refine ⟨_, aD (k := i) mM hi, ?_⟩
          conv => whnf
          refine ⟨a6 a7 _, f5 _, ?_⟩
          conv => whnf
          refine ⟨by omega, rfl, _, jO [] l[i], ?_⟩
          conv => whnf
          refine ⟨by rw [a6 a7, List.nil_append, Nat.zero_add]; rfl, ?_⟩
          rw [List.nil_append, Nat.zero_add]
          conv => whnf
          refine ⟨_, rfl, .inr ⟨gJ l[i], ?_⟩⟩
          conv => whnf
          refine ⟨by omega, by rw [a6 dN, List.length_take, Nat.min_eq_left (by omega)], _, bQ tL _ l[i], ?_⟩
          conv => whnf
          refine ⟨[(0,0),(1,0),(4,0),(5,0),(6,0),(8,0),(10,0)], fun m s => ∃ (j : Nat) (e : Int) (cs : List V) (n' : Nat) (r : List V), e = j ∧ m + j = out.length ∧ n ≤ j ∧ cs.length = out.length ∧ (∀ p, j ≤ p → ∀ h : p < out.length, cs[p]? = some (bE out[p])) ∧ n' = j + 1 ∧ r = aB tL (out.take n ++ l[i] :: (out.take j).drop n) ∧
            s = ⟨91, [(0, kZ l), (1, cb false), (4, cG), (5, .own 0 1 0 out.length out.length none), (6, ci i), (8, .own 1 1 0 n' n' none), (10, ci e)], [some ⟨false, cs⟩, some ⟨false, r⟩]⟩, out.length - n, ⟨n, _, cs, n + 1, aB tL (out.take n ++ [l[i]]), rfl, by omega, Nat.le_refl _, hcl, hcs, rfl, by rw [List.drop_eq_nil_of_le (by rw [List.length_take]; omega)], by kernel_rfl⟩, ?_⟩
          rintro m3 s ⟨j, _, cs3, n', _, rfl, hm3, hnj, hcl3, hcs3, rfl, rfl, rfl⟩
          conv => whnf
          split <;> rename_i h3
          all_goals simp only [decide_eq_true_eq, decide_eq_false_iff_not] at h3
          · conv => whnf
            have hjo : j < out.length := by omega
            have hcell : cs3[0 + (j : Int).toNat * 1]? = some (bE out[j]) := by
              have := hcs3 j (Nat.le_refl _) hjo
              simpa using this
            refine ⟨by omega, ?_⟩
            conv => whnf
            refine ⟨_, s6 hcell, ?_⟩
            conv => whnf
            refine ⟨_, _, _, hcell, ?_⟩
            conv => whnf
            refine ⟨_, rfl, .inr ⟨gJ out[j], ?_⟩⟩
            conv => whnf
            refine ⟨by omega, by rw [a6 dN]; simp; omega, _, bQ tL _ out[j], ?_⟩
            conv => whnf
            refine ⟨m3 - 1, by omega, j + 1, _, cs3.set (0 + (j : Int).toNat * 1) .any, j + 1 + 1, aB tL ((out.take n ++ l[i] :: (out.take j).drop n) ++ [out[j]]), a8 (by omega) (by omega), by omega, by omega, by rw [List.length_set, hcl3], ?_, rfl, ?_, by kernel_rfl⟩
            · intro p hp h
              rw [List.getElem?_set_ne (by simp; omega)]
              exact hcs3 p (by omega) h
            · rw [List.take_succ_eq_append_getElem hjo, List.drop_append_of_le_length (by rw [List.length_take]; omega)]
              simp
          · conv => whnf
            have hje : j = out.length := by omega
            subst hje
            rw [List.take_length]
            have hlen : (out.take n ++ l[i] :: out.drop n).length = out.length + 1 := by simp; omega
            refine ⟨m - 1, by omega, i + 1, _, out.take n ++ l[i] :: out.drop n, a8 (by omega) (by omega), by omega, by rw [hj, hins], by rw [hlen]; omega, ?_, by rw [hlen]; kernel_rfl⟩
            intro x hx
            rcases List.mem_append.1 hx with hx | hx
            · exact hmem x (List.mem_of_mem_take hx)
            · rcases List.mem_cons.1 hx with rfl | hx
              · exact List.getElem_mem hi
              · exact hmem x (List.mem_of_mem_drop hx)
      · conv => whnf
        generalize hc5 : decide ((k : Int) > 0) = c5
        cases c5
        · have hk00 : k = 0 := by have := of_decide_eq_false hc5; omega
          have hins : l4 true out l[i] = out.take k ++ l[i] :: out.drop k := by unfold l4; rw [hfin, hk00]; simp
          conv => whnf
          refine ⟨[(0,0),(1,0),(4,0),(5,0),(6,0),(7,0),(8,0),(9,0)], fun m s => ∃ (j : Nat) (e : Int) (cs : List V) (n : Nat) (r : List V), e = j ∧ m + j = k ∧ cs.length = out.length ∧ (∀ p, j ≤ p → ∀ h : p < out.length, cs[p]? = some (bE out[p])) ∧ n = j ∧ r = aB tL (out.take j) ∧
            s = ⟨91, [(0, kZ l), (1, cb true), (4, cG), (5, .own 0 1 0 out.length out.length none), (6, ci i), (7, ci k), (8, .own 1 1 0 n n none), (9, ci e)], [some ⟨false, cs⟩, some ⟨false, r⟩]⟩, k, ⟨0, 0, aB tL out, 0, _, rfl, by omega, by rw [a6 dN, Nat.mul_one], ?_, rfl, rfl, by kernel_rfl⟩, ?_⟩
          · intro p _ h
            exact eP (v := bE out[p]) (f := tL) dN (k := p) (d := 0) (by omega) h rfl
          rintro m2 s ⟨j, _, cs, n, _, rfl, hm2, hcl, hcs, rfl, rfl, rfl⟩
          conv => whnf
          split <;> rename_i h2
          all_goals simp only [decide_eq_true_eq, decide_eq_false_iff_not] at h2
          · conv => whnf
            have hjo : n < out.length := by omega
            have hcell : cs[0 + (n : Int).toNat * 1]? = some (bE out[n]) := by
              have := hcs n (Nat.le_refl _) hjo
              simpa using this
            refine ⟨by omega, ?_⟩
            conv => whnf
            refine ⟨_, s6 hcell, ?_⟩
            conv => whnf
            refine ⟨_, _, _, hcell, ?_⟩
            conv => whnf
            refine ⟨_, rfl, .inr ⟨gJ out[n], ?_⟩⟩
            conv => whnf
            refine ⟨by omega, by rw [a6 dN, List.length_take, Nat.min_eq_left (by omega)], _, bQ tL _ out[n], ?_⟩
            conv => whnf
            refine ⟨m2 - 1, by omega, n + 1, _, cs.set (0 + (n : Int).toNat * 1) .any, n + 1, aB tL (out.take n ++ [out[n]]), a8 (by omega) (by omega), by omega, by rw [List.length_set, hcl], ?_, rfl, ?_, by kernel_rfl⟩
            · intro p hp h
              rw [List.getElem?_set_ne (by simp; omega)]
              exact hcs p (by omega) h
            · rw [List.take_succ_eq_append_getElem hjo]
          · conv => whnf
            obtain rfl : n = k := by omega
            refine ⟨by omega, a6 mM _, ?_⟩
            conv => whnf
            refine ⟨_, aD (k := i) mM hi, ?_⟩
            conv => whnf
            refine ⟨a6 a7 _, f5 _, ?_⟩
            conv => whnf
            refine ⟨by omega, rfl, _, jO [] l[i], ?_⟩
            conv => whnf
            refine ⟨by rw [a6 a7, List.nil_append, Nat.zero_add]; rfl, ?_⟩
            rw [List.nil_append, Nat.zero_add]
            conv => whnf
            refine ⟨_, rfl, .inr ⟨gJ l[i], ?_⟩⟩
            conv => whnf
            refine ⟨by omega, by rw [a6 dN, List.length_take, Nat.min_eq_left (by omega)], _, bQ tL _ l[i], ?_⟩
            conv => whnf
            refine ⟨[(0,0),(1,0),(4,0),(5,0),(6,0),(8,0),(10,0)], fun m s => ∃ (j : Nat) (e : Int) (cs : List V) (n' : Nat) (r : List V), e = j ∧ m + j = out.length ∧ n ≤ j ∧ cs.length = out.length ∧ (∀ p, j ≤ p → ∀ h : p < out.length, cs[p]? = some (bE out[p])) ∧ n' = j + 1 ∧ r = aB tL (out.take n ++ l[i] :: (out.take j).drop n) ∧
              s = ⟨91, [(0, kZ l), (1, cb true), (4, cG), (5, .own 0 1 0 out.length out.length none), (6, ci i), (8, .own 1 1 0 n' n' none), (10, ci e)], [some ⟨false, cs⟩, some ⟨false, r⟩]⟩, out.length - n, ⟨n, _, cs, n + 1, aB tL (out.take n ++ [l[i]]), rfl, by omega, Nat.le_refl _, hcl, hcs, rfl, by rw [List.drop_eq_nil_of_le (by rw [List.length_take]; omega)], by kernel_rfl⟩, ?_⟩
            rintro m3 s ⟨j, _, cs3, n', _, rfl, hm3, hnj, hcl3, hcs3, rfl, rfl, rfl⟩
            conv => whnf
            split <;> rename_i h3
            all_goals simp only [decide_eq_true_eq, decide_eq_false_iff_not] at h3
            · conv => whnf
              have hjo : j < out.length := by omega
              have hcell : cs3[0 + (j : Int).toNat * 1]? = some (bE out[j]) := by
                have := hcs3 j (Nat.le_refl _) hjo
                simpa using this
              refine ⟨by omega, ?_⟩
              conv => whnf
              refine ⟨_, s6 hcell, ?_⟩
              conv => whnf
              refine ⟨_, _, _, hcell, ?_⟩
              conv => whnf
              refine ⟨_, rfl, .inr ⟨gJ out[j], ?_⟩⟩
              conv => whnf
              refine ⟨by omega, by rw [a6 dN]; simp; omega, _, bQ tL _ out[j], ?_⟩
              conv => whnf
              refine ⟨m3 - 1, by omega, j + 1, _, cs3.set (0 + (j : Int).toNat * 1) .any, j + 1 + 1, aB tL ((out.take n ++ l[i] :: (out.take j).drop n) ++ [out[j]]), a8 (by omega) (by omega), by omega, by omega, by rw [List.length_set, hcl3], ?_, rfl, ?_, by kernel_rfl⟩
              · intro p hp h
                rw [List.getElem?_set_ne (by simp; omega)]
                exact hcs3 p (by omega) h
              · rw [List.take_succ_eq_append_getElem hjo, List.drop_append_of_le_length (by rw [List.length_take]; omega)]
                simp
            · conv => whnf
              have hje : j = out.length := by omega
              subst hje
              rw [List.take_length]
              have hlen : (out.take n ++ l[i] :: out.drop n).length = out.length + 1 := by simp; omega
              refine ⟨m - 1, by omega, i + 1, _, out.take n ++ l[i] :: out.drop n, a8 (by omega) (by omega), by omega, by rw [hj, hins], by rw [hlen]; omega, ?_, by rw [hlen]; kernel_rfl⟩
              intro x hx
              rcases List.mem_append.1 hx with hx | hx
              · exact hmem x (List.mem_of_mem_take hx)
              · rcases List.mem_cons.1 hx with rfl | hx
                · exact List.getElem_mem hi
                · exact hmem x (List.mem_of_mem_drop hx)
        · have hkp : 0 < k := by have := of_decide_eq_true hc5; omega
          have hw' : IntKind.i64.wrap ((k : Int) - 1) = ((k - 1 : Nat) : Int) := by rw [a8 (by omega) (by omega)]; omega
          have hk1' : k - 1 < out.length := by omega
          conv => whnf
          rw [hw']
          refine ⟨by omega, ?_⟩
          conv => whnf
          refine ⟨_, b7 (f := tL) (k := k - 1) (d := 0) (m := 1) (xs := out) dN (by show 0 + ((k - 1 : Nat) : Int).toNat * 1 = _; omega) hk1' (by omega) rfl, ?_⟩
          conv => whnf
          refine ⟨by omega, a6 mM _, ?_⟩
          conv => whnf
          refine ⟨_, aD (k := i) mM hi, ?_⟩
          conv => whnf
          refine ⟨_, _, _, _, eP (v := bE out[k - 1]) dN (k := k - 1) (d := 0) (by show 0 + ((k - 1 : Nat) : Int).toNat * 1 = _; omega) hk1' rfl, cK _, ?_⟩
          conv => whnf
          refine ⟨_, kA out[k - 1] l[i] (hb _ (hmem _ (List.getElem_mem hk1'))) hbi, .inr trivial, .inl ?_⟩
          conv => whnf
          have hgd : out.getD (k - 1) [] = out[k - 1] := by rw [List.getD_eq_getElem?_getD, List.getElem?_eq_getElem hk1']; rfl
          generalize hc6 : decide (out[k - 1] = l[i]) = c6
          cases c6
          · have hne : ¬ out[k - 1] = l[i] := of_decide_eq_false hc6
            have hins : l4 true out l[i] = out.take k ++ l[i] :: out.drop k := by unfold l4; rw [hfin, hgd]; simp [hne]
            conv => whnf
            refine ⟨[(0,0),(1,0),(4,0),(5,0),(6,0),(7,0),(8,0),(9,0)], fun m s => ∃ (j : Nat) (e : Int) (cs : List V) (n : Nat) (r : List V), e = j ∧ m + j = k ∧ cs.length = out.length ∧ (∀ p, j ≤ p → ∀ h : p < out.length, cs[p]? = some (bE out[p])) ∧ n = j ∧ r = aB tL (out.take j) ∧
              s = ⟨91, [(0, kZ l), (1, cb true), (4, cG), (5, .own 0 1 0 out.length out.length none), (6, ci i), (7, ci k), (8, .own 1 1 0 n n none), (9, ci e)], [some ⟨false, cs⟩, some ⟨false, r⟩]⟩, k, ⟨0, 0, aB tL out, 0, _, rfl, by omega, by rw [a6 dN, Nat.mul_one], ?_, rfl, rfl, by kernel_rfl⟩, ?_⟩
            · intro p _ h
              exact eP (v := bE out[p]) (f := tL) dN (k := p) (d := 0) (by omega) h rfl
            rintro m2 s ⟨j, _, cs, n, _, rfl, hm2, hcl, hcs, rfl, rfl, rfl⟩
            conv => whnf
            split <;> rename_i h2
            all_goals simp only [decide_eq_true_eq, decide_eq_false_iff_not] at h2
            · conv => whnf
              have hjo : n < out.length := by omega
              have hcell : cs[0 + (n : Int).toNat * 1]? = some (bE out[n]) := by
                have := hcs n (Nat.le_refl _) hjo
                simpa using this
              refine ⟨by omega, ?_⟩
              conv => whnf
              refine ⟨_, s6 hcell, ?_⟩
              conv => whnf
              refine ⟨_, _, _, hcell, ?_⟩
              conv => whnf
              refine ⟨_, rfl, .inr ⟨gJ out[n], ?_⟩⟩
              conv => whnf
              refine ⟨by omega, by rw [a6 dN, List.length_take, Nat.min_eq_left (by omega)], _, bQ tL _ out[n], ?_⟩
              conv => whnf
              refine ⟨m2 - 1, by omega, n + 1, _, cs.set (0 + (n : Int).toNat * 1) .any, n + 1, aB tL (out.take n ++ [out[n]]), a8 (by omega) (by omega), by omega, by rw [List.length_set, hcl], ?_, rfl, ?_, by kernel_rfl⟩
              · intro p hp h
                rw [List.getElem?_set_ne (by simp; omega)]
                exact hcs p (by omega) h
              · rw [List.take_succ_eq_append_getElem hjo]
            · conv => whnf
              obtain rfl : n = k := by omega
              refine ⟨by omega, a6 mM _, ?_⟩
              conv => whnf
              refine ⟨_, aD (k := i) mM hi, ?_⟩
              conv => whnf
              refine ⟨a6 a7 _, f5 _, ?_⟩
              conv => whnf
              refine ⟨by omega, rfl, _, jO [] l[i], ?_⟩
              conv => whnf
              refine ⟨by rw [a6 a7, List.nil_append, Nat.zero_add]; rfl, ?_⟩
              rw [List.nil_append, Nat.zero_add]
              conv => whnf
              refine ⟨_, rfl, .inr ⟨gJ l[i], ?_⟩⟩
              conv => whnf
              refine ⟨by omega, by rw [a6 dN, List.length_take, Nat.min_eq_left (by omega)], _, bQ tL _ l[i], ?_⟩
              conv => whnf
              refine ⟨[(0,0),(1,0),(4,0),(5,0),(6,0),(8,0),(10,0)], fun m s => ∃ (j : Nat) (e : Int) (cs : List V) (n' : Nat) (r : List V), e = j ∧ m + j = out.length ∧ n ≤ j ∧ cs.length = out.length ∧ (∀ p, j ≤ p → ∀ h : p < out.length, cs[p]? = some (bE out[p])) ∧ n' = j + 1 ∧ r = aB tL (out.take n ++ l[i] :: (out.take j).drop n) ∧
                s = ⟨91, [(0, kZ l), (1, cb true), (4, cG), (5, .own 0 1 0 out.length out.length none), (6, ci i), (8, .own 1 1 0 n' n' none), (10, ci e)], [some ⟨false, cs⟩, some ⟨false, r⟩]⟩, out.length - n, ⟨n, _, cs, n + 1, aB tL (out.take n ++ [l[i]]), rfl, by omega, Nat.le_refl _, hcl, hcs, rfl, by rw [List.drop_eq_nil_of_le (by rw [List.length_take]; omega)], by kernel_rfl⟩, ?_⟩
              rintro m3 s ⟨j, _, cs3, n', _, rfl, hm3, hnj, hcl3, hcs3, rfl, rfl, rfl⟩
              conv => whnf
              split <;> rename_i h3
              all_goals simp only [decide_eq_true_eq, decide_eq_false_iff_not] at h3
              · conv => whnf
                have hjo : j < out.length := by omega
                have hcell : cs3[0 + (j : Int).toNat * 1]? = some (bE out[j]) := by
                  have := hcs3 j (Nat.le_refl _) hjo
                  simpa using this
                refine ⟨by omega, ?_⟩
                conv => whnf
                refine ⟨_, s6 hcell, ?_⟩
                conv => whnf
                refine ⟨_, _, _, hcell, ?_⟩
                conv => whnf
                refine ⟨_, rfl, .inr ⟨gJ out[j], ?_⟩⟩
                conv => whnf
                refine ⟨by omega, by rw [a6 dN]; simp; omega, _, bQ tL _ out[j], ?_⟩
                conv => whnf
                refine ⟨m3 - 1, by omega, j + 1, _, cs3.set (0 + (j : Int).toNat * 1) .any, j + 1 + 1, aB tL ((out.take n ++ l[i] :: (out.take j).drop n) ++ [out[j]]), a8 (by omega) (by omega), by omega, by omega, by rw [List.length_set, hcl3], ?_, rfl, ?_, by kernel_rfl⟩
                · intro p hp h
                  rw [List.getElem?_set_ne (by simp; omega)]
                  exact hcs3 p (by omega) h
                · rw [List.take_succ_eq_append_getElem hjo, List.drop_append_of_le_length (by rw [List.length_take]; omega)]
                  simp
              · conv => whnf
                have hje : j = out.length := by omega
                subst hje
                rw [List.take_length]
                have hlen : (out.take n ++ l[i] :: out.drop n).length = out.length + 1 := by simp; omega
                refine ⟨m - 1, by omega, i + 1, _, out.take n ++ l[i] :: out.drop n, a8 (by omega) (by omega), by omega, by rw [hj, hins], by rw [hlen]; omega, ?_, by rw [hlen]; kernel_rfl⟩
                intro x hx
                rcases List.mem_append.1 hx with hx | hx
                · exact hmem x (List.mem_of_mem_take hx)
                · rcases List.mem_cons.1 hx with rfl | hx
                  · exact List.getElem_mem hi
                  · exact hmem x (List.mem_of_mem_drop hx)
          · have heq : out[k - 1] = l[i] := of_decide_eq_true hc6
            have hins : l4 true out l[i] = out := by unfold l4; rw [hfin, hgd]; simp [heq, hkp]
            conv => whnf
            exact ⟨m - 1, by omega, i + 1, _, out, a8 (by omega) (by omega), by omega, by rw [hj, hins], by omega, hmem, by kernel_rfl⟩)
  · conv => whnf
    rw [bG (by omega)] at hj
    refine ⟨by rw [a6 dN], ?_⟩
    rw [hj]
    rfl
def oH (q : cI) (db : List aG) : List (List Int) := lB true ((c8 db q.2 fF).map sV)
theorem a2X (b : Bnd) : (sV b).length = 20 := rfl
theorem vG (xs : List (List Int)) : pD (pM xs) := dG (f := tL) (fun x => ⟨xB x, trivial⟩) xs
set_option maxHeartbeats 4000000 in
theorem Q8 (q : cI) (db : List aG) (hq : aC q ≤ 1048576) (hd : d6 db ≤ 1048576) (ht : ∀ a ∈ q.2, a.2.all aU = true) (hn : db.length ^ q.2.length ≤ 549755813888) : bI Tryz.prog 71 [aP q, c7 db] (pM (oH q db)) := by
 refine aF mx aJ Tryz.func71 rfl ?_
 conv => whnf
 refine ⟨[1002, 0, 1, 2], by kernel_rfl, ?_⟩
 conv => whnf
 refine ⟨_, KD, .inl rfl, .inl ?_⟩
 conv => whnf
 rw [cK]
 refine .inr (.inr ⟨[2, 1], [], ?_⟩)
 conv => whnf
 have hv := GX q db hq hd ht q.2.length 0 (Nat.zero_add _) fF [] (by simp; omega)
 have hlen := iG db q.2 fF
 refine ⟨_, hv, fun r g2 hP => ?_⟩
 obtain ⟨rfl, hv⟩ := hP
 rw [List.drop_zero] at hv
 have hvl : ((c8 db q.2 fF).map sV).length ≤ 549755813888 := by rw [List.length_map]; omega
 have hv20 : ∀ v ∈ (c8 db q.2 fF).map sV, v.length ≤ 1099511627776 := fun v hv => by
  obtain ⟨b, _, rfl⟩ := List.mem_map.1 hv
  rw [a2X]; omega
 rcases hv with ⟨hn0, rfl⟩ | rfl
 ·refine .inl ?_
  conv => whnf
  refine .inl ?_
  conv => whnf
  refine ⟨_, _, rfl, rfl, ?_⟩
  conv => whnf
  have hs := oS [] true (by simp) (by simp)
  refine ⟨_, hs, .inr (vG _), .inr ?_⟩
  conv => whnf
  refine ⟨by rw [a6 dN], ?_⟩
  unfold oH
  rw [hn0]; rfl
 ·refine .inl ?_
  conv => whnf
  rw [List.nil_append]
  refine .inl ?_
  conv => whnf
  refine ⟨_, _, aN (a6 dN _), bF YZ _, ?_⟩
  conv => whnf
  have hs := oS ((c8 db q.2 fF).map sV) true hvl hv20
  refine ⟨_, hs, .inr (vG _), .inr ?_⟩
  conv => whnf
  refine ⟨by rw [a6 dN], ?_⟩
  rfl
end Go.Proofs.YtboolngaahifdaaGreatD
