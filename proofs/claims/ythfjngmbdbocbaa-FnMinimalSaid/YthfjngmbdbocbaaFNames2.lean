/- Names in the order of their first use: the second program. -/
import Derived.Test.YthfjngmbdbocbaaFNames0
import Derived.Test.YthfjngmbdbocbaaFReplaceTerm
import Derived.Test.YthfjngmbdbocbaaFCopyQ
import Derived.Test.YthfjngmbdbocbaaFQueryOk2
set_option linter.unusedVariables false
set_option linter.unusedSimpArgs false
set_option maxRecDepth 100000
namespace Go.Proofs.YthfjngmbdbocbaaD
open Go Go.Proofs

def boxN (k : Nat) : Option Obj := some ⟨true, [.mref k]⟩
def mapO' (m : List (Int × Int)) : Option Obj := some ⟨true, [.bp (encM m)]⟩
theorem nameC_spec (x : Int) (m : List (Int × Int)) (hm : m.length ≤ 1099511627776) : SpecG Try.prog 122 [ci x, .ptr 0 0] [some ⟨true, [.mref 1]⟩, some ⟨true, [.bp (encM m)]⟩] fun r g2 => r = ci (nm m x).1 ∧ g2 = [some ⟨true, [.mref 1]⟩, some ⟨true, [.bp (encM (nm m x).2)]⟩] := by
  refine SpecG_of mx Γ_ok 2 Try.func122 rfl rfl (by decide) ?_
  conv => whnf
  refine ⟨_, implIsVar_spec x, .inl rfl, .inl ?_⟩
  conv => whnf
  unfold nm
  generalize isVar x = b1
  cases b1 with
  | false =>
    conv => whnf
    refine ⟨[], ?_⟩
    conv => whnf
    exact ⟨rfl, rfl⟩
  | true =>
    conv => whnf
    refine ⟨m, rfl, ?_⟩
    conv => whnf
    generalize getM m x = o
    cases o with
    | some n =>
      conv => whnf
      refine ⟨[], ?_⟩
      conv => whnf
      exact ⟨rfl, rfl⟩
    | none =>
      conv => whnf
      refine ⟨m, rfl, ?_⟩
      conv => whnf
      refine ⟨m, rfl, _, rfl, ?_⟩
      conv => whnf
      refine ⟨[], ?_⟩
      conv => whnf
      exact ⟨rfl, rfl⟩
def fnN : V := .fn 122 [.ptr 0 0]
/-- Named up to k, and the map then. -/
def chgN (xs : List Int) (m : List (Int × Int)) (k : Nat) : List Int := (nmL (xs.take k) m).1 ++ xs.drop k
def mapN (xs : List Int) (m : List (Int × Int)) (k : Nat) : List (Int × Int) := (nmL (xs.take k) m).2
theorem chgN_len (xs : List Int) (m : List (Int × Int)) (k : Nat) : (chgN xs m k).length = xs.length := by
  simp only [chgN, List.length_append, nmL_len, List.length_take, List.length_drop]; omega
theorem chgN_zero (xs : List Int) (m : List (Int × Int)) : chgN xs m 0 = xs := by simp [chgN, nmL]
theorem chgN_all {xs : List Int} (m : List (Int × Int)) {k : Nat} (h : xs.length ≤ k) : chgN xs m k = (nmL xs m).1 := by
  rw [chgN, List.take_of_length_le h, List.drop_eq_nil_of_le h, List.append_nil]
theorem chgN_at {xs : List Int} (m : List (Int × Int)) {k : Nat} (hk : k < xs.length) (h : k < (chgN xs m k).length) : (chgN xs m k)[k] = xs[k] := by
  have hl : (nmL (xs.take k) m).1.length = k := by rw [nmL_len, List.length_take]; omega
  have : (chgN xs m k)[k]? = some xs[k] := by
    rw [chgN, List.getElem?_append_right (by omega), hl, Nat.sub_self, List.getElem?_drop, Nat.add_zero, List.getElem?_eq_getElem hk]
  rw [List.getElem?_eq_getElem h] at this
  exact Option.some.inj this
theorem nmL_succ {xs : List Int} (m : List (Int × Int)) {k : Nat} (hk : k < xs.length) : nmL (xs.take (k + 1)) m = ((nmL (xs.take k) m).1 ++ [(nm (mapN xs m k) xs[k]).1], (nm (mapN xs m k) xs[k]).2) := by
  rw [List.take_succ_eq_append_getElem hk, nmL_app]
  rfl
theorem chgN_set {xs : List Int} (m : List (Int × Int)) {k : Nat} (hk : k < xs.length) : (chgN xs m k).set k (nm (mapN xs m k) xs[k]).1 = chgN xs m (k + 1) := by
  have hl : (nmL (xs.take k) m).1.length = k := by rw [nmL_len, List.length_take]; omega
  unfold chgN
  rw [List.set_append_right _ _ (by omega), hl, Nat.sub_self, List.drop_eq_getElem_cons hk, List.set_cons_zero, nmL_succ m hk, List.append_assoc]
  rfl
theorem mapN_succ {xs : List Int} (m : List (Int × Int)) {k : Nat} (hk : k < xs.length) : (nm (mapN xs m k) xs[k]).2 = mapN xs m (k + 1) := by
  unfold mapN
  rw [nmL_succ m hk]
  rfl
theorem mapN_zero (xs : List Int) (m : List (Int × Int)) : mapN xs m 0 = m := by simp [mapN, nmL]
theorem mapN_all {xs : List Int} (m : List (Int × Int)) {k : Nat} (h : xs.length ≤ k) : mapN xs m k = (nmL xs m).2 := by rw [mapN, List.take_of_length_le h]
/-- The same for atoms: k of them are named, of the next one j terms. -/
def chgA (xs : List AtomC) (m : List (Int × Int)) (k : Nat) : List AtomC := (nmA (xs.take k) m).1 ++ xs.drop k
def mapA (xs : List AtomC) (m : List (Int × Int)) (k : Nat) : List (Int × Int) := (nmA (xs.take k) m).2
theorem chgA_len (xs : List AtomC) (m : List (Int × Int)) (k : Nat) : (chgA xs m k).length = xs.length := by
  simp only [chgA, List.length_append, nmA_len, List.length_take, List.length_drop]; omega
theorem chgA_zero (xs : List AtomC) (m : List (Int × Int)) : chgA xs m 0 = xs := by simp [chgA, nmA]
theorem mapA_zero (xs : List AtomC) (m : List (Int × Int)) : mapA xs m 0 = m := by simp [mapA, nmA]
theorem chgA_all {xs : List AtomC} (m : List (Int × Int)) {k : Nat} (h : xs.length ≤ k) : chgA xs m k = (nmA xs m).1 := by
  rw [chgA, List.take_of_length_le h, List.drop_eq_nil_of_le h, List.append_nil]
theorem chgA_at {xs : List AtomC} (m : List (Int × Int)) {k : Nat} (hk : k < xs.length) (h : k < (chgA xs m k).length) : (chgA xs m k)[k] = xs[k] := by
  have hl : (nmA (xs.take k) m).1.length = k := by rw [nmA_len, List.length_take]; omega
  have : (chgA xs m k)[k]? = some xs[k] := by
    rw [chgA, List.getElem?_append_right (by omega), hl, Nat.sub_self, List.getElem?_drop, Nat.add_zero, List.getElem?_eq_getElem hk]
  rw [List.getElem?_eq_getElem h] at this
  exact Option.some.inj this
theorem nmA_succ {xs : List AtomC} (m : List (Int × Int)) {k : Nat} (hk : k < xs.length) : nmA (xs.take (k + 1)) m = ((nmA (xs.take k) m).1 ++ [(xs[k].1, (nmL xs[k].2 (mapA xs m k)).1)], (nmL xs[k].2 (mapA xs m k)).2) := by
  rw [List.take_succ_eq_append_getElem hk, nmA_app]
  rfl
def bodyN (xs : List AtomC) (m : List (Int × Int)) (k : Nat) (x : AtomC) (j : Nat) : List AtomC := (chgA xs m k).set k (x.1, chgN x.2 (mapA xs m k) j)
theorem bodyN_len (xs : List AtomC) (m : List (Int × Int)) (k : Nat) (x : AtomC) (j : Nat) : (bodyN xs m k x j).length = xs.length := by rw [bodyN, List.length_set, chgA_len]
theorem bodyN_zero {xs : List AtomC} (m : List (Int × Int)) {k : Nat} (hk : k < xs.length) : bodyN xs m k xs[k] 0 = chgA xs m k := by
  rw [bodyN, chgN_zero]
  have hk' : k < (chgA xs m k).length := by rw [chgA_len]; exact hk
  have := chgA_at m hk hk'
  rw [show (xs[k].1, xs[k].2) = xs[k] from rfl, ← this, List.set_getElem_self]
theorem bodyN_all {xs : List AtomC} (m : List (Int × Int)) {k j : Nat} (hk : k < xs.length) (hj : xs[k].2.length ≤ j) : bodyN xs m k xs[k] j = chgA xs m (k + 1) := by
  have hl : (nmA (xs.take k) m).1.length = k := by rw [nmA_len, List.length_take]; omega
  rw [bodyN, chgN_all _ hj]
  unfold chgA
  rw [List.set_append_right _ _ (by omega), hl, Nat.sub_self, List.drop_eq_getElem_cons hk, List.set_cons_zero, nmA_succ m hk, List.append_assoc]
  rfl
theorem mapA_all {xs : List AtomC} (m : List (Int × Int)) {k j : Nat} (hk : k < xs.length) (hj : xs[k].2.length ≤ j) : mapN xs[k].2 (mapA xs m k) j = mapA xs m (k + 1) := by
  rw [mapN_all _ hj]
  conv => rhs; unfold mapA
  rw [nmA_succ m hk]
theorem mapA_end {xs : List AtomC} (m : List (Int × Int)) {k : Nat} (h : xs.length ≤ k) : mapA xs m k = (nmA xs m).2 := by rw [mapA, List.take_of_length_le h]
theorem bodyN_at {xs : List AtomC} (m : List (Int × Int)) {k j : Nat} (x : AtomC) (hk : k < xs.length) (h : k < (bodyN xs m k x j).length) : (bodyN xs m k x j)[k] = (x.1, chgN x.2 (mapA xs m k) j) := by
  simp only [bodyN, List.getElem_set_self]
theorem bodyN_set (xs : List AtomC) (m : List (Int × Int)) (k : Nat) (x : AtomC) (j i : Nat) : (bodyN xs m k x j).set k (x.1, chgN x.2 (mapA xs m k) i) = bodyN xs m k x i := by
  rw [bodyN, List.set_set]
  rfl
theorem nm_map_len (m : List (Int × Int)) (x : Int) : (nm m x).2.length ≤ m.length + 1 := by
  have key : ∀ (m : List (Int × Int)) (x y : Int), (setM m x y).length ≤ m.length + 1 := by
    intro m x y
    induction m with
    | nil => simp [setM]
    | cons p r ih =>
      obtain ⟨a, b⟩ := p
      simp only [setM]
      cases (a == x) with
      | true => simp
      | false => simp only [cond_false, List.length_cons]; omega
  unfold nm
  split
  · split
    · exact Nat.le_succ _
    · exact key _ _ _
  · exact Nat.le_succ _
theorem nmL_map_len : ∀ (xs : List Int) (m : List (Int × Int)), (nmL xs m).2.length ≤ m.length + xs.length
  | [], m => Nat.le_refl _
  | x :: xs, m => by
    have h1 := nmL_map_len xs (nm m x).2
    have h2 := nm_map_len m x
    simp only [nmL, List.length_cons]
    omega
theorem nmA_map_len : ∀ (xs : List AtomC) (m : List (Int × Int)), (nmA xs m).2.length ≤ m.length + sumB cAtom xs
  | [], m => Nat.le_refl _
  | a :: xs, m => by
    have h1 := nmA_map_len xs (nmL a.2 m).2
    have h2 := nmL_map_len a.2 m
    have h3 : cAtom a = a.2.length := rfl
    simp only [nmA, sumB]
    omega
theorem sumB_takeL {α : Type} (f : α → Nat) : ∀ (xs : List α) (k : Nat), sumB f (xs.take k) ≤ sumB f xs
  | [], k => by simp [sumB]
  | x :: xs, 0 => by simp [sumB]
  | x :: xs, k + 1 => by
    have := sumB_takeL f xs k
    simp only [List.take_succ_cons, sumB]
    omega
set_option maxHeartbeats 8000000 in
theorem changedN_spec (x0 : QueryC) (h0 : cQuery x0 ≤ 1048576) : SpecG Try.prog 94 [vQuery x0, fnN] [some ⟨true, [.mref 1]⟩, some ⟨true, [.bp (encM [])]⟩] fun r g2 => r = wQuery (nmQ x0) ∧ ∃ m, g2 = [some ⟨true, [.mref 1]⟩, some ⟨true, [.bp (encM m)]⟩] := by
  have h0' := h0
  unfold cQuery cAtomS at h0'
  refine SpecG_of mx Γ_ok 2 Try.func94 rfl rfl (by decide) ?_
  conv => whnf
  refine ⟨_, copyQuery_spec x0 (by omega), .inl rfl, .inr ?_⟩
  conv => whnf
  refine ⟨[(1,0),(4,0),(5,0),(15,0),(16,0),(17,0)], fun m s => ∃ (k : Nat) (e : Int) (r : List V) (mm : List (Int × Int)), e = k ∧ m + k = x0.1.length ∧ r = rows ciL (chgN x0.1 [] k) ∧ mm = mapN x0.1 [] k ∧
    s = ⟨55, [(1, fnN), (4, .ptr 2 0), (5, .ptr 3 0), (15, .own 4 1 0 x0.1.length x0.1.length none), (16, ci x0.1.length), (17, ci e)], [some ⟨true, [.mref 1]⟩, some ⟨true, [.bp (encM mm)]⟩, some ⟨true, [cnil, cnil]⟩, some ⟨true, [.own 4 1 0 x0.1.length x0.1.length none, .own 5 2 0 x0.2.length x0.2.length none]⟩, some ⟨false, r⟩, some ⟨false, rows tAtom x0.2⟩]⟩, x0.1.length,
    ⟨0, 0, rows ciL x0.1, [], rfl, rfl, by rw [chgN_zero], by rw [mapN_zero], by kernel_rfl⟩, ?_⟩
  rintro m s ⟨k, _, _, mm, rfl, hm, rfl, rfl, rfl⟩
  conv => whnf
  split <;> rename_i h1
  all_goals simp only [decide_eq_true_eq, decide_eq_false_iff_not] at h1
  · conv => whnf
    have hk : k < x0.1.length := by omega
    have hk' : k < (chgN x0.1 [] k).length := by rw [chgN_len]; exact hk
    have hml : (mapN x0.1 [] k).length ≤ 1099511627776 := by
      have := nmL_map_len (x0.1.take k) []
      rw [List.length_take] at this
      unfold mapN
      simp only [List.length_nil] at this
      omega
    refine ⟨by omega, ?_⟩
    conv => whnf
    refine ⟨_, takeN_own (k := k) (d := 0) (m := 1) (xs := chgN x0.1 [] k) ciL_len (Nat.zero_add _) hk' (by omega) rfl, ?_⟩
    rw [chgN_at _ hk hk']
    conv => whnf
    refine ⟨[1001, 2000, 2001, 0, 1, 2, 3, 4, 5, 6, 7, 1000, 1000], by kernel_rfl, ?_⟩
    conv => whnf
    refine .inr (.inr ⟨[0, 1], noSubT_lk (by kernel_rfl), rfl, ?_⟩)
    conv => whnf
    refine ⟨_, nameC_spec x0.1[k] (mapN x0.1 [] k) hml, fun r g2 hP => ?_⟩
    obtain ⟨rfl, rfl⟩ := hP
    refine .inl ?_
    conv => whnf
    refine ⟨by omega, ?_⟩
    conv => whnf
    refine ⟨_, takeN_own (k := k) (d := 0) (m := 1) (xs := chgN x0.1 [] k) ciL_len (Nat.zero_add _) hk' (by omega) rfl, _, (congrArg (fun o => setC (rows ciL (chgN x0.1 [] k)) o (ciL (nm (mapN x0.1 [] k) x0.1[k]).1)) (Nat.zero_add _)).trans (setC_rows ciL_len (by omega) hk' _), ?_⟩
    conv => whnf
    refine ⟨m - 1, by omega, k + 1, IntKind.i64.wrap ((k : Int) + 1), rows ciL ((chgN x0.1 [] k).set k (nm (mapN x0.1 [] k) x0.1[k]).1), (nm (mapN x0.1 [] k) x0.1[k]).2, wrap_id (by omega) (by omega), by omega, ?_, mapN_succ [] hk, by kernel_rfl⟩
    rw [chgN_set _ hk]
  · conv => whnf
    rw [chgN_all _ (by omega), mapN_all _ (by omega)]
    have hm0 := nmL_map_len x0.1 []
    have hQ : nmQ x0 = ((nmL x0.1 []).1, (nmA x0.2 (nmL x0.1 []).2).1) := rfl
    have hH : (nmL x0.1 []).1.length = x0.1.length := nmL_len _ _
    generalize (nmL x0.1 []).2 = M at hm0 hQ ⊢
    generalize (nmL x0.1 []).1 = H at hQ hH ⊢
    simp only [List.length_nil, Nat.zero_add] at hm0
    refine ⟨[(1,0),(4,0),(5,0),(31,0),(32,0),(33,0)], fun m s => ∃ (k : Nat) (e : Int) (r : List V) (mm : List (Int × Int)), e = k ∧ m + k = x0.2.length ∧ r = rows tAtom (chgA x0.2 M k) ∧ mm = mapA x0.2 M k ∧
      s = ⟨55, [(1, fnN), (4, .ptr 2 0), (5, .ptr 3 0), (31, .own 4 2 0 x0.2.length x0.2.length none), (32, ci x0.2.length), (33, ci e)], [some ⟨true, [.mref 1]⟩, some ⟨true, [.bp (encM mm)]⟩, some ⟨true, [cnil, cnil]⟩, some ⟨true, [.own 5 1 0 x0.1.length x0.1.length none, .own 4 2 0 x0.2.length x0.2.length none]⟩, some ⟨false, r⟩, some ⟨false, rows ciL H⟩]⟩, x0.2.length,
      ⟨0, 0, rows tAtom x0.2, M, rfl, rfl, by rw [chgA_zero], by rw [mapA_zero], by kernel_rfl⟩, ?_⟩
    rintro m1 s ⟨k, _, _, mm, rfl, hm1, rfl, rfl, rfl⟩
    conv => whnf
    split <;> rename_i h2
    all_goals simp only [decide_eq_true_eq, decide_eq_false_iff_not] at h2
    · conv => whnf
      have hk : k < x0.2.length := by omega
      have hk' : k < (chgA x0.2 M k).length := by rw [chgA_len]; exact hk
      have hb := sumB_one (f := cAtom) hk
      have hcb : cAtom x0.2[k] = x0.2[k].2.length := rfl
      have hMk : (mapA x0.2 M k).length ≤ 2097152 := by
        have h4 := nmA_map_len (x0.2.take k) M
        have h5 := sumB_takeL cAtom x0.2 k
        unfold mapA
        omega
      refine ⟨by omega, ?_⟩
      conv => whnf
      refine ⟨_, takeN_own (k := k) (d := 0) (m := 2) (xs := chgA x0.2 M k) tAtom_len (Nat.zero_add _) hk' (by omega) rfl, ?_⟩
      rw [chgA_at _ hk hk']
      conv => whnf
      have hc0 : (rows tAtom (chgA x0.2 M k))[0 + k * 2 + 1]? = some (intsT x0.2[k].2) := rows_cell tAtom_len (k := k) (d := 1) (by omega) hk' (by rw [chgA_at _ hk hk']; rfl)
      have hlen : ∀ (st : St) (v : V), st.ob 4 = some ⟨false, rows tAtom (chgA x0.2 M k)⟩ → v = .sub 4 (0 + k * 2 + 1) → lenV st v = some x0.2[k].2.length := by
        rintro st v h rfl
        simp only [lenV, h, hc0, intsT]
      rw [hlen]
      rotate_left
      · rfl
      · rfl
      conv => whnf
      refine ⟨[(1,0),(4,0),(5,0),(9,0),(31,0),(32,0),(33,0),(38,0),(39,0),(40,0)], fun m s => ∃ (j : Nat) (e : Int) (o : Nat) (r : List V) (mm : List (Int × Int)), e = j ∧ m + j = x0.2[k].2.length ∧ o = k * 2 + 1 ∧ r = rows tAtom (bodyN x0.2 M k x0.2[k] j) ∧ mm = mapN x0.2[k].2 (mapA x0.2 M k) j ∧
        s = ⟨55, [(1, fnN), (4, .ptr 2 0), (5, .ptr 3 0), (9, .ptr 4 0), (31, .own 5 2 0 x0.2.length x0.2.length none), (32, ci x0.2.length), (33, ci k), (38, .sub 5 o), (39, ci x0.2[k].2.length), (40, ci e)], [some ⟨true, [.mref 1]⟩, some ⟨true, [.bp (encM mm)]⟩, some ⟨true, [cnil, cnil]⟩, some ⟨true, [.own 6 1 0 x0.1.length x0.1.length none, .own 5 2 0 x0.2.length x0.2.length none]⟩, some ⟨true, [ci x0.2[k].1, .sub 5 o]⟩, some ⟨false, r⟩, some ⟨false, rows ciL H⟩]⟩, x0.2[k].2.length,
        ⟨0, 0, 0 + k * 2 + 1, rows tAtom (chgA x0.2 M k), mapA x0.2 M k, rfl, rfl, by omega, by rw [bodyN_zero _ hk], by rw [mapN_zero], by kernel_rfl⟩, ?_⟩
      rintro m2 s ⟨j, _, o, _, mm, rfl, hm2, ho, rfl, rfl, rfl⟩
      have hkb : k < (bodyN x0.2 M k x0.2[k] j).length := by rw [bodyN_len]; exact hk
      have hcell : (rows tAtom (bodyN x0.2 M k x0.2[k] j))[o]? = some (V.tr 1 (chgN x0.2[k].2 (mapA x0.2 M k) j).length (rows ciL (chgN x0.2[k].2 (mapA x0.2 M k) j))) := rows_cell tAtom_len (k := k) (d := 1) (by omega) hkb (by rw [bodyN_at _ _ hk hkb]; rfl)
      conv => whnf
      split <;> rename_i h3
      all_goals simp only [decide_eq_true_eq, decide_eq_false_iff_not] at h3
      · conv => whnf
        have hj : j < x0.2[k].2.length := by omega
        have hj' : j < (chgN x0.2[k].2 (mapA x0.2 M k) j).length := by rw [chgN_len]; exact hj
        have hml : (mapN x0.2[k].2 (mapA x0.2 M k) j).length ≤ 1099511627776 := by
          have h6 := nmL_map_len (x0.2[k].2.take j) (mapA x0.2 M k)
          rw [List.length_take] at h6
          unfold mapN
          omega
        refine ⟨_, _, hcell, ⟨by omega, by omega⟩, ?_⟩
        conv => whnf
        refine ⟨_, _, _, _, hcell, takeN_own (k := j) (d := 0) (m := 1) (xs := chgN x0.2[k].2 (mapA x0.2 M k) j) ciL_len rfl hj' (by omega) rfl, flat1 rfl, ?_⟩
        rw [chgN_at _ hj hj']
        conv => whnf
        refine ⟨[1001, 2000, 2001, 0, 1, 2, 3, 4, 5, 6, 7, 1000, 1000], by kernel_rfl, ?_⟩
        conv => whnf
        refine .inr (.inr ⟨[0, 1], noSubT_lk (by kernel_rfl), rfl, ?_⟩)
        conv => whnf
        refine ⟨_, nameC_spec x0.2[k].2[j] (mapN x0.2[k].2 (mapA x0.2 M k) j) hml, fun r g2 hP => ?_⟩
        obtain ⟨rfl, rfl⟩ := hP
        refine .inl ?_
        conv => whnf
        refine ⟨_, _, hcell, ⟨by omega, by omega⟩, ?_⟩
        conv => whnf
        have hset : (rows tAtom (bodyN x0.2 M k x0.2[k] j)).set o (V.tr 1 (chgN x0.2[k].2 (mapA x0.2 M k) j).length (setC (rows ciL (chgN x0.2[k].2 (mapA x0.2 M k) j)) (j * 1) [ci (nm (mapN x0.2[k].2 (mapA x0.2 M k) j) x0.2[k].2[j]).1])) = rows tAtom (bodyN x0.2 M k x0.2[k] (j + 1)) := by
          have h5 : setC (rows ciL (chgN x0.2[k].2 (mapA x0.2 M k) j)) (j * 1) [ci (nm (mapN x0.2[k].2 (mapA x0.2 M k) j) x0.2[k].2[j]).1] = rows ciL (chgN x0.2[k].2 (mapA x0.2 M k) (j + 1)) := by
            rw [← chgN_set _ hj]
            exact setC_rows ciL_len (by omega) hj' _
          rw [h5, rows_setCell (y := (x0.2[k].1, chgN x0.2[k].2 (mapA x0.2 M k) (j + 1))) tAtom_len (k := k) (d := 1) (by omega) hkb ?_ (by omega), bodyN_set]
          rw [bodyN_at _ _ hk hkb]
          simp only [tAtom, intsT, chgN_len]
          rfl
        refine ⟨_, _, _, _, hcell, takeN_own (k := j) (d := 0) (m := 1) (xs := chgN x0.2[k].2 (mapA x0.2 M k) j) ciL_len rfl hj' (by omega) rfl, _, hset, ?_⟩
        conv => whnf
        exact ⟨m2 - 1, by omega, j + 1, IntKind.i64.wrap ((j : Int) + 1), o, rows tAtom (bodyN x0.2 M k x0.2[k] (j + 1)), (nm (mapN x0.2[k].2 (mapA x0.2 M k) j) x0.2[k].2[j]).2, wrap_id (by omega) (by omega), by omega, ho, rfl, mapN_succ _ hj, by kernel_rfl⟩
      · conv => whnf
        refine ⟨m1 - 1, by omega, k + 1, IntKind.i64.wrap ((k : Int) + 1), rows tAtom (bodyN x0.2 M k x0.2[k] j), mapN x0.2[k].2 (mapA x0.2 M k) j, wrap_id (by omega) (by omega), by omega, ?_, ?_, by kernel_rfl⟩
        · rw [bodyN_all _ hk (by omega)]
        · exact mapA_all _ hk (by omega)
    · conv => whnf
      rw [chgA_all _ (by omega)]
      refine ⟨[], ?_⟩
      conv => whnf
      refine ⟨by rw [rows_len ciL_len, hH], by rw [rows_len tAtom_len, nmA_len], ?_⟩
      conv => whnf
      refine ⟨?_, _, rfl⟩
      rw [hQ]
      have e : wQuery (H, (nmA x0.2 M).1) = .agg [.tr 1 x0.1.length (rows ciL H), .tr 2 x0.2.length (rows tAtom (nmA x0.2 M).1)] := by
        simp only [wQuery, tQuery, wAtomS, intsT, nmA_len, hH]
      rw [e]
theorem implFirstNames_spec (x0 : QueryC) (h0 : cQuery x0 ≤ 1048576) : Spec Try.prog 54 [vQuery x0] (wQuery (nmQ x0)) := by
  refine Spec_of mx Γ_ok Try.func54 rfl ?_
  conv => whnf
  refine .inr (.inr ⟨[3, 2], [], ?_⟩)
  conv => whnf
  refine ⟨_, changedN_spec x0 h0, fun r g2 hP => ?_⟩
  obtain ⟨rfl, m, rfl⟩ := hP
  refine .inr ?_
  conv => whnf
  refine ⟨by rw [rows_len ciL_len], by rw [rows_len tAtom_len], rfl⟩
end Go.Proofs.YthfjngmbdbocbaaD

/- Names in the order of their first use: the first program, and both. -/
set_option linter.unusedVariables false
set_option linter.unusedSimpArgs false
set_option maxRecDepth 100000
namespace Go.Proofs.YthfjngmbdbocbaaD
open Go Go.Proofs

theorem toOf_nil : toOf [] = (List.range 20).map fun (v : Nat) => (v : Int) := by
  unfold toOf
  refine List.map_congr_left fun v _ => ?_
  rw [if_neg (by simp [has])]
set_option maxHeartbeats 8000000 in
theorem specFirstNames_spec (x0 : QueryC) (h0 : cQuery x0 ≤ 1048576) : Spec Try.prog 55 [vQuery x0] (wQuery (nmQ x0)) := by
  have h0' := h0
  unfold cQuery cAtomS at h0'
  refine Spec_of mx Γ_ok Try.func55 rfl ?_
  conv => whnf
  refine ⟨[(1,0),(2,0),(3,0),(4,0)], fun m s => ∃ (k : Nat) (e : Int) (n : Nat) (r : List V), e = k ∧ m + k = 20 ∧ n = k ∧ r = rows ciL ((List.range k).map fun (v : Nat) => (v : Int)) ∧
    s = ⟨76, [(1, .ptr 0 0), (2, .ptr 1 0), (3, .own 2 1 0 n n none), (4, ci e)], [some ⟨true, rQuery x0⟩, some ⟨true, [cnil, cnil]⟩, some ⟨false, r⟩]⟩, 20, ⟨0, 0, 0, [], rfl, rfl, rfl, rfl, by kernel_rfl⟩, ?_⟩
  rintro m s ⟨k, _, n, _, rfl, hm, rfl, rfl, rfl⟩
  conv => whnf
  split <;> rename_i h1
  all_goals simp only [decide_eq_true_eq, decide_eq_false_iff_not] at h1
  · conv => whnf
    refine ⟨_, rfl, .inl ⟨flat1 rfl, ?_⟩⟩
    conv => whnf
    refine ⟨by omega, by rw [rows_len ciL_len, List.length_map, List.length_range], _, snoc_ci _ _, ?_⟩
    conv => whnf
    refine ⟨m - 1, by omega, n + 1, IntKind.i64.wrap ((n : Int) + 1), n + 1, rows ciL (((List.range n).map fun (v : Nat) => (v : Int)) ++ [(n : Int)]), wrap_id (by omega) (by omega), by omega, rfl, ?_, by kernel_rfl⟩
    rw [List.range_succ, List.map_append]
    rfl
  · conv => whnf
    have hn : n = 20 := by omega
    subst hn
    rw [← toOf_nil]
    refine ⟨rows_len ciL_len _, solid_ci _, ?_⟩
    conv => whnf
    refine ⟨by omega, rfl, _, (show _ = rows ciL x0.1 from app_ci [] x0.1), ?_⟩
    conv => whnf
    refine ⟨[(1,0),(2,0),(3,0),(5,0),(6,0),(7,0)], fun m s => ∃ (k : Nat) (e : Int) (n : Nat) (r : List V), e = k ∧ m + k = x0.2.length ∧ n = (x0.1 ++ (x0.2.take k).flatMap (·.2)).length ∧ r = rows ciL (x0.1 ++ (x0.2.take k).flatMap (·.2)) ∧
      s = ⟨76, [(1, .ptr 0 0), (2, .ptr 1 0), (3, .own 2 1 0 20 20 none), (5, .own 3 1 0 0 0 none), (6, .own 4 1 0 n n none), (7, ci e)], [some ⟨true, rQuery x0⟩, some ⟨true, [cnil, cnil]⟩, some ⟨false, rows ciL (toOf [])⟩, some ⟨false, []⟩, some ⟨false, r⟩]⟩, x0.2.length,
      ⟨0, 0, 0 + x0.1.length, rows ciL x0.1, rfl, rfl, by simp, by simp, by kernel_rfl⟩, ?_⟩
    rintro m1 s ⟨k, _, n, _, rfl, hm1, hn, rfl, rfl⟩
    have hfl : ∀ k, ((x0.2.take k).flatMap (·.2)).length ≤ sumB cAtom x0.2 := fun k => by
      have key : ∀ xs : List AtomC, (xs.flatMap (·.2)).length = sumB cAtom xs := by
        intro xs
        induction xs with
        | nil => rfl
        | cons a r ih => rw [List.flatMap_cons, List.length_append, ih]; rfl
      rw [key]
      exact sumB_takeL cAtom x0.2 k
    conv => whnf
    split <;> rename_i h2
    all_goals simp only [decide_eq_true_eq, decide_eq_false_iff_not] at h2
    · conv => whnf
      have hk : k < x0.2.length := by omega
      have hb := sumB_one (f := cAtom) hk
      have hcb : cAtom x0.2[k] = x0.2[k].2.length := rfl
      have hs : x0.1 ++ (x0.2.take (k + 1)).flatMap (·.2) = (x0.1 ++ (x0.2.take k).flatMap (·.2)) ++ x0.2[k].2 := by
        rw [List.take_succ_eq_append_getElem hk, List.flatMap_append, List.append_assoc]
        simp
      have h5 := hfl k
      refine ⟨by omega, rows_len rAtom_len _, ?_⟩
      conv => whnf
      refine ⟨_, takeN_rp_field (k := k) (d := 1) (m := 1) (r := [ints x0.2[k].2]) rAtom_len hk (by omega) rfl, ?_⟩
      conv => whnf
      refine ⟨rows_len ciL_len _, solid_ci _, ?_⟩
      conv => whnf
      refine ⟨by rw [List.length_append] at hn; omega, by rw [rows_len ciL_len, hn], _, app_ci _ _, ?_⟩
      conv => whnf
      refine ⟨m1 - 1, by omega, k + 1, IntKind.i64.wrap ((k : Int) + 1), n + x0.2[k].2.length, rows ciL ((x0.1 ++ (x0.2.take k).flatMap (·.2)) ++ x0.2[k].2), wrap_id (by omega) (by omega), by omega, ?_, ?_, by kernel_rfl⟩
      · rw [hs, List.length_append, ← hn]
      · rw [hs]
    · conv => whnf
      have hkk : k = x0.2.length := by omega
      rw [hkk, List.take_length] at hn ⊢
      have hall : x0.1 ++ x0.2.flatMap (·.2) = allT x0 := rfl
      rw [hall] at hn ⊢
      have hal : (allT x0).length ≤ 1048576 := by
        have h5 := hfl x0.2.length
        rw [List.take_length] at h5
        rw [← hall, List.length_append]; omega
      have hSl : ∀ j, ((allT x0).take j).length ≤ j := fun j => by rw [List.length_take]; omega
      have hSle : ∀ j, (((allT x0).take j).foldl addS []).length ≤ j := by
        have key : ∀ (xs S : List Int), (xs.foldl addS S).length ≤ S.length + xs.length := by
          intro xs
          induction xs with
          | nil => intro S; exact Nat.le_refl _
          | cons x xs ih =>
            intro S
            have h1 := ih (addS S x)
            have h2 := addS_len S x
            simp only [List.foldl_cons, List.length_cons]
            omega
        intro j
        have h1 := key ((allT x0).take j) []
        have h2 := hSl j
        simp only [List.length_nil] at h1
        omega
      refine ⟨[(1,0),(2,0),(3,0),(5,0),(6,0),(8,0)], fun m s => ∃ (k : Nat) (e : Int) (S : List Int) (ns : Nat) (rt rs : List V), e = k ∧ m + k = (allT x0).length ∧ S = ((allT x0).take k).foldl addS [] ∧ ns = S.length ∧ rt = rows ciL (toOf S) ∧ rs = rows ciL S ∧
        s = ⟨76, [(1, .ptr 0 0), (2, .ptr 1 0), (3, .own 2 1 0 20 20 none), (5, .own 3 1 0 ns ns none), (6, .own 4 1 0 n n none), (8, ci e)], [some ⟨true, rQuery x0⟩, some ⟨true, [cnil, cnil]⟩, some ⟨false, rt⟩, some ⟨false, rs⟩, some ⟨false, rows ciL (allT x0)⟩]⟩, (allT x0).length,
        ⟨0, 0, [], 0, rows ciL (toOf []), [], rfl, rfl, rfl, rfl, rfl, rfl, by kernel_rfl⟩, ?_⟩
      rintro m2 s ⟨j, _, S, ns, _, _, rfl, hm2, hS, hns, rfl, rfl, rfl⟩
      have hSj : S.length ≤ j := by rw [hS]; exact hSle j
      conv => whnf
      split <;> rename_i h3
      all_goals simp only [decide_eq_true_eq, decide_eq_false_iff_not] at h3
      · conv => whnf
        have hj : j < (allT x0).length := by omega
        have hnext : ((allT x0).take (j + 1)).foldl addS [] = addS S (allT x0)[j] := by
          rw [List.take_succ_eq_append_getElem hj, List.foldl_append, ← hS]; rfl
        refine ⟨by omega, ?_⟩
        conv => whnf
        refine ⟨_, takeN_own (k := j) (d := 0) (m := 1) (xs := allT x0) ciL_len (Nat.zero_add _) hj (by omega) rfl, ?_⟩
        conv => whnf
        refine ⟨_, specIsVar_spec (allT x0)[j], .inl rfl, .inl ?_⟩
        conv => whnf
        have hadd : addS S (allT x0)[j] = if isVar (allT x0)[j] && !(has S (allT x0)[j]) then S ++ [(allT x0)[j]] else S := rfl
        rw [hadd] at hnext
        generalize hv : isVar (allT x0)[j] = b1 at hnext
        cases b1 with
        | false =>
          conv => whnf
          exact ⟨m2 - 1, by omega, j + 1, IntKind.i64.wrap ((j : Int) + 1), S, ns, rows ciL (toOf S), rows ciL S, wrap_id (by omega) (by omega), by omega, by rw [hnext]; simp, hns, rfl, rfl, by kernel_rfl⟩
        | true =>
          conv => whnf
          refine ⟨by omega, ?_⟩
          conv => whnf
          refine ⟨_, takeN_own (k := j) (d := 0) (m := 1) (xs := allT x0) ciL_len (Nat.zero_add _) hj (by omega) rfl, ?_⟩
          conv => whnf
          refine .inl ?_
          conv => whnf
          refine ⟨_, _, takeN_all (by rw [rows_len ciL_len, hns]), roVs_ci _, ?_⟩
          conv => whnf
          have hsp := l2Has_spec S (allT x0)[j] (by omega)
          unfold ints at hsp
          rw [← hns] at hsp
          refine ⟨_, hsp, .inr trivial, .inl ?_⟩
          conv => whnf
          generalize hh : has S (allT x0)[j] = b2 at hnext
          cases b2 with
          | true =>
            conv => whnf
            exact ⟨m2 - 1, by omega, j + 1, IntKind.i64.wrap ((j : Int) + 1), S, ns, rows ciL (toOf S), rows ciL S, wrap_id (by omega) (by omega), by omega, by rw [hnext]; simp, hns, rfl, rfl, by kernel_rfl⟩
          | false =>
            simp only [Bool.not_false, Bool.and_self, if_true] at hnext
            have hr : 0 ≤ (allT x0)[j] ∧ (allT x0)[j] ≤ 19 := by simpa [isVar, inR] using hv
            obtain ⟨v, hvt, hv20⟩ : ∃ v : Nat, (allT x0)[j] = v ∧ v < 20 := ⟨(allT x0)[j].toNat, by omega, by omega⟩
            have hvl : v < (toOf S).length := by rw [toOf_len]; exact hv20
            rw [hvt] at hh hnext
            conv => whnf
            refine ⟨by omega, ?_⟩
            conv => whnf
            refine ⟨_, takeN_own (k := j) (d := 0) (m := 1) (xs := allT x0) ciL_len (Nat.zero_add _) hj (by omega) rfl, ?_⟩
            rw [hvt]
            conv => whnf
            refine ⟨by omega, ?_⟩
            conv => whnf
            refine ⟨_, takeN_own (k := v) (d := 0) (m := 1) (xs := toOf S) ciL_len (Nat.zero_add _) hvl (by omega) rfl, _, (congrArg (fun o => setC (rows ciL (toOf S)) o (ciL ns)) (Nat.zero_add _)).trans (setC_rows ciL_len (by omega) hvl _), ?_⟩
            conv => whnf
            refine ⟨by omega, ?_⟩
            conv => whnf
            refine ⟨_, takeN_own (k := j) (d := 0) (m := 1) (xs := allT x0) ciL_len (Nat.zero_add _) hj (by omega) rfl, ?_⟩
            rw [hvt]
            conv => whnf
            refine ⟨_, rfl, .inl ⟨flat1 rfl, ?_⟩⟩
            conv => whnf
            refine ⟨by omega, by rw [rows_len ciL_len, hns], _, snoc_ci _ _, ?_⟩
            conv => whnf
            refine ⟨m2 - 1, by omega, j + 1, IntKind.i64.wrap ((j : Int) + 1), S ++ [(v : Int)], ns + 1, rows ciL ((toOf S).set v ns), rows ciL (S ++ [(v : Int)]), wrap_id (by omega) (by omega), by omega, hnext.symm, by simp [hns], ?_, rfl, by kernel_rfl⟩
            rw [hns, toOf_set S hv20 hh]
      · conv => whnf
        have hje : j = (allT x0).length := by omega
        rw [hje, List.take_length] at hS
        have hS' : S = seenQ x0 := hS
        refine .inl ?_
        conv => whnf
        refine ⟨_, _, takeN_all (by rw [rows_len ciL_len, toOf_len]), roVs_ci _, ?_⟩
        conv => whnf
        have hsp := renameQuery_spec x0 (toOf S) h0 (by rw [toOf_len]; omega)
        unfold ints at hsp
        rw [toOf_len, hS', renQ_to, ← hS'] at hsp
        refine ⟨_, hsp, .inr (closed_wQuery _), .inr ?_⟩
        conv => whnf
        refine ⟨by rw [rows_len ciL_len], by rw [rows_len tAtom_len], rfl⟩
def pFirstNames (q : QueryC) : QueryC := nmQ q
theorem small_FirstNames (x0 : QueryC) (h0 : cQuery x0 ≤ 1048576) : cQuery (pFirstNames x0) ≤ 2147483648 := by
  unfold pFirstNames
  rw [nmQ_size]; omega
theorem specFirstNames_law (x0 : QueryC) (h0 : cQuery x0 ≤ 1048576) (q0 : qQuery x0) : Spec Try.prog 55 [vQuery x0] (wQuery (pFirstNames x0)) := specFirstNames_spec x0 h0
theorem implFirstNames_law (x0 : QueryC) (h0 : cQuery x0 ≤ 1048576) (q0 : qQuery x0) : Spec Try.prog 54 [vQuery x0] (wQuery (pFirstNames x0)) := implFirstNames_spec x0 h0
end Go.Proofs.YthfjngmbdbocbaaD
