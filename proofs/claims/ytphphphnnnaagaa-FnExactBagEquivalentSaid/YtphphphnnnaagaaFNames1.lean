/- Names in the order of their first use: the second program. -/
import Derived.Test.YtphphphnnnaagaaFNames0
import Derived.Test.YtphphphnnnaagaaFReplaceTerm
import Derived.Test.YtphphphnnnaagaaFCopyQ
set_option linter.unusedVariables false
set_option linter.unusedSimpArgs false
set_option maxRecDepth 100000
namespace Go.Proofs.YtphphphnnnaagaaD
open Go Go.Proofs

def boxN (k : Nat) : Option Obj := some ⟨true, [.mref k]⟩
def mapO' (m : List (Int × Int)) : Option Obj := some ⟨true, [.bp (encM m)]⟩
theorem nameC_spec (x : Int) (m : List (Int × Int)) (hm : m.length ≤ 1099511627776) : SpecG Try.prog 93 [ci x, .ptr 0 0] [some ⟨true, [.mref 1]⟩, some ⟨true, [.bp (encM m)]⟩] fun r g2 => r = ci (nm m x).1 ∧ g2 = [some ⟨true, [.mref 1]⟩, some ⟨true, [.bp (encM (nm m x).2)]⟩] := by
  refine SpecG_of mx Γ_ok 2 Try.func93 rfl rfl (by decide) ?_
  conv => whnf
  refine ⟨_, implIsVar_spec x, .inl rfl, .inl ?_⟩
  conv => whnf
  unfold nm
  generalize isVar x = b1
  cases b1 with
  | false =>
    conv => whnf
    refine ⟨[], ?_⟩
    conv => whnf
    exact ⟨rfl, rfl⟩
  | true =>
    conv => whnf
    refine ⟨m, rfl, ?_⟩
    conv => whnf
    generalize getM m x = o
    cases o with
    | some n =>
      conv => whnf
      refine ⟨[], ?_⟩
      conv => whnf
      exact ⟨rfl, rfl⟩
    | none =>
      conv => whnf
      refine ⟨m, rfl, ?_⟩
      conv => whnf
      refine ⟨m, rfl, _, rfl, ?_⟩
      conv => whnf
      refine ⟨[], ?_⟩
      conv => whnf
      exact ⟨rfl, rfl⟩
def fnN : V := .fn 93 [.ptr 0 0]
/-- Named up to k, and the map then. -/
def chgN (xs : List Int) (m : List (Int × Int)) (k : Nat) : List Int := (nmL (xs.take k) m).1 ++ xs.drop k
def mapN (xs : List Int) (m : List (Int × Int)) (k : Nat) : List (Int × Int) := (nmL (xs.take k) m).2
theorem chgN_len (xs : List Int) (m : List (Int × Int)) (k : Nat) : (chgN xs m k).length = xs.length := by
  simp only [chgN, List.length_append, nmL_len, List.length_take, List.length_drop]; omega
theorem chgN_zero (xs : List Int) (m : List (Int × Int)) : chgN xs m 0 = xs := by simp [chgN, nmL]
theorem chgN_all {xs : List Int} (m : List (Int × Int)) {k : Nat} (h : xs.length ≤ k) : chgN xs m k = (nmL xs m).1 := by
  rw [chgN, List.take_of_length_le h, List.drop_eq_nil_of_le h, List.append_nil]
theorem chgN_at {xs : List Int} (m : List (Int × Int)) {k : Nat} (hk : k < xs.length) (h : k < (chgN xs m k).length) : (chgN xs m k)[k] = xs[k] := by
  have hl : (nmL (xs.take k) m).1.length = k := by rw [nmL_len, List.length_take]; omega
  have : (chgN xs m k)[k]? = some xs[k] := by
    rw [chgN, List.getElem?_append_right (by omega), hl, Nat.sub_self, List.getElem?_drop, Nat.add_zero, List.getElem?_eq_getElem hk]
  rw [List.getElem?_eq_getElem h] at this
  exact Option.some.inj this
theorem nmL_succ {xs : List Int} (m : List (Int × Int)) {k : Nat} (hk : k < xs.length) : nmL (xs.take (k + 1)) m = ((nmL (xs.take k) m).1 ++ [(nm (mapN xs m k) xs[k]).1], (nm (mapN xs m k) xs[k]).2) := by
  rw [List.take_succ_eq_append_getElem hk, nmL_app]
  rfl
theorem chgN_set {xs : List Int} (m : List (Int × Int)) {k : Nat} (hk : k < xs.length) : (chgN xs m k).set k (nm (mapN xs m k) xs[k]).1 = chgN xs m (k + 1) := by
  have hl : (nmL (xs.take k) m).1.length = k := by rw [nmL_len, List.length_take]; omega
  unfold chgN
  rw [List.set_append_right _ _ (by omega), hl, Nat.sub_self, List.drop_eq_getElem_cons hk, List.set_cons_zero, nmL_succ m hk, List.append_assoc]
  rfl
theorem mapN_succ {xs : List Int} (m : List (Int × Int)) {k : Nat} (hk : k < xs.length) : (nm (mapN xs m k) xs[k]).2 = mapN xs m (k + 1) := by
  unfold mapN
  rw [nmL_succ m hk]
  rfl
theorem mapN_zero (xs : List Int) (m : List (Int × Int)) : mapN xs m 0 = m := by simp [mapN, nmL]
theorem mapN_all {xs : List Int} (m : List (Int × Int)) {k : Nat} (h : xs.length ≤ k) : mapN xs m k = (nmL xs m).2 := by rw [mapN, List.take_of_length_le h]
/-- The same for atoms: k of them are named, of the next one j terms. -/
def chgA (xs : List AtomC) (m : List (Int × Int)) (k : Nat) : List AtomC := (nmA (xs.take k) m).1 ++ xs.drop k
def mapA (xs : List AtomC) (m : List (Int × Int)) (k : Nat) : List (Int × Int) := (nmA (xs.take k) m).2
theorem chgA_len (xs : List AtomC) (m : List (Int × Int)) (k : Nat) : (chgA xs m k).length = xs.length := by
  simp only [chgA, List.length_append, nmA_len, List.length_take, List.length_drop]; omega
theorem chgA_zero (xs : List AtomC) (m : List (Int × Int)) : chgA xs m 0 = xs := by simp [chgA, nmA]
theorem mapA_zero (xs : List AtomC) (m : List (Int × Int)) : mapA xs m 0 = m := by simp [mapA, nmA]
theorem chgA_all {xs : List AtomC} (m : List (Int × Int)) {k : Nat} (h : xs.length ≤ k) : chgA xs m k = (nmA xs m).1 := by
  rw [chgA, List.take_of_length_le h, List.drop_eq_nil_of_le h, List.append_nil]
theorem chgA_at {xs : List AtomC} (m : List (Int × Int)) {k : Nat} (hk : k < xs.length) (h : k < (chgA xs m k).length) : (chgA xs m k)[k] = xs[k] := by
  have hl : (nmA (xs.take k) m).1.length = k := by rw [nmA_len, List.length_take]; omega
  have : (chgA xs m k)[k]? = some xs[k] := by
    rw [chgA, List.getElem?_append_right (by omega), hl, Nat.sub_self, List.getElem?_drop, Nat.add_zero, List.getElem?_eq_getElem hk]
  rw [List.getElem?_eq_getElem h] at this
  exact Option.some.inj this
theorem nmA_succ {xs : List AtomC} (m : List (Int × Int)) {k : Nat} (hk : k < xs.length) : nmA (xs.take (k + 1)) m = ((nmA (xs.take k) m).1 ++ [(xs[k].1, (nmL xs[k].2 (mapA xs m k)).1)], (nmL xs[k].2 (mapA xs m k)).2) := by
  rw [List.take_succ_eq_append_getElem hk, nmA_app]
  rfl
def bodyN (xs : List AtomC) (m : List (Int × Int)) (k : Nat) (x : AtomC) (j : Nat) : List AtomC := (chgA xs m k).set k (x.1, chgN x.2 (mapA xs m k) j)
theorem bodyN_len (xs : List AtomC) (m : List (Int × Int)) (k : Nat) (x : AtomC) (j : Nat) : (bodyN xs m k x j).length = xs.length := by rw [bodyN, List.length_set, chgA_len]
theorem bodyN_zero {xs : List AtomC} (m : List (Int × Int)) {k : Nat} (hk : k < xs.length) : bodyN xs m k xs[k] 0 = chgA xs m k := by
  rw [bodyN, chgN_zero]
  have hk' : k < (chgA xs m k).length := by rw [chgA_len]; exact hk
  have := chgA_at m hk hk'
  rw [show (xs[k].1, xs[k].2) = xs[k] from rfl, ← this, List.set_getElem_self]
theorem bodyN_all {xs : List AtomC} (m : List (Int × Int)) {k j : Nat} (hk : k < xs.length) (hj : xs[k].2.length ≤ j) : bodyN xs m k xs[k] j = chgA xs m (k + 1) := by
  have hl : (nmA (xs.take k) m).1.length = k := by rw [nmA_len, List.length_take]; omega
  rw [bodyN, chgN_all _ hj]
  unfold chgA
  rw [List.set_append_right _ _ (by omega), hl, Nat.sub_self, List.drop_eq_getElem_cons hk, List.set_cons_zero, nmA_succ m hk, List.append_assoc]
  rfl
theorem mapA_all {xs : List AtomC} (m : List (Int × Int)) {k j : Nat} (hk : k < xs.length) (hj : xs[k].2.length ≤ j) : mapN xs[k].2 (mapA xs m k) j = mapA xs m (k + 1) := by
  rw [mapN_all _ hj]
  conv => rhs; unfold mapA
  rw [nmA_succ m hk]
theorem mapA_end {xs : List AtomC} (m : List (Int × Int)) {k : Nat} (h : xs.length ≤ k) : mapA xs m k = (nmA xs m).2 := by rw [mapA, List.take_of_length_le h]
theorem bodyN_at {xs : List AtomC} (m : List (Int × Int)) {k j : Nat} (x : AtomC) (hk : k < xs.length) (h : k < (bodyN xs m k x j).length) : (bodyN xs m k x j)[k] = (x.1, chgN x.2 (mapA xs m k) j) := by
  simp only [bodyN, List.getElem_set_self]
theorem bodyN_set (xs : List AtomC) (m : List (Int × Int)) (k : Nat) (x : AtomC) (j i : Nat) : (bodyN xs m k x j).set k (x.1, chgN x.2 (mapA xs m k) i) = bodyN xs m k x i := by
  rw [bodyN, List.set_set]
  rfl
theorem nm_map_len (m : List (Int × Int)) (x : Int) : (nm m x).2.length ≤ m.length + 1 := by
  have key : ∀ (m : List (Int × Int)) (x y : Int), (setM m x y).length ≤ m.length + 1 := by
    intro m x y
    induction m with
    | nil => simp [setM]
    | cons p r ih =>
      obtain ⟨a, b⟩ := p
      simp only [setM]
      cases (a == x) with
      | true => simp
      | false => simp only [cond_false, List.length_cons]; omega
  unfold nm
  split
  · split
    · exact Nat.le_succ _
    · exact key _ _ _
  · exact Nat.le_succ _
theorem nmL_map_len : ∀ (xs : List Int) (m : List (Int × Int)), (nmL xs m).2.length ≤ m.length + xs.length
  | [], m => Nat.le_refl _
  | x :: xs, m => by
    have h1 := nmL_map_len xs (nm m x).2
    have h2 := nm_map_len m x
    simp only [nmL, List.length_cons]
    omega
theorem nmA_map_len : ∀ (xs : List AtomC) (m : List (Int × Int)), (nmA xs m).2.length ≤ m.length + sumB cAtom xs
  | [], m => Nat.le_refl _
  | a :: xs, m => by
    have h1 := nmA_map_len xs (nmL a.2 m).2
    have h2 := nmL_map_len a.2 m
    have h3 : cAtom a = a.2.length := rfl
    simp only [nmA, sumB]
    omega
theorem sumB_takeL {α : Type} (f : α → Nat) : ∀ (xs : List α) (k : Nat), sumB f (xs.take k) ≤ sumB f xs
  | [], k => by simp [sumB]
  | x :: xs, 0 => by simp [sumB]
  | x :: xs, k + 1 => by
    have := sumB_takeL f xs k
    simp only [List.take_succ_cons, sumB]
    omega
set_option maxHeartbeats 8000000 in
theorem changedN_spec (x0 : QueryC) (h0 : cQuery x0 ≤ 1048576) : SpecG Try.prog 94 [vQuery x0, fnN] [some ⟨true, [.mref 1]⟩, some ⟨true, [.bp (encM [])]⟩] fun r g2 => r = wQuery (nmQ x0) ∧ ∃ m, g2 = [some ⟨true, [.mref 1]⟩, some ⟨true, [.bp (encM m)]⟩] := by
  have h0' := h0
  unfold cQuery cAtomS at h0'
  refine SpecG_of mx Γ_ok 2 Try.func94 rfl rfl (by decide) ?_
  conv => whnf
  refine ⟨_, copyQuery_spec x0 (by omega), .inl rfl, .inr ?_⟩
  conv => whnf
  refine ⟨[(1,0),(4,0),(5,0),(15,0),(16,0),(17,0)], fun m s => ∃ (k : Nat) (e : Int) (r : List V) (mm : List (Int × Int)), e = k ∧ m + k = x0.1.length ∧ r = rows ciL (chgN x0.1 [] k) ∧ mm = mapN x0.1 [] k ∧
    s = ⟨55, [(1, fnN), (4, .ptr 2 0), (5, .ptr 3 0), (15, .own 4 1 0 x0.1.length x0.1.length none), (16, ci x0.1.length), (17, ci e)], [some ⟨true, [.mref 1]⟩, some ⟨true, [.bp (encM mm)]⟩, some ⟨true, [cnil, cnil]⟩, some ⟨true, [.own 4 1 0 x0.1.length x0.1.length none, .own 5 2 0 x0.2.length x0.2.length none]⟩, some ⟨false, r⟩, some ⟨false, rows tAtom x0.2⟩]⟩, x0.1.length,
    ⟨0, 0, rows ciL x0.1, [], rfl, rfl, by rw [chgN_zero], by rw [mapN_zero], by kernel_rfl⟩, ?_⟩
  rintro m s ⟨k, _, _, mm, rfl, hm, rfl, rfl, rfl⟩
  conv => whnf
  split <;> rename_i h1
  all_goals simp only [decide_eq_true_eq, decide_eq_false_iff_not] at h1
  · conv => whnf
    have hk : k < x0.1.length := by omega
    have hk' : k < (chgN x0.1 [] k).length := by rw [chgN_len]; exact hk
    have hml : (mapN x0.1 [] k).length ≤ 1099511627776 := by
      have := nmL_map_len (x0.1.take k) []
      rw [List.length_take] at this
      unfold mapN
      simp only [List.length_nil] at this
      omega
    refine ⟨by omega, ?_⟩
    conv => whnf
    refine ⟨_, takeN_own (k := k) (d := 0) (m := 1) (xs := chgN x0.1 [] k) ciL_len (Nat.zero_add _) hk' (by omega) rfl, ?_⟩
    rw [chgN_at _ hk hk']
    conv => whnf
    refine ⟨[1001, 2000, 2001, 0, 1, 2, 3, 4, 5, 6, 7, 1000, 1000], by kernel_rfl, ?_⟩
    conv => whnf
    refine .inr (.inr ⟨[0, 1], noSubT_lk (by kernel_rfl), rfl, ?_⟩)
    conv => whnf
    refine ⟨_, nameC_spec x0.1[k] (mapN x0.1 [] k) hml, fun r g2 hP => ?_⟩
    obtain ⟨rfl, rfl⟩ := hP
    refine .inl ?_
    conv => whnf
    refine ⟨by omega, ?_⟩
    conv => whnf
    refine ⟨_, takeN_own (k := k) (d := 0) (m := 1) (xs := chgN x0.1 [] k) ciL_len (Nat.zero_add _) hk' (by omega) rfl, _, (congrArg (fun o => setC (rows ciL (chgN x0.1 [] k)) o (ciL (nm (mapN x0.1 [] k) x0.1[k]).1)) (Nat.zero_add _)).trans (setC_rows ciL_len (by omega) hk' _), ?_⟩
    conv => whnf
    refine ⟨m - 1, by omega, k + 1, IntKind.i64.wrap ((k : Int) + 1), rows ciL ((chgN x0.1 [] k).set k (nm (mapN x0.1 [] k) x0.1[k]).1), (nm (mapN x0.1 [] k) x0.1[k]).2, wrap_id (by omega) (by omega), by omega, ?_, mapN_succ [] hk, by kernel_rfl⟩
    rw [chgN_set _ hk]
  · conv => whnf
    rw [chgN_all _ (by omega), mapN_all _ (by omega)]
    have hm0 := nmL_map_len x0.1 []
    have hQ : nmQ x0 = ((nmL x0.1 []).1, (nmA x0.2 (nmL x0.1 []).2).1) := rfl
    have hH : (nmL x0.1 []).1.length = x0.1.length := nmL_len _ _
    generalize (nmL x0.1 []).2 = M at hm0 hQ ⊢
    generalize (nmL x0.1 []).1 = H at hQ hH ⊢
    simp only [List.length_nil, Nat.zero_add] at hm0
    refine ⟨[(1,0),(4,0),(5,0),(31,0),(32,0),(33,0)], fun m s => ∃ (k : Nat) (e : Int) (r : List V) (mm : List (Int × Int)), e = k ∧ m + k = x0.2.length ∧ r = rows tAtom (chgA x0.2 M k) ∧ mm = mapA x0.2 M k ∧
      s = ⟨55, [(1, fnN), (4, .ptr 2 0), (5, .ptr 3 0), (31, .own 4 2 0 x0.2.length x0.2.length none), (32, ci x0.2.length), (33, ci e)], [some ⟨true, [.mref 1]⟩, some ⟨true, [.bp (encM mm)]⟩, some ⟨true, [cnil, cnil]⟩, some ⟨true, [.own 5 1 0 x0.1.length x0.1.length none, .own 4 2 0 x0.2.length x0.2.length none]⟩, some ⟨false, r⟩, some ⟨false, rows ciL H⟩]⟩, x0.2.length,
      ⟨0, 0, rows tAtom x0.2, M, rfl, rfl, by rw [chgA_zero], by rw [mapA_zero], by kernel_rfl⟩, ?_⟩
    rintro m1 s ⟨k, _, _, mm, rfl, hm1, rfl, rfl, rfl⟩
    conv => whnf
    split <;> rename_i h2
    all_goals simp only [decide_eq_true_eq, decide_eq_false_iff_not] at h2
    · conv => whnf
      have hk : k < x0.2.length := by omega
      have hk' : k < (chgA x0.2 M k).length := by rw [chgA_len]; exact hk
      have hb := sumB_one (f := cAtom) hk
      have hcb : cAtom x0.2[k] = x0.2[k].2.length := rfl
      have hMk : (mapA x0.2 M k).length ≤ 2097152 := by
        have h4 := nmA_map_len (x0.2.take k) M
        have h5 := sumB_takeL cAtom x0.2 k
        unfold mapA
        omega
      refine ⟨by omega, ?_⟩
      conv => whnf
      refine ⟨_, takeN_own (k := k) (d := 0) (m := 2) (xs := chgA x0.2 M k) tAtom_len (Nat.zero_add _) hk' (by omega) rfl, ?_⟩
      rw [chgA_at _ hk hk']
      conv => whnf
      have hc0 : (rows tAtom (chgA x0.2 M k))[0 + k * 2 + 1]? = some (intsT x0.2[k].2) := rows_cell tAtom_len (k := k) (d := 1) (by omega) hk' (by rw [chgA_at _ hk hk']; rfl)
      have hlen : ∀ (st : St) (v : V), st.ob 4 = some ⟨false, rows tAtom (chgA x0.2 M k)⟩ → v = .sub 4 (0 + k * 2 + 1) → lenV st v = some x0.2[k].2.length := by
        rintro st v h rfl
        simp only [lenV, h, hc0, intsT]
      rw [hlen]
      rotate_left
      · rfl
      · rfl
      conv => whnf
      refine ⟨[(1,0),(4,0),(5,0),(9,0),(31,0),(32,0),(33,0),(38,0),(39,0),(40,0)], fun m s => ∃ (j : Nat) (e : Int) (o : Nat) (r : List V) (mm : List (Int × Int)), e = j ∧ m + j = x0.2[k].2.length ∧ o = k * 2 + 1 ∧ r = rows tAtom (bodyN x0.2 M k x0.2[k] j) ∧ mm = mapN x0.2[k].2 (mapA x0.2 M k) j ∧
        s = ⟨55, [(1, fnN), (4, .ptr 2 0), (5, .ptr 3 0), (9, .ptr 4 0), (31, .own 5 2 0 x0.2.length x0.2.length none), (32, ci x0.2.length), (33, ci k), (38, .sub 5 o), (39, ci x0.2[k].2.length), (40, ci e)], [some ⟨true, [.mref 1]⟩, some ⟨true, [.bp (encM mm)]⟩, some ⟨true, [cnil, cnil]⟩, some ⟨true, [.own 6 1 0 x0.1.length x0.1.length none, .own 5 2 0 x0.2.length x0.2.length none]⟩, some ⟨true, [ci x0.2[k].1, .sub 5 o]⟩, some ⟨false, r⟩, some ⟨false, rows ciL H⟩]⟩, x0.2[k].2.length,
        ⟨0, 0, 0 + k * 2 + 1, rows tAtom (chgA x0.2 M k), mapA x0.2 M k, rfl, rfl, by omega, by rw [bodyN_zero _ hk], by rw [mapN_zero], by kernel_rfl⟩, ?_⟩
      rintro m2 s ⟨j, _, o, _, mm, rfl, hm2, ho, rfl, rfl, rfl⟩
      have hkb : k < (bodyN x0.2 M k x0.2[k] j).length := by rw [bodyN_len]; exact hk
      have hcell : (rows tAtom (bodyN x0.2 M k x0.2[k] j))[o]? = some (V.tr 1 (chgN x0.2[k].2 (mapA x0.2 M k) j).length (rows ciL (chgN x0.2[k].2 (mapA x0.2 M k) j))) := rows_cell tAtom_len (k := k) (d := 1) (by omega) hkb (by rw [bodyN_at _ _ hk hkb]; rfl)
      conv => whnf
      split <;> rename_i h3
      all_goals simp only [decide_eq_true_eq, decide_eq_false_iff_not] at h3
      · conv => whnf
        have hj : j < x0.2[k].2.length := by omega
        have hj' : j < (chgN x0.2[k].2 (mapA x0.2 M k) j).length := by rw [chgN_len]; exact hj
        have hml : (mapN x0.2[k].2 (mapA x0.2 M k) j).length ≤ 1099511627776 := by
          have h6 := nmL_map_len (x0.2[k].2.take j) (mapA x0.2 M k)
          rw [List.length_take] at h6
          unfold mapN
          omega
        refine ⟨_, _, hcell, ⟨by omega, by omega⟩, ?_⟩
        conv => whnf
        refine ⟨_, _, _, _, hcell, takeN_own (k := j) (d := 0) (m := 1) (xs := chgN x0.2[k].2 (mapA x0.2 M k) j) ciL_len rfl hj' (by omega) rfl, flat1 rfl, ?_⟩
        rw [chgN_at _ hj hj']
        conv => whnf
        refine ⟨[1001, 2000, 2001, 0, 1, 2, 3, 4, 5, 6, 7, 1000, 1000], by kernel_rfl, ?_⟩
        conv => whnf
        refine .inr (.inr ⟨[0, 1], noSubT_lk (by kernel_rfl), rfl, ?_⟩)
        conv => whnf
        refine ⟨_, nameC_spec x0.2[k].2[j] (mapN x0.2[k].2 (mapA x0.2 M k) j) hml, fun r g2 hP => ?_⟩
        obtain ⟨rfl, rfl⟩ := hP
        refine .inl ?_
        conv => whnf
        refine ⟨_, _, hcell, ⟨by omega, by omega⟩, ?_⟩
        conv => whnf
        have hset : (rows tAtom (bodyN x0.2 M k x0.2[k] j)).set o (V.tr 1 (chgN x0.2[k].2 (mapA x0.2 M k) j).length (setC (rows ciL (chgN x0.2[k].2 (mapA x0.2 M k) j)) (j * 1) [ci (nm (mapN x0.2[k].2 (mapA x0.2 M k) j) x0.2[k].2[j]).1])) = rows tAtom (bodyN x0.2 M k x0.2[k] (j + 1)) := by
          have h5 : setC (rows ciL (chgN x0.2[k].2 (mapA x0.2 M k) j)) (j * 1) [ci (nm (mapN x0.2[k].2 (mapA x0.2 M k) j) x0.2[k].2[j]).1] = rows ciL (chgN x0.2[k].2 (mapA x0.2 M k) (j + 1)) := by
            rw [← chgN_set _ hj]
            exact setC_rows ciL_len (by omega) hj' _
          rw [h5, rows_setCell (y := (x0.2[k].1, chgN x0.2[k].2 (mapA x0.2 M k) (j + 1))) tAtom_len (k := k) (d := 1) (by omega) hkb ?_ (by omega), bodyN_set]
          rw [bodyN_at _ _ hk hkb]
          simp only [tAtom, intsT, chgN_len]
          rfl
        refine ⟨_, _, _, _, hcell, takeN_own (k := j) (d := 0) (m := 1) (xs := chgN x0.2[k].2 (mapA x0.2 M k) j) ciL_len rfl hj' (by omega) rfl, _, hset, ?_⟩
        conv => whnf
        exact ⟨m2 - 1, by omega, j + 1, IntKind.i64.wrap ((j : Int) + 1), o, rows tAtom (bodyN x0.2 M k x0.2[k] (j + 1)), (nm (mapN x0.2[k].2 (mapA x0.2 M k) j) x0.2[k].2[j]).2, wrap_id (by omega) (by omega), by omega, ho, rfl, mapN_succ _ hj, by kernel_rfl⟩
      · conv => whnf
        refine ⟨m1 - 1, by omega, k + 1, IntKind.i64.wrap ((k : Int) + 1), rows tAtom (bodyN x0.2 M k x0.2[k] j), mapN x0.2[k].2 (mapA x0.2 M k) j, wrap_id (by omega) (by omega), by omega, ?_, ?_, by kernel_rfl⟩
        · rw [bodyN_all _ hk (by omega)]
        · exact mapA_all _ hk (by omega)
    · conv => whnf
      rw [chgA_all _ (by omega)]
      refine ⟨[], ?_⟩
      conv => whnf
      refine ⟨by rw [rows_len ciL_len, hH], by rw [rows_len tAtom_len, nmA_len], ?_⟩
      conv => whnf
      refine ⟨?_, _, rfl⟩
      rw [hQ]
      have e : wQuery (H, (nmA x0.2 M).1) = .agg [.tr 1 x0.1.length (rows ciL H), .tr 2 x0.2.length (rows tAtom (nmA x0.2 M).1)] := by
        simp only [wQuery, tQuery, wAtomS, intsT, nmA_len, hH]
      rw [e]
theorem implFirstNames_spec (x0 : QueryC) (h0 : cQuery x0 ≤ 1048576) : Spec Try.prog 27 [vQuery x0] (wQuery (nmQ x0)) := by
  refine Spec_of mx Γ_ok Try.func27 rfl ?_
  conv => whnf
  refine .inr (.inr ⟨[3, 2], [], ?_⟩)
  conv => whnf
  refine ⟨_, changedN_spec x0 h0, fun r g2 hP => ?_⟩
  obtain ⟨rfl, m, rfl⟩ := hP
  refine .inr ?_
  conv => whnf
  refine ⟨by rw [rows_len ciL_len], by rw [rows_len tAtom_len], rfl⟩
end Go.Proofs.YtphphphnnnaagaaD
