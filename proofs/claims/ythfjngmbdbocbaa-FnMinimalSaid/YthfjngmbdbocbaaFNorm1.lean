/- Normal forms: the second program. -/
import Derived.Test.YthfjngmbdbocbaaFNorm0
import Derived.Test.YthfjngmbdbocbaaFNames2
set_option linter.unusedVariables false
set_option linter.unusedSimpArgs false
set_option maxRecDepth 100000
namespace Go.Proofs.YthfjngmbdbocbaaD
open Go Go.Proofs

theorem roVs_rAtomS (xs : List AtomC) : roVs (rows rAtom xs) = rows rAtom xs := roVs_rows (fun x => by
  show [roV (ci x.1), roV (.ro x.2.length (rows ciL x.2))] = rAtom x
  simp only [roV, roVs_ci]
  rfl) xs
theorem flat_rAtom1 (a : AtomC) : ∀ c ∈ rAtom a, flat c = true := by
  intro c hc
  simp only [rAtom, List.mem_cons, List.not_mem_nil, or_false] at hc
  rcases hc with rfl | rfl <;> rfl
theorem solid_rAtomR (xs : List AtomC) : ∀ c ∈ rows rAtom xs, solid c = true := by
  induction xs with
  | nil => intro c hc; cases hc
  | cons a r ih =>
    intro c hc
    rcases List.mem_append.1 (show c ∈ rAtom a ++ rows rAtom r from hc) with h | h
    · have := flat_rAtom1 a c h
      cases c <;> simp_all [flat, solid]
    · exact ih c h
theorem takeN_part (xs : List AtomC) {l h o n : Nat} (hl : l ≤ h) (hh : h ≤ xs.length) (ho : o = l * 2) (hn : n = (h - l) * 2) : takeN (rows rAtom xs) o n = some (rows rAtom ((xs.take h).drop l)) := by
  subst ho; subst hn
  have hlen := rows_len rAtom_len xs
  have key : ∀ (xs : List AtomC) (k : Nat), (rows rAtom xs).take (k * 2) = rows rAtom (xs.take k) := by
    intro xs
    induction xs with
    | nil => intro k; simp [rows]
    | cons a r ih =>
      intro k
      cases k with
      | zero => simp [rows]
      | succ k =>
        show (rAtom a ++ rows rAtom r).take ((k + 1) * 2) = rAtom a ++ rows rAtom (r.take k)
        rw [← ih k, List.take_append, List.take_of_length_le (by rw [rAtom_len]; omega), rAtom_len, show (k + 1) * 2 - 2 = k * 2 from by omega]
  refine takeN_eq (by rw [hlen]; omega) ?_
  rw [rows_drop rAtom_len, key]
  congr 1
  rw [List.drop_take]
theorem app_rAtom (xs ys : List AtomC) : rows rAtom xs ++ rows rAtom ys = rows rAtom (xs ++ ys) := (rows_append rAtom ys xs).symm
theorem snoc_rAtom1 (xs : List AtomC) (x : AtomC) : rows rAtom xs ++ rAtom x = rows rAtom (xs ++ [x]) := by
  rw [rows_append]
  simp [rows]
theorem erase_parts (xs : List AtomC) (k : Nat) : xs.take k ++ xs.drop (k + 1) = xs.eraseIdx k := (List.eraseIdx_eq_take_drop_succ xs k).symm
def sizeQ (h : List Int) (body left : List AtomC) : Nat := h.length + (body.length + sumB cAtom body) + (left.length + sumB cAtom left)
theorem sumB_app {α : Type} (f : α → Nat) (xs ys : List α) : sumB f (xs ++ ys) = sumB f xs + sumB f ys := by
  induction xs with
  | nil => simp [sumB]
  | cons x xs ih => simp only [List.cons_append, sumB, ih]; omega
theorem sumB_erase (f : AtomC → Nat) : ∀ (xs : List AtomC) (k : Nat) (h : k < xs.length), f xs[k] + sumB f (xs.eraseIdx k) = sumB f xs
  | x :: xs, 0, h => rfl
  | x :: xs, k + 1, h => by
    have := sumB_erase f xs k (by simpa using h)
    simp only [List.getElem_cons_succ, List.eraseIdx_cons_succ, sumB]
    omega
theorem sizeQ_step (h : List Int) (body left : List AtomC) {k : Nat} (hk : k < left.length) : sizeQ h (body ++ [left[k]]) (left.eraseIdx k) = sizeQ h body left := by
  have h1 := sumB_erase cAtom left k hk
  unfold sizeQ
  rw [sumB_app, List.length_append, List.length_eraseIdx_of_lt hk]
  simp only [sumB, List.length_cons, List.length_nil]
  omega
def fnT : V := .fn 117 [.ptr 0 0, .ptr 1 0, .ptr 2 0]
def gA (q y : QueryC) : List (Option Obj) := [some ⟨true, rQuery q⟩, some ⟨true, [.own 3 1 0 y.1.length y.1.length none, .own 4 2 0 y.2.length y.2.length none]⟩, some ⟨true, [fnT]⟩, some ⟨false, rows ciL y.1⟩, some ⟨false, rows tAtom y.2⟩]
def gB (q y0 y : QueryC) : List (Option Obj) := [some ⟨true, rQuery q⟩, some ⟨true, [.own 5 1 0 y.1.length y.1.length none, .own 6 2 0 y.2.length y.2.length none]⟩, some ⟨true, [fnT]⟩, some ⟨false, rows ciL y0.1⟩, some ⟨false, rows tAtom y0.2⟩, some ⟨false, rows ciL y.1⟩, some ⟨false, rows tAtom y.2⟩]
def NfOut (q y0 : QueryC) (o : Option QueryC) (g2 : List (Option Obj)) : Prop := ∃ y, o = some y ∧ cQuery y ≤ 1048576 ∧ (y = y0 ∧ g2 = gA q y0 ∨ g2 = gB q y0 y)
theorem code_size {y : QueryC} (h : cQuery y ≤ 1048576) : (pQueryCode y).length ≤ 1099511627776 := by
  have := small_QueryCode y h
  omega
set_option maxHeartbeats 16000000 in
theorem nfC_spec (q : QueryC) : ∀ (n : Nat) (body left : List AtomC) (y0 : QueryC), left.length = n → sizeQ q.1 body left ≤ 1048576 → cQuery y0 ≤ 1048576 →
    SpecG Try.prog 117 [vAtomS body, vAtomS left, .ptr 0 0, .ptr 1 0, .ptr 2 0] (gA q y0) fun r g2 => r = .tup [] ∧ NfOut q y0 (tryQ q.1 n body left (some y0)) g2 := by
  intro n
  induction n with
  | zero =>
    intro body left y0 hl hs hy
    have hle : left = [] := List.length_eq_zero_iff.1 hl
    subst hle
    have hx : cQuery (q.1, body) ≤ 1048576 := by
      unfold sizeQ at hs
      show q.1.length + (body.length + sumB cAtom body) ≤ _
      omega
    unfold gA
    refine SpecG_of mx Γ_ok 5 Try.func117 rfl rfl (by decide) ?_
    conv => whnf
    refine ⟨_, implFirstNames_spec (q.1, body) hx, .inl rfl, .inr ?_⟩
    have hxs : cQuery (nmQ (q.1, body)) ≤ 1048576 := by rw [nmQ_size]; exact hx
    have ht : tryQ q.1 0 body [] (some y0) = betterQ (some y0) (nmQ (q.1, body)) := rfl
    rw [ht]
    generalize nmQ (q.1, body) = x at hxs ⊢
    conv => whnf
    refine ⟨[0, 2, 1, 3, 4, 5], by kernel_rfl, ?_⟩
    conv => whnf
    refine ⟨_, _, takeN_all (by rw [rows_len ciL_len]), roVs_ci _, ?_⟩
    conv => whnf
    refine ⟨_, _, takeN_all (by rw [rows_len tAtom_len]), roVs_rows tAtom_ro _, ?_⟩
    conv => whnf
    refine ⟨_, implQueryCode_gen x hxs, .inr (closeds_rows (f := ciL) (fun x => ⟨trivial, trivial⟩) _), .inl ?_⟩
    rw [intsT_ro]
    conv => whnf
    refine ⟨_, _, takeN_all (by rw [rows_len ciL_len]), roVs_ci _, ?_⟩
    conv => whnf
    refine ⟨_, _, takeN_all (by rw [rows_len tAtom_len]), roVs_rows tAtom_ro _, ?_⟩
    conv => whnf
    refine ⟨_, implQueryCode_gen y0 hy, .inr (closeds_rows (f := ciL) (fun x => ⟨trivial, trivial⟩) _), .inl ?_⟩
    rw [intsT_ro]
    conv => whnf
    refine ⟨_, slicesCompare_spec (pQueryCode x) (pQueryCode y0) (code_size hxs) (code_size hy), .inl rfl, .inl ?_⟩
    conv => whnf
    rw [← ltI_cmp]
    unfold betterQ
    simp only
    generalize ltI (pQueryCode x) (pQueryCode y0) = b
    cases b with
    | false =>
      conv => whnf
      refine ⟨[], ?_⟩
      conv => whnf
      exact ⟨rfl, y0, by simp, hy, .inl ⟨rfl, rfl⟩⟩
    | true =>
      conv => whnf
      refine ⟨[], ?_⟩
      conv => whnf
      exact ⟨rfl, x, by simp, hxs, .inr rfl⟩
  | succ n ih =>
    intro body left y0 hl hs hy
    have hne : ((left.length : Int) == 0) = false := by rw [hl]; simp; omega
    unfold gA
    refine SpecG_of mx Γ_ok 5 Try.func117 rfl rfl (by decide) ?_
    conv => whnf
    rw [hne]
    conv => whnf
    refine ⟨[(0,0),(1,0),(2,0),(3,0),(4,0),(26,0),(27,0),(28,0)], fun m s => ∃ (k : Nat) (e : Int) (y : QueryC), e = k ∧ m + k = left.length ∧ cQuery y ≤ 1048576 ∧
      (List.range k).foldl (fun o i => tryQ q.1 n (body ++ [left.getD i (0, [])]) (left.eraseIdx i) o) (some y0) = some y ∧
      (y = y0 ∧ s = ⟨53, [(0, vAtomS body), (1, vAtomS left), (2, .ptr 0 0), (3, .ptr 1 0), (4, .ptr 2 0), (26, vAtomS left), (27, ci left.length), (28, ci e)], gA q y0⟩ ∨
       s = ⟨53, [(0, vAtomS body), (1, vAtomS left), (2, .ptr 0 0), (3, .ptr 1 0), (4, .ptr 2 0), (26, vAtomS left), (27, ci left.length), (28, ci e)], gB q y0 y⟩), left.length, ⟨0, 0, y0, rfl, rfl, hy, rfl, .inl ⟨rfl, by kernel_rfl⟩⟩, ?_⟩
    rintro m s ⟨k, _, y, rfl, hm, hyl, hfold, hs2⟩
    have hstep : ∀ hk : k < left.length, ∀ z, tryQ q.1 n (body ++ [left[k]]) (left.eraseIdx k) (some y) = some z → (List.range (k + 1)).foldl (fun o i => tryQ q.1 n (body ++ [left.getD i (0, [])]) (left.eraseIdx i) o) (some y0) = some z := fun hk z hz => by
      rw [List.range_succ, List.foldl_append, hfold]
      show tryQ q.1 n (body ++ [left.getD k (0, [])]) (left.eraseIdx k) (some y) = some z
      rw [show left.getD k (0, []) = left[k] from by simp [List.getD_eq_getElem?_getD, hk]]
      exact hz
    have hbl : body.length + left.length ≤ 1048576 := by unfold sizeQ at hs; omega
    rcases hs2 with ⟨rfl, rfl⟩ | rfl
    · unfold gA
      conv => whnf
      split <;> rename_i h1
      all_goals simp only [decide_eq_true_eq, decide_eq_false_iff_not] at h1
      · have hk : k < left.length := by omega
        have hwk : IntKind.i64.wrap ((k : Int) + 1) = ((k + 1 : Nat) : Int) := wrap_id (by omega) (by omega)
        conv => whnf
        refine ⟨by omega, rows_len rAtom_len _, ?_⟩
        conv => whnf
        refine ⟨_, takeN_rp (k := k) rAtom_len hk, ?_⟩
        conv => whnf
        refine ⟨[1, 2, 3, 5, 6, 7, 8, 0, 4, 9, 10], by kernel_rfl, ?_⟩
        conv => whnf
        refine ⟨by omega, rows_len rAtom_len _, _, takeN_part left (l := 0) (h := k) (by omega) (by omega) rfl rfl, ?_⟩
        conv => whnf
        rw [hwk]
        refine ⟨by omega, rows_len rAtom_len _, _, takeN_part left (l := k + 1) (h := left.length) (by omega) (by omega) rfl rfl, ?_⟩
        conv => whnf
        refine ⟨by rw [rows_len rAtom_len, List.drop_zero, List.length_take, Nat.min_eq_left (by omega)]; rfl, solid_rAtomR _, ?_⟩
        conv => whnf
        refine ⟨by omega, rfl, _, app_rAtom [] _, ?_⟩
        conv => whnf
        refine ⟨by rw [rows_len rAtom_len, List.length_drop, List.take_length]; rfl, solid_rAtomR _, ?_⟩
        conv => whnf
        have herase : rows rAtom ([] ++ List.drop 0 (List.take k left)) ++ rows rAtom (List.drop (k + 1) (List.take left.length left)) = rows rAtom (left.eraseIdx k) := by
          rw [app_rAtom, List.nil_append, List.drop_zero, List.take_length, erase_parts]
        have hlen1 : (rows rAtom ([] ++ List.drop 0 (List.take k left))).length = k * 2 := by
          rw [rows_len rAtom_len, List.nil_append, List.drop_zero, List.length_take, Nat.min_eq_left (by omega)]
        generalize hN : 0 + ((k : Int).toNat - ((0 : Nat) : Int).toNat) + ((left.length : Int).toNat - ((k + 1 : Nat) : Int).toNat) = N
        have hNl : (left.eraseIdx k).length = N := by rw [List.length_eraseIdx_of_lt hk]; omega
        refine ⟨by omega, (show _ = (0 + (k - 0)) * 2 from by rw [hlen1]; omega), _, herase, ?_⟩
        conv => whnf
        refine ⟨[1002, 0, 2, 4, 5, 7, 1, 3, 6], by kernel_rfl, ?_⟩
        conv => whnf
        refine ⟨rows_len rAtom_len _, solid_rAtomR _, ?_⟩
        conv => whnf
        refine ⟨by omega, rfl, _, app_rAtom [] body, ?_⟩
        conv => whnf
        refine ⟨rfl, solid_rAtomR [left[k]], ?_⟩
        conv => whnf
        refine ⟨by omega, (show _ = (0 + body.length) * 2 from by rw [rows_len rAtom_len]; simp), _, (show _ = rows rAtom (body ++ [left[k]]) from snoc_rAtom1 body left[k]), ?_⟩
        conv => whnf
        refine .inr (.inr (.inr ⟨[0, 1, 2, 3, 4], [11, 8], ?_⟩))
        conv => whnf
        refine ⟨_, _, takeN_all (show _ = (0 + body.length + 1) * 2 from by rw [rows_len rAtom_len, List.length_append]; simp), roVs_rAtomS _, ?_⟩
        conv => whnf
        refine ⟨_, _, takeN_all (show _ = N * 2 from by rw [rows_len rAtom_len, hNl]), roVs_rAtomS _, ?_⟩
        conv => whnf
        have hsp := ih (body ++ [left[k]]) (left.eraseIdx k) y (by rw [List.length_eraseIdx_of_lt hk]; omega) (by rw [sizeQ_step q.1 body left hk]; exact hs) hyl
        unfold vAtomS at hsp
        rw [hNl, List.length_append, List.length_singleton, show body.length + 1 = 0 + body.length + 1 from by omega] at hsp
        refine ⟨_, hsp, fun r g2 hP => ?_⟩
        obtain ⟨rfl, z, hz, hzl, hg⟩ := hP
        have hfz := hstep hk z hz
        rcases hg with ⟨rfl, rfl⟩ | rfl
        · refine .inl ?_
          conv => whnf
          exact ⟨m - 1, by omega, k + 1, IntKind.i64.wrap ((k : Int) + 1), z, hwk, by omega, hzl, hfz, .inl ⟨rfl, by kernel_rfl⟩⟩
        · refine .inl ?_
          conv => whnf
          exact ⟨m - 1, by omega, k + 1, IntKind.i64.wrap ((k : Int) + 1), z, hwk, by omega, hzl, hfz, .inr (by kernel_rfl)⟩
      · conv => whnf
        have hkk : k = left.length := by omega
        subst hkk
        refine ⟨[], ?_⟩
        conv => whnf
        exact ⟨rfl, y, hfold, hyl, .inl ⟨rfl, rfl⟩⟩
    · unfold gB
      conv => whnf
      split <;> rename_i h1
      all_goals simp only [decide_eq_true_eq, decide_eq_false_iff_not] at h1
      · have hk : k < left.length := by omega
        have hwk : IntKind.i64.wrap ((k : Int) + 1) = ((k + 1 : Nat) : Int) := wrap_id (by omega) (by omega)
        conv => whnf
        refine ⟨by omega, rows_len rAtom_len _, ?_⟩
        conv => whnf
        refine ⟨_, takeN_rp (k := k) rAtom_len hk, ?_⟩
        conv => whnf
        refine ⟨[1, 2, 3, 5, 6, 7, 8, 0, 4, 9, 10], by kernel_rfl, ?_⟩
        conv => whnf
        refine ⟨by omega, rows_len rAtom_len _, _, takeN_part left (l := 0) (h := k) (by omega) (by omega) rfl rfl, ?_⟩
        conv => whnf
        rw [hwk]
        refine ⟨by omega, rows_len rAtom_len _, _, takeN_part left (l := k + 1) (h := left.length) (by omega) (by omega) rfl rfl, ?_⟩
        conv => whnf
        refine ⟨by rw [rows_len rAtom_len, List.drop_zero, List.length_take, Nat.min_eq_left (by omega)]; rfl, solid_rAtomR _, ?_⟩
        conv => whnf
        refine ⟨by omega, rfl, _, app_rAtom [] _, ?_⟩
        conv => whnf
        refine ⟨by rw [rows_len rAtom_len, List.length_drop, List.take_length]; rfl, solid_rAtomR _, ?_⟩
        conv => whnf
        have herase : rows rAtom ([] ++ List.drop 0 (List.take k left)) ++ rows rAtom (List.drop (k + 1) (List.take left.length left)) = rows rAtom (left.eraseIdx k) := by
          rw [app_rAtom, List.nil_append, List.drop_zero, List.take_length, erase_parts]
        have hlen1 : (rows rAtom ([] ++ List.drop 0 (List.take k left))).length = k * 2 := by
          rw [rows_len rAtom_len, List.nil_append, List.drop_zero, List.length_take, Nat.min_eq_left (by omega)]
        generalize hN : 0 + ((k : Int).toNat - ((0 : Nat) : Int).toNat) + ((left.length : Int).toNat - ((k + 1 : Nat) : Int).toNat) = N
        have hNl : (left.eraseIdx k).length = N := by rw [List.length_eraseIdx_of_lt hk]; omega
        refine ⟨by omega, (show _ = (0 + (k - 0)) * 2 from by rw [hlen1]; omega), _, herase, ?_⟩
        conv => whnf
        refine ⟨[1002, 0, 2, 4, 5, 7, 1, 3, 6], by kernel_rfl, ?_⟩
        conv => whnf
        refine ⟨rows_len rAtom_len _, solid_rAtomR _, ?_⟩
        conv => whnf
        refine ⟨by omega, rfl, _, app_rAtom [] body, ?_⟩
        conv => whnf
        refine ⟨rfl, solid_rAtomR [left[k]], ?_⟩
        conv => whnf
        refine ⟨by omega, (show _ = (0 + body.length) * 2 from by rw [rows_len rAtom_len]; simp), _, (show _ = rows rAtom (body ++ [left[k]]) from snoc_rAtom1 body left[k]), ?_⟩
        conv => whnf
        refine .inr (.inr (.inr ⟨[0, 1, 2, 5, 6], [13, 10], ?_⟩))
        conv => whnf
        refine ⟨_, _, takeN_all (show _ = (0 + body.length + 1) * 2 from by rw [rows_len rAtom_len, List.length_append]; simp), roVs_rAtomS _, ?_⟩
        conv => whnf
        refine ⟨_, _, takeN_all (show _ = N * 2 from by rw [rows_len rAtom_len, hNl]), roVs_rAtomS _, ?_⟩
        conv => whnf
        have hsp := ih (body ++ [left[k]]) (left.eraseIdx k) y (by rw [List.length_eraseIdx_of_lt hk]; omega) (by rw [sizeQ_step q.1 body left hk]; exact hs) hyl
        unfold vAtomS at hsp
        rw [hNl, List.length_append, List.length_singleton, show body.length + 1 = 0 + body.length + 1 from by omega] at hsp
        refine ⟨_, hsp, fun r g2 hP => ?_⟩
        obtain ⟨rfl, z, hz, hzl, hg⟩ := hP
        have hfz := hstep hk z hz
        rcases hg with ⟨rfl, rfl⟩ | rfl
        · refine .inl ?_
          conv => whnf
          exact ⟨m - 1, by omega, k + 1, IntKind.i64.wrap ((k : Int) + 1), z, hwk, by omega, hzl, hfz, .inr (by kernel_rfl)⟩
        · refine .inl ?_
          conv => whnf
          exact ⟨m - 1, by omega, k + 1, IntKind.i64.wrap ((k : Int) + 1), z, hwk, by omega, hzl, hfz, .inr (by kernel_rfl)⟩
      · conv => whnf
        have hkk : k = left.length := by omega
        subst hkk
        refine ⟨[], ?_⟩
        conv => whnf
        exact ⟨rfl, y, hfold, hyl, .inr rfl⟩
set_option maxHeartbeats 4000000 in
theorem implNormalForm_spec (s : List Int) (q : QueryC) (hs : cSchema s ≤ 1048576) (hq : cQuery q ≤ 1048576) : Spec Try.prog 46 [vSchema s, vQuery q] (.tup [wQuery (if isQuery s q then normQ q else ([], [])), cb (isQuery s q)]) := by
  refine Spec_of mx Γ_ok Try.func46 rfl ?_
  conv => whnf
  refine ⟨_, implIsQuery_spec s q hs hq, .inl rfl, .inl ?_⟩
  conv => whnf
  generalize isQuery s q = b1
  cases b1 with
  | false =>
    conv => whnf
    exact .inr ⟨1, .inr ⟨2, rfl⟩⟩
  | true =>
    conv => whnf
    refine ⟨_, implFirstNames_spec q hq, .inl rfl, .inr ?_⟩
    have hy0 : cQuery (nmQ q) ≤ 1048576 := by rw [nmQ_size]; exact hq
    have hn : normQ q = (tryQ q.1 q.2.length [] q.2 (some (nmQ q))).getD ([], []) := by
      unfold normQ
      rw [tryQ_start q.1 q.2.length [] q.2 rfl, List.nil_append]
    rw [hn]
    conv => whnf
    refine .inr (.inr (.inr ⟨[1, 5, 6, 3, 4], [7], ?_⟩))
    conv => whnf
    refine ⟨_, _, rfl, rfl, ?_⟩
    conv => whnf
    have hsp := nfC_spec q q.2.length [] q.2 (nmQ q) rfl (by unfold sizeQ; unfold cQuery cAtomS at hq; simp [sumB]; omega) hy0
    refine ⟨_, hsp, fun r g2 hP => ?_⟩
    obtain ⟨rfl, z, hz, hzl, hg⟩ := hP
    rw [hz]
    rcases hg with ⟨rfl, rfl⟩ | rfl
    · refine .inl ?_
      conv => whnf
      refine ⟨by rw [rows_len ciL_len], by rw [rows_len tAtom_len], rfl⟩
    · refine .inl ?_
      conv => whnf
      refine ⟨by rw [rows_len ciL_len], by rw [rows_len tAtom_len], rfl⟩
end Go.Proofs.YthfjngmbdbocbaaD
