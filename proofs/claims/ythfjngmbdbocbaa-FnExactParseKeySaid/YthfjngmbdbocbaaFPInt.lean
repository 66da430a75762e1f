/- Numbers as texts, in weak terms: FormatInt and ParseInt return something, whatever they are given; a digit is read back. -/
import Derived.Test.YthfjngmbdbocbaaFFmt
import Derived.Test.YthfjngmbdbocbaaFSpaced
set_option linter.unusedVariables false
set_option linter.unusedSimpArgs false
set_option maxRecDepth 100000
namespace Go.Proofs.YthfjngmbdbocbaaD
open Go Go.Proofs

theorem quo_abs (e : Int) : (e.tdiv 10).natAbs = e.natAbs / 10 := by
  rw [Int.natAbs_tdiv]
  rfl
theorem quo_wrap {e : Int} (h : e.natAbs ≤ 1000000000000) : IntKind.i64.wrap (e.tdiv 10) = e.tdiv 10 := by
  have := quo_abs e
  exact wrap_id (by omega) (by omega)
theorem bytes1_size (x : Int) : (bytesOf [x]).size = 1 := rfl
set_option maxHeartbeats 1000000 in
theorem specFormatInt_g (n : Int) (hn : n.natAbs ≤ 1000000000000) : SpecG Try.prog 130 [ci n] [] fun r g2 => ∃ b : ByteArray, b.size ≤ 2000000000000 ∧ r = str b ∧ g2 = [] := by
  refine SpecG_of mx Γ_ok 0 Try.func130 rfl rfl (by decide) ?_
  conv => whnf
  split <;> rename_i h1
  · conv => whnf
    refine ⟨[], ?_⟩
    conv => whnf
    exact ⟨_, by decide, rfl, rfl⟩
  conv => whnf
  refine ⟨[(0,0),(2,0),(3,0),(4,0)], fun m s => ∃ (e : Int) (b : ByteArray), m = e.natAbs ∧ b.size + e.natAbs ≤ 1000000000000 ∧ s = ⟨31, [(0, ci e), (2, str ByteArray.empty), (3, str b), (4, cb (decide (n < 0)))], []⟩, n.natAbs, ⟨n, ByteArray.empty, rfl, by show 0 + _ ≤ _; omega, rfl⟩, ?_⟩
  rintro m s ⟨e, b, hm, hb, rfl⟩
  conv => whnf
  split <;> rename_i h2
  · have he : e ≠ 0 := by simpa using h2
    have hq := quo_abs e
    have hw := quo_wrap (e := e) (by omega)
    have key : ∀ x : Int, ∃ (e' : Int) (b' : ByteArray), m - 1 - (e.natAbs - 1 - e.natAbs / 10) = e'.natAbs ∧ b'.size + e'.natAbs ≤ 1000000000000 ∧ e' = IntKind.i64.wrap (e.tdiv 10) ∧ b' = bytesOf [x] ++ b := fun x =>
      ⟨_, _, by rw [hw, hq]; omega, by rw [hw, hq, ByteArray.size_append, bytes1_size]; omega, rfl, rfl⟩
    conv => whnf
    refine ⟨by omega, ?_⟩
    conv => whnf
    split <;> rename_i h4
    all_goals
      conv => whnf
      refine ⟨⟨rfl, rfl⟩, [_], rfl, ?_⟩
      conv => whnf
      refine ⟨by show 1 + b.size ≤ _; omega, ?_⟩
      conv => whnf
      refine ⟨by omega, ?_⟩
      conv => whnf
      exact ⟨(IntKind.i64.wrap (e.tdiv 10)).natAbs, by rw [hw, hq]; omega, IntKind.i64.wrap (e.tdiv 10), _, rfl, by rw [hw, hq, ByteArray.size_append, bytes1_size]; omega, rfl⟩
  · conv => whnf
    generalize decide (n < 0) = d
    cases d with
    | true =>
      conv => whnf
      refine ⟨by show 1 + b.size ≤ _; omega, ?_⟩
      conv => whnf
      refine ⟨[], ?_⟩
      conv => whnf
      exact ⟨_, by rw [ByteArray.size_append]; show 1 + b.size ≤ _; omega, rfl, rfl⟩
    | false =>
      conv => whnf
      refine ⟨[], ?_⟩
      conv => whnf
      exact ⟨b, by omega, rfl, rfl⟩
def cuL (x : Int) : List V := [.sc (.int .u8 x)]
theorem cuL_len (x : Int) : (cuL x).length = 1 := rfl
theorem rows_cuL (bs : List Int) : rows cuL bs = bs.map fun b => V.sc (.int .u8 b) := by
  induction bs with
  | nil => rfl
  | cons x xs ih => simp only [rows, ih, cuL, List.map_cons, List.cons_append, List.nil_append]
theorem take_cuL (bs : List Int) : takeN (rows cuL bs) 0 bs.length = some (bs.map fun b => V.sc (.int .u8 b)) := by
  rw [rows_cuL]
  unfold takeN
  rw [show Nat.ble (0 + bs.length) (bs.map fun b => V.sc (.int .u8 b)).length = true from Nat.ble_eq_true_of_le (by simp)]
  simp [List.take_of_length_le]
theorem setC_cuL {xs : List Int} {k off : Nat} (hk : k < xs.length) (ho : off = k * 1) (y : Int) : setC (rows cuL xs) off (cuL y) = rows cuL (xs.set k y) := by
  rw [ho]
  exact setC_rows cuL_len (by omega) hk y
theorem snoc_cuL (bs : List Int) (x : Int) : rows cuL bs ++ [V.sc (.int .u8 x)] = rows cuL (bs ++ [x]) := by
  rw [rows_append]
  rfl
theorem bytesOf_size (bs : List Int) : (bytesOf bs).size = bs.length := by
  unfold bytesOf
  have : ∀ (l : List Int) (r : ByteArray), (l.foldl (fun r n => r.push (UInt8.ofNat n.toNat)) r).size = r.size + l.length := by
    intro l
    induction l with
    | nil => intro r; rfl
    | cons x l ih => intro r; rw [List.foldl_cons, ih, ByteArray.size_push, List.length_cons]; omega
  rw [this]
  show 0 + _ = _
  omega
theorem shareC {α : Type} {P : α → Nat → Prop} {G : Prop} (pre : α → Nat → Prop) (hx : ∀ a k, pre a k → P a k) (h : (∀ a k, pre a k → P a k) → G) : G := h hx
noncomputable def rgF13 : Array Oper := regOps Try.f131 13
set_option maxHeartbeats 2000000 in
theorem implFormatInt_g (n : Int) (hn : n.natAbs ≤ 1000000000000) : SpecG Try.prog 131 [ci n] [] fun r g2 => ∃ b : ByteArray, b.size ≤ 2000000000000 ∧ r = str b ∧ g2 = [] := by
  refine SpecG_ofE (ex := { ex := fun _ => false, hid := fun _ => false, cut := fun k => Nat.beq k 13 }) mx Γ_ok 0 Try.func131 rfl rfl (by decide) ?_
  conv => whnf
  split <;> rename_i h1
  · conv => whnf
    refine ⟨[], ?_⟩
    conv => whnf
    exact ⟨_, by decide, rfl, rfl⟩
  conv => whnf
  apply shareC (α := List Int) (fun cs kk => cs.length = kk ∧ kk ≤ 1000000000001)
  case h =>
    intro hrest
    refine ⟨[(0,0),(2,0),(3,0),(4,0)], fun m s => ∃ (e : Int) (bs : List Int) (k : Nat) (r : List V), m = e.natAbs ∧ bs.length + e.natAbs ≤ 1000000000000 ∧ k = bs.length ∧ r = rows cuL bs ∧ s = ⟨59, [(0, ci n), (2, str ByteArray.empty), (3, .own 0 1 0 k k none), (4, ci e)], [some ⟨false, r⟩]⟩, n.natAbs, ⟨n, [], 0, _, rfl, by simp; omega, rfl, rfl, rfl⟩, ?_⟩
    rintro m s ⟨e, bs, k, _, hm, hb, hk, rfl, rfl⟩
    conv => whnf
    split <;> rename_i h2
    · have he : e ≠ 0 := by simpa using h2
      have hq := quo_abs e
      have hw := quo_wrap (e := e) (by omega)
      conv => whnf
      refine ⟨by omega, ?_⟩
      conv => whnf
      split <;> rename_i h4
      all_goals
        conv => whnf
        refine ⟨_, rfl, .inl ⟨flat1 rfl, ?_⟩⟩
        conv => whnf
        refine ⟨by omega, by rw [rows_len cuL_len, hk], _, snoc_cuL bs _, ?_⟩
        conv => whnf
        refine ⟨by omega, ?_⟩
        conv => whnf
        exact ⟨(IntKind.i64.wrap (e.tdiv 10)).natAbs, by rw [hw, hq]; omega, IntKind.i64.wrap (e.tdiv 10), _, k + 1, _, rfl, by rw [hw, hq, List.length_append]; simp only [List.length_cons, List.length_nil]; omega, by rw [List.length_append, hk]; rfl, rfl, rfl⟩
    · conv => whnf
      generalize decide (n < 0) = d
      cases d with
      | false =>
        conv => whnf
        refine ⟨[(2,0),(3,0)], [], ⟨59, [(2, str ByteArray.empty), (3, .own 0 1 0 k k none)], [some ⟨false, rows cuL bs⟩]⟩, rgF13, by kernel_rfl, by kernel_rfl, ?_⟩
        exact hrest bs k ⟨hk.symm, by omega⟩
      | true =>
        conv => whnf
        refine ⟨_, rfl, .inl ⟨flat1 rfl, ?_⟩⟩
        conv => whnf
        refine ⟨by omega, by rw [rows_len cuL_len, hk], _, snoc_cuL bs 45, ?_⟩
        conv => whnf
        obtain ⟨cs, hcs⟩ : ∃ cs, cs = bs ++ [45] := ⟨_, rfl⟩
        obtain ⟨kk, hkk⟩ : ∃ kk, kk = k + 1 := ⟨_, rfl⟩
        refine ⟨[(2,0),(3,0)], [], ⟨59, [(2, str ByteArray.empty), (3, .own 0 1 0 kk kk none)], [some ⟨false, rows cuL cs⟩]⟩, rgF13, by rw [hcs, hkk]; kernel_rfl, by kernel_rfl, ?_⟩
        exact hrest cs kk ⟨by rw [hcs, hkk, hk]; simp, by omega⟩
  case hx =>
    rintro cs kk ⟨hcl, hcb⟩
    conv => whnf
    have hw : IntKind.i64.wrap ((kk : Int) - 1) = kk - 1 := wrap_id (by omega) (by omega)
    rw [hw]
    refine ⟨[(2,0),(3,0),(6,0),(7,0)], fun m s => ∃ (i : Nat) (ei j : Int) (cs : List Int) (r : List V), ei = i ∧ m = (j - i + 1).toNat ∧ j < kk ∧ -1 ≤ j ∧ i ≤ 1000000000001 ∧ cs.length = kk ∧ r = rows cuL cs ∧ s = ⟨59, [(2, str ByteArray.empty), (3, .own 0 1 0 kk kk none), (6, ci ei), (7, ci j)], [some ⟨false, r⟩]⟩, ((kk : Int) - 1 - (0 : Nat) + 1).toNat, ⟨0, 0, _, cs, _, rfl, rfl, by omega, by omega, by omega, hcl, rfl, rfl⟩, ?_⟩
    rintro m s ⟨i, _, j, cs, _, rfl, hm, hj, hj1, hib, hl, rfl, rfl⟩
    conv => whnf
    split <;> rename_i h3
    all_goals simp only [decide_eq_true_eq, decide_eq_false_iff_not] at h3
    · obtain ⟨q, rfl⟩ : ∃ q : Nat, j = q := ⟨j.toNat, by omega⟩
      have hql : q < cs.length := by omega
      have hil : i < cs.length := by omega
      conv => whnf
      refine ⟨List.range 16, by kernel_rfl, ?_⟩
      conv => whnf
      refine ⟨⟨by omega, by omega⟩, ?_⟩
      conv => whnf
      refine ⟨_, takeN_own (k := q) (d := 0) (m := 1) (xs := cs) (f := cuL) (r := cuL cs[q]) cuL_len (Nat.zero_add _) hql (by omega) rfl, ?_⟩
      conv => whnf
      refine ⟨⟨by omega, by omega⟩, ?_⟩
      conv => whnf
      refine ⟨_, takeN_own (k := i) (d := 0) (m := 1) (xs := cs) (f := cuL) (r := cuL cs[i]) cuL_len (Nat.zero_add _) hil (by omega) rfl, ?_⟩
      conv => whnf
      refine ⟨⟨by omega, by omega⟩, ?_⟩
      conv => whnf
      refine ⟨_, takeN_own (k := i) (d := 0) (m := 1) (xs := cs) (f := cuL) (r := cuL cs[i]) cuL_len (Nat.zero_add _) hil (by omega) rfl, _, setC_cuL hil (Nat.zero_add _) cs[q], ?_⟩
      conv => whnf
      refine ⟨⟨by omega, by omega⟩, ?_⟩
      conv => whnf
      have hql2 : q < (cs.set i cs[q]).length := by rw [List.length_set]; exact hql
      refine ⟨_, takeN_own (k := q) (d := 0) (m := 1) (xs := cs.set i cs[q]) (f := cuL) (r := cuL (cs.set i cs[q])[q]) cuL_len (Nat.zero_add _) hql2 (by omega) rfl, _, setC_cuL hql2 (Nat.zero_add _) cs[i], ?_⟩
      conv => whnf
      have hwi : IntKind.i64.wrap ((i : Int) + 1) = ((i + 1 : Nat) : Int) := wrap_id (by omega) (by omega)
      have hwj : IntKind.i64.wrap ((q : Int) - 1) = (q : Int) - 1 := wrap_id (by omega) (by omega)
      exact ⟨((q : Int) - 1 - ((i + 1 : Nat) : Int) + 1).toNat, by omega, i + 1, IntKind.i64.wrap ((i : Int) + 1), IntKind.i64.wrap ((q : Int) - 1), (cs.set i cs[q]).set q cs[i], _, hwi, by rw [hwj], by rw [hwj]; omega, by rw [hwj]; omega, by omega, by rw [List.length_set, List.length_set]; exact hl, rfl, rfl⟩
    · conv => whnf
      refine ⟨⟨rfl, rfl⟩, cs, by rw [← hl]; exact take_cuL cs, ?_⟩
      conv => whnf
      refine ⟨[], ?_⟩
      conv => whnf
      exact ⟨_, by rw [bytesOf_size]; omega, rfl, rfl⟩
end Go.Proofs.YthfjngmbdbocbaaD
