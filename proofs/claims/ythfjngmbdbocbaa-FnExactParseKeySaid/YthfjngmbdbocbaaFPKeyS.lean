/- spec.ParseKey. -/
import Derived.Test.YthfjngmbdbocbaaFPKey
set_option linter.unusedVariables false
set_option linter.unusedSimpArgs false
set_option maxRecDepth 100000
namespace Go.Proofs.YthfjngmbdbocbaaD
open Go Go.Proofs

theorem sch_wf {xs : List Int} (h : qSchema xs) : ∀ x ∈ xs, -9223372036854775808 ≤ x ∧ x ≤ 9223372036854775807 := fun x hx => wf_i64 (h.2 x hx)
noncomputable def rgK8 : Array Oper := regOps Try.f8 8
def exKS : Exs := { ex := fun f => Nat.beq f 76, hid := fun _ => false, cut := fun k => Nat.beq k 8 }
def sKS (x0 : List Int) (x1 : ByteArray) (l : List ByteArray) (e : Int) : St := ⟨72, [(1, str x1), (2, .ptr 0 0), (4, .ptr 1 0), (5, cb false), (6, strs l), (7, .ptr 2 0)], [some ⟨true, [ints x0]⟩, some ⟨true, [ci 0, cnil]⟩, some ⟨true, [ci e, .own 3 1 0 0 0 none]⟩, some ⟨false, []⟩]⟩
set_option maxHeartbeats 4000000 in
theorem specParseKey_spec (x0 : List Int) (x1 : ByteArray) (h0 : cSchema x0 ≤ 1048576) (h1 : x1.size ≤ 1048576) (q0 : qSchema x0) : Spec Try.prog 8 [vSchema x0, str x1] (.tup [wKey (pParseKey x0 x1).1, cb (pParseKey x0 x1).2]) := by
  unfold cSchema at h0
  refine Spec_ofE (ex := exKS) mx Γ_ok Try.func8 rfl ?_
  conv => whnf
  refine ⟨_, l2Cut_spec x1 (by omega), .inl rfl, .inl ?_⟩
  rw [strs_ro]
  have hcS := cutS_ok x1
  have hpS := parts_S x0 x1
  generalize cutS x1 = l at hcS hpS ⊢
  unfold strs
  conv => whnf
  apply share1 (α := Int) (fun e => 3 ≤ l.length ∧ ∀ k, KeyOf x0 x1 k → e = k.1)
  case h =>
    intro hrest
    generalize hb1 : decide ((l.length : Int) < 3) = b1
    cases b1 with
    | true =>
      simp only [decide_eq_true_eq] at hb1
      conv => whnf
      rw [pk_none fun k hk => by
        have h := hpS k hk
        have h2 := h.2.2.1
        rw [h.1] at hb1
        simp only [parts, List.length_cons, List.length_map] at hb1
        omega]
      refine .inr ⟨1, ?_⟩
      rfl
    | false =>
      simp only [decide_eq_false_iff_not] at hb1
      have hl1 : 1 < l.length := by omega
      conv => whnf
      refine ⟨by omega, rows_len strL_len _, ?_⟩
      conv => whnf
      refine ⟨_, takeN_rp (k := 1) strL_len hl1, ?_⟩
      conv => whnf
      generalize hb2 : ((l[1].size : Int) != 2) = b2
      cases b2 with
      | true =>
        conv => whnf
        rw [pk_none fun k hk => by
          have h := hpS k hk
          have h2 := (parts_1 h.1 hl1).1
          rw [h2] at hb2
          cases hb2]
        refine .inr ⟨1, ?_⟩
        rfl
      | false =>
        have hs2 : l[1].size = 2 := by
          simp only [bne_eq_false_iff_eq] at hb2
          omega
        conv => whnf
        refine ⟨by omega, rows_len strL_len _, ?_⟩
        conv => whnf
        refine ⟨_, takeN_rp (k := 1) strL_len hl1, ?_⟩
        conv => whnf
        refine ⟨⟨_, rfl, rfl⟩, ⟨by omega, by omega, by omega⟩, ?_⟩
        conv => whnf
        refine .inr (.inr ⟨[], [], ?_⟩)
        conv => whnf
        refine ⟨_, specParseInt_g _ (by have := (ext_size l[1] (Int.toNat 1) (Int.toNat (l[1].size : Int))).1; omega), fun r g2 hP => ?_⟩
        obtain ⟨n, ok, hok, rfl, rfl⟩ := hP
        refine .inl ?_
        conv => whnf
        have hd : ∀ k, KeyOf x0 x1 k → n = k.1 ∧ ok = true := fun k hk => by
          have h := hpS k hk
          exact hok k.1 h.2.1.1 h.2.1.2 (parts_1 h.1 hl1).2
        cases ok with
        | true =>
          conv => whnf
          refine ⟨[(1,0),(2,0),(4,0),(5,0),(6,0),(7,201)], [], sKS x0 x1 l n, rgK8, by kernel_rfl, by kernel_rfl, ?_⟩
          exact hrest n ⟨by omega, fun k hk => (hd k hk).1⟩
        | false =>
          conv => whnf
          obtain ⟨e, he⟩ : ∃ e : Int, e = -1 := ⟨_, rfl⟩
          refine ⟨[(1,0),(2,0),(4,0),(5,0),(6,0),(7,201)], [], sKS x0 x1 l e, rgK8, by rw [he]; kernel_rfl, by kernel_rfl, ?_⟩
          exact hrest e ⟨by omega, fun k hk => by cases (hd k hk).2⟩
  case hx =>
    rintro e ⟨hl3, he⟩
    unfold sKS strs
    conv => whnf
    refine ⟨[(1,0),(2,0),(4,0),(5,0),(6,0),(7,0),(10,0)], fun m st => ∃ (i j : Nat) (ei : Int) (ns : List Int) (r : List V), ei = i ∧ m + i = l.length ∧ j = ns.length ∧ j + 2 = i ∧ (∀ k, KeyOf x0 x1 k → ns = k.2.take j) ∧ r = rows ciL ns ∧
      st = ⟨72, [(1, str x1), (2, .ptr 0 0), (4, .ptr 1 0), (5, cb false), (6, .ro l.length (rows strL l)), (7, .ptr 2 0), (10, ci ei)], [some ⟨true, [ints x0]⟩, some ⟨true, [ci 0, cnil]⟩, some ⟨true, [ci e, .own 3 1 0 j j none]⟩, some ⟨false, r⟩]⟩, l.length - 2, ⟨2, 0, 2, [], _, rfl, by omega, rfl, rfl, fun k _ => rfl, rfl, rfl⟩, ?_⟩
    rintro m st ⟨i, j, _, ns, _, rfl, hm, hj, hji, hns, rfl, rfl⟩
    conv => whnf
    generalize hb1 : decide ((i : Int) < (l.length : Int)) = b1
    cases b1 with
    | true =>
      simp only [decide_eq_true_eq] at hb1
      have hi : i < l.length := by omega
      have hll := hcS.2
      conv => whnf
      refine ⟨by omega, rows_len strL_len _, ?_⟩
      conv => whnf
      refine ⟨_, takeN_rp (k := i) strL_len hi, ?_⟩
      conv => whnf
      refine .inr (.inr ⟨[], [], ?_⟩)
      conv => whnf
      refine ⟨_, specParseInt_g l[i] (by have := hcS.1 l[i] (List.getElem_mem hi); omega), fun r g2 hP => ?_⟩
      obtain ⟨n, ok, hok, rfl, rfl⟩ := hP
      refine .inl ?_
      conv => whnf
      have hd : ∀ k, KeyOf x0 x1 k → ok = true ∧ ns ++ [n] = k.2.take (j + 1) := fun k hk => by
        have h := hpS k hk
        obtain ⟨hq, hli⟩ := parts_at h.1 hi hji.symm
        have hx := h.2.2.2 k.2[j] (List.getElem_mem hq)
        obtain ⟨h1, h2⟩ := hok _ hx.1 hx.2 hli
        rw [hns k hk, List.take_succ_eq_append_getElem hq, h1]
        exact ⟨h2, rfl⟩
      cases ok with
      | true =>
        conv => whnf
        refine ⟨_, rfl, .inl ⟨flat1 rfl, ?_⟩⟩
        conv => whnf
        refine ⟨by omega, by rw [rows_len ciL_len, hj], _, snoc_ci ns n, ?_⟩
        conv => whnf
        exact ⟨m - 1, by omega, i + 1, j + 1, _, ns ++ [n], _, wrap_id (by omega) (by omega), by omega, by rw [List.length_append, hj]; rfl, by omega, fun k hk => (hd k hk).2, rfl, rfl⟩
      | false =>
        conv => whnf
        refine ⟨_, rfl, .inl ⟨flat1 rfl, ?_⟩⟩
        conv => whnf
        refine ⟨by omega, by rw [rows_len ciL_len, hj], _, snoc_ci ns (-1), ?_⟩
        conv => whnf
        exact ⟨m - 1, by omega, i + 1, j + 1, _, ns ++ [-1], _, wrap_id (by omega) (by omega), by omega, by rw [List.length_append, hj]; rfl, by omega, (fun k hk => by cases (hd k hk).1), rfl, rfl⟩
    | false =>
      simp only [decide_eq_false_iff_not] at hb1
      have hll := hcS.2
      have hu : ∀ k', KeyOf x0 x1 k' → (e, ns) = k' := fun k hk => by
        have h := hpS k hk
        have hlen : k.2.length = j := by
          have := congrArg List.length h.1
          simp only [parts, List.length_cons, List.length_map] at this
          omega
        refine Prod.ext (he k hk) ?_
        show ns = k.2
        rw [hns k hk, ← hlen, List.take_length]
      conv => whnf
      refine .inl ?_
      conv => whnf
      refine ⟨_, _, takeN_all (by rw [rows_len ciL_len, hj]), roVs_ci _, ?_⟩
      conv => whnf
      subst hj
      refine ⟨_, specIsKey_spec x0 e ns (by omega) (by omega) (sch_wf q0), .inr trivial, .inl ?_⟩
      conv => whnf
      generalize hb2 : (!isKey x0 e ns) = b2
      cases b2 with
      | true =>
        simp only [Bool.not_eq_true'] at hb2
        conv => whnf
        rw [pk_false hu fun h => by have := h.1; rw [show isKey x0 (e, ns).1 (e, ns).2 = isKey x0 e ns from rfl, hb2] at this; cases this]
        refine .inr ⟨1, ?_⟩
        rfl
      | false =>
        simp only [Bool.not_eq_false'] at hb2
        conv => whnf
        refine .inl ?_
        conv => whnf
        refine ⟨_, _, takeN_all (by rw [rows_len ciL_len]), roVs_ci _, ?_⟩
        conv => whnf
        refine ⟨_, specFormatKey_w (e, ns) (by show ns.length ≤ _; omega), .inr trivial, .inl ?_⟩
        conv => whnf
        generalize hb3 : (!((pFormatKey (e, ns)).toList == x1.toList)) = b3
        cases b3 with
        | true =>
          conv => whnf
          rw [pk_false hu fun h => by have := h.2; rw [this] at hb3; simp at hb3]
          refine .inr ⟨1, ?_⟩
          rfl
        | false =>
          conv => whnf
          rw [pk_true hu ⟨hb2, eqS (by simpa using hb3)⟩]
          refine ⟨by rw [rows_len ciL_len], ?_⟩
          rfl
end Go.Proofs.YthfjngmbdbocbaaD
