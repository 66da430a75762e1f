/- impl.ParseKey. -/
import Derived.Test.YthfjngmbdbocbaaFPKeyS
set_option linter.unusedVariables false
set_option linter.unusedSimpArgs false
set_option maxRecDepth 100000
namespace Go.Proofs.YthfjngmbdbocbaaD
open Go Go.Proofs

def exKI : Exs := { ex := fun f => Nat.beq f 81, hid := fun _ => false }
theorem takeN_tail {l : List ByteArray} (h : 2 ≤ l.length) : takeN (rows strL l) ((2 : Int).toNat * 1) (((l.length : Int).toNat - (2 : Int).toNat) * 1) = some (rows strL (l.drop 2)) := by
  refine takeN_eq (by rw [rows_len strL_len]; show 2 * 1 + (l.length - 2) * 1 ≤ _; omega) ?_
  rw [show (2 : Int).toNat * 1 = 2 * 1 from rfl, rows_drop strL_len]
  exact List.take_of_length_le (by rw [rows_len strL_len, List.length_drop]; exact Nat.le_refl _)
set_option maxHeartbeats 4000000 in
theorem implParseKey_spec (x0 : List Int) (x1 : ByteArray) (h0 : cSchema x0 ≤ 1048576) (h1 : x1.size ≤ 1048576) (q0 : qSchema x0) : Spec Try.prog 10 [vSchema x0, str x1] (.tup [wKey (pParseKey x0 x1).1, cb (pParseKey x0 x1).2]) := by
  unfold cSchema at h0
  refine Spec_ofE (ex := exKI) mx Γ_ok Try.func10 rfl ?_
  conv => whnf
  refine ⟨_, cut_spec x1 (by omega), .inl rfl, .inl ?_⟩
  rw [strs_ro]
  have hcS := cutI_ok x1
  have hpS := parts_I x0 x1
  generalize cutI x1 = l at hcS hpS ⊢
  have hll := hcS.2
  unfold strs
  conv => whnf
  generalize hb1 : decide ((l.length : Int) < 3) = b1
  cases b1 with
  | true =>
    simp only [decide_eq_true_eq] at hb1
    conv => whnf
    rw [pk_none fun k hk => by
      have h := hpS k hk
      have h2 := h.2.2.1
      rw [h.1] at hb1
      simp only [parts, List.length_cons, List.length_map] at hb1
      omega]
    refine .inr ⟨1, ?_⟩
    rfl
  | false =>
    simp only [decide_eq_false_iff_not] at hb1
    have hl1 : 1 < l.length := by omega
    conv => whnf
    refine ⟨by omega, rows_len strL_len _, ?_⟩
    conv => whnf
    refine ⟨_, takeN_rp (k := 1) strL_len hl1, ?_⟩
    conv => whnf
    generalize hb2 : decide ((l[1].size : Int) < 2) = b2
    cases b2 with
    | true =>
      simp only [decide_eq_true_eq] at hb2
      conv => whnf
      rw [pk_none fun k hk => by
        have h := hpS k hk
        have h2 := (parts_1 h.1 hl1).1
        rw [h2] at hb2
        omega]
      refine .inr ⟨1, ?_⟩
      rfl
    | false =>
      simp only [decide_eq_false_iff_not] at hb2
      conv => whnf
      refine ⟨by omega, rows_len strL_len _, ?_⟩
      conv => whnf
      refine ⟨_, takeN_rp (k := 1) strL_len hl1, ?_⟩
      conv => whnf
      refine ⟨⟨_, rfl, rfl⟩, ⟨by omega, by omega, by omega⟩, ?_⟩
      conv => whnf
      refine .inr (.inr ⟨[], [], ?_⟩)
      conv => whnf
      refine ⟨_, implParseInt_g _ (by have h3 := (ext_size l[1] (Int.toNat 1) (Int.toNat (l[1].size : Int))).1; have h4 := hcS.1 l[1] (List.getElem_mem hl1); omega), fun r g2 hP => ?_⟩
      obtain ⟨e, ok, hok, rfl, rfl⟩ := hP
      refine .inl ?_
      conv => whnf
      have he : ∀ k, KeyOf x0 x1 k → e = k.1 := fun k hk => by
        have h := hpS k hk
        exact (hok k.1 h.2.1.1 h.2.1.2 (parts_1 h.1 hl1).2).1
      refine ⟨⟨by omega, by omega, by omega⟩, rows_len strL_len _, _, takeN_tail (by omega), ?_⟩
      have hn : (l.length : Int).toNat - (2 : Int).toNat = (l.drop 2).length := by rw [List.length_drop]; rfl
      rw [hn]
      have hsz : ∀ w ∈ l.drop 2, w.size ≤ x1.size := fun w hw => hcS.1 w (List.mem_of_mem_drop hw)
      have hq : ∀ k, KeyOf x0 x1 k → l.drop 2 = k.2.map dig := fun k hk => by
        rw [(hpS k hk).1]
        rfl
      have hlq : (l.drop 2).length ≤ 1048575 := by rw [List.length_drop]; omega
      clear hn
      generalize l.drop 2 = p at hsz hq hlq ⊢
      conv => whnf
      refine ⟨[(1,0),(2,0),(4,0),(5,0),(7,201),(36,0),(37,0),(38,0)], fun m st => ∃ (i j : Nat) (ei : Int) (ns : List Int) (r : List V), ei = i ∧ m + i = p.length ∧ j = ns.length ∧ j = i ∧ (∀ k, KeyOf x0 x1 k → ns = k.2.take j) ∧ r = rows ciL ns ∧
        st = ⟨66, [(1, str x1), (2, .ptr 0 0), (4, .ptr 1 0), (5, cb false), (7, .ptr 2 0), (36, .ro p.length (rows strL p)), (37, ci p.length), (38, ci ei)], [some ⟨true, [ints x0]⟩, some ⟨true, [ci 0, cnil]⟩, some ⟨true, [ci e, .own 3 1 0 j j none]⟩, some ⟨false, r⟩]⟩, p.length, ⟨0, 0, 0, [], _, rfl, rfl, rfl, rfl, fun k _ => rfl, rfl, rfl⟩, ?_⟩
      rintro m st ⟨i, j, _, ns, _, rfl, hm, hj, hji, hns, rfl, rfl⟩
      conv => whnf
      generalize hb3 : decide ((i : Int) < (p.length : Int)) = b3
      cases b3 with
      | true =>
        simp only [decide_eq_true_eq] at hb3
        have hi : i < p.length := by omega
        conv => whnf
        refine ⟨by omega, rows_len strL_len _, ?_⟩
        conv => whnf
        refine ⟨_, takeN_rp (k := i) strL_len hi, ?_⟩
        conv => whnf
        refine .inr (.inr ⟨[], [], ?_⟩)
        conv => whnf
        refine ⟨_, implParseInt_g p[i] (by have := hsz p[i] (List.getElem_mem hi); omega), fun r g2 hP => ?_⟩
        obtain ⟨n, ok2, hok2, rfl, rfl⟩ := hP
        refine .inl ?_
        conv => whnf
        refine ⟨_, rfl, .inl ⟨flat1 rfl, ?_⟩⟩
        conv => whnf
        refine ⟨by omega, by rw [rows_len ciL_len, hj], _, snoc_ci ns n, ?_⟩
        conv => whnf
        refine ⟨m - 1, by omega, i + 1, j + 1, _, ns ++ [n], _, wrap_id (by omega) (by omega), by omega, by rw [List.length_append, hj]; rfl, by omega, fun k hk => ?_, rfl, rfl⟩
        have h := hpS k hk
        have hp2 := hq k hk
        have hik : i < k.2.length := by rw [hp2, List.length_map] at hi; exact hi
        have hx := h.2.2.2 k.2[i] (List.getElem_mem hik)
        have h5 : p[i] = dig k.2[i] := by simp only [hp2, List.getElem_map]
        obtain ⟨h6, _⟩ := hok2 _ hx.1 hx.2 h5
        have hjk : j < k.2.length := by omega
        have hji2 : k.2[j] = k.2[i] := by simp only [hji]
        rw [hns k hk, List.take_succ_eq_append_getElem hjk, h6, hji2]
      | false =>
        simp only [decide_eq_false_iff_not] at hb3
        have hu : ∀ k', KeyOf x0 x1 k' → (e, ns) = k' := fun k hk => by
          have hlen : k.2.length = j := by
            have := congrArg List.length (hq k hk)
            rw [List.length_map] at this
            omega
          refine Prod.ext (he k hk) ?_
          show ns = k.2
          rw [hns k hk, ← hlen, List.take_length]
        conv => whnf
        refine .inl ?_
        conv => whnf
        refine ⟨_, _, takeN_all (by rw [rows_len ciL_len, hj]), roVs_ci _, ?_⟩
        conv => whnf
        subst hj
        refine ⟨_, implIsKey_spec x0 e ns (by omega) (by omega) (sch_wf q0), .inr trivial, .inl ?_⟩
        conv => whnf
        generalize hb4 : (!isKey x0 e ns) = b4
        cases b4 with
        | true =>
          simp only [Bool.not_eq_true'] at hb4
          conv => whnf
          rw [pk_false hu fun h => by have := h.1; rw [show isKey x0 (e, ns).1 (e, ns).2 = isKey x0 e ns from rfl, hb4] at this; cases this]
          refine .inr ⟨1, ?_⟩
          rfl
        | false =>
          simp only [Bool.not_eq_false'] at hb4
          conv => whnf
          refine .inl ?_
          conv => whnf
          refine ⟨_, _, takeN_all (by rw [rows_len ciL_len]), roVs_ci _, ?_⟩
          conv => whnf
          refine ⟨_, implFormatKey_w (e, ns) (by show ns.length ≤ _; omega), .inr trivial, .inl ?_⟩
          conv => whnf
          generalize hb5 : (!((pFormatKey (e, ns)).toList == x1.toList)) = b5
          cases b5 with
          | true =>
            conv => whnf
            rw [pk_false hu fun h => by have := h.2; rw [this] at hb5; simp at hb5]
            refine .inr ⟨1, ?_⟩
            rfl
          | false =>
            conv => whnf
            rw [pk_true hu ⟨hb4, eqS (by simpa using hb5)⟩]
            refine ⟨by rw [rows_len ciL_len], ?_⟩
            rfl
end Go.Proofs.YthfjngmbdbocbaaD
