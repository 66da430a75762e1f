/- Contracts and plain laws of this seat; no condition. -/
import Derived.Test.YtboolngaahifdaaGreatQ29
import Derived.Test.YtboolngaahifdaaGreatQ36
import Derived.Test.YtboolngaahifdaaGreatQ18
import Derived.Test.YtboolngaahifdaaGreatQ20
import Derived.Test.YtboolngaahifdaaGreatQ31
import Derived.Test.YtboolngaahifdaaGreatQ37
set_option linter.unusedVariables false
set_option linter.unusedSimpArgs false
set_option maxRecDepth 100000
namespace Go.Proofs.YtboolngaahifdaaGreatD
open Go Go.Proofs
theorem share6 {α β γ : Type} {P : α → β → γ → Nat → Nat → Nat → Prop} {G : Prop} (pre : α → β → γ → Nat → Nat → Nat → Prop) (hx : ∀ a b c j k n, pre a b c j k n → P a b c j k n) (h : (∀ a b c j k n, pre a b c j k n → P a b c j k n) → G) : G := h hx
def smT4 (q : QueryW) : Prop := q.1.length ≤ 3 ∧ q.2.length ≤ 4 ∧ ∀ a ∈ q.2, a.2.length ≤ 3
noncomputable def rgT15 : Array Oper := regOps Tryz.f114 15
def exT16 : Exs := { ex := fun _ => false, hid := fun _ => false, cut := fun k => Nat.beq k 15 }
theorem vsSc_ok {vs : List QueryW} (v1 : 1 ≤ vs.length) (v2 : vs.length ≤ 3) (v3 : ∀ v ∈ vs, smQ v ∧ 1 ≤ v.1.length) : sOk (pViewSchema vs) := by
 refine ⟨fun x hx => ?_, by unfold pViewSchema; rw [List.length_map]; exact v1, by unfold pViewSchema; rw [List.length_map]; omega⟩
 obtain ⟨v, hv, rfl⟩ := List.mem_map.1 hx
 have h1 := (v3 v hv).1.1
 have h2 := (v3 v hv).2
 show 1 ≤ (v.1.length : Int) ∧ (v.1.length : Int) ≤ 3
 omega
theorem closed_ciT (xs : List Int) : closeds (rows ciL xs) := closeds_rows (f := ciL) (fun _ => ⟨trivial, trivial⟩) xs
theorem closed_wQ (q : QueryW) : closed (wQuery q) := ⟨closed_ciT q.1, closeds_rows (f := tAtom) (fun a => ⟨trivial, closed_ciT a.2, trivial⟩) q.2, trivial⟩
theorem closed_wQueryT (q : QueryW) (b : Bool) : closed (.tup [wQuery q, cb b]) := ⟨⟨closed_ciT q.1, closeds_rows (f := tAtom) (fun a => ⟨trivial, closed_ciT a.2, trivial⟩) q.2, trivial⟩, trivial, trivial⟩
theorem isQuery_4 {s : List Int} {q : QueryW} (h : isQuery s q = true) : smT4 q := by
 obtain ⟨h1, h2, _, h3, _⟩ := isQuery_atoms h
 exact ⟨terms3_len h1, h2, fun a ha => terms3_len (h3 a ha)⟩
theorem set0_tQ {vs : List QueryW} (q : QueryW) (h : 0 < vs.length) : setC (rows tQuery vs) (0 + 0 * 2) (tQuery q) = rows tQuery (vs.set 0 q) := (congrArg (fun o => setC (rows tQuery vs) o (tQuery q)) (Nat.zero_add _)).trans (setC_rows tQuery_len (by omega) h _)
theorem set0_sm {vs : List QueryW} {q : QueryW} (h : ∀ v ∈ vs, smQ v ∧ 1 ≤ v.1.length) (hq : smQ q ∧ 1 ≤ q.1.length) : ∀ v ∈ vs.set 0 q, smQ v ∧ 1 ≤ v.1.length := fun v hv => by
 rcases List.mem_or_eq_of_mem_set hv with h1 | rfl
 ·exact h v h1
 ·exact hq
def sT16 (s : List Int) (c : Cur) (vs : List QueryW) (q : QueryW) (j k n : Nat) : St := ⟨72, [(0, .ptr 0 0), (2, .ptr 1 0), (3, cnil), (4, .ptr 2 0), (5, .ptr 3 0), (6, .own 4 2 0 n n none), (7, .ptr 5 0)], [some ⟨false, curC c⟩, some ⟨true, [cnil]⟩, some ⟨true, [cnil, cnil]⟩, some ⟨true, [ints s]⟩, some ⟨false, rows tQuery vs⟩, some ⟨true, [.own 6 1 0 j j none, .own 7 2 0 k k none]⟩, some ⟨false, rows ciL q.1⟩, some ⟨false, rows tAtom q.2⟩]⟩
theorem smQ_4 {q : QueryW} (h : smQ q) : smT4 q := ⟨by have := h.1; omega, by have := h.2.2.2.1; omega, fun a ha => by have := (h.2.2.2.2 a ha).2.1; omega⟩
set_option maxHeartbeats 8000000 in
theorem l16Draw_g (c : Cur) (h : goodC c) : SpecG Tryz.prog 114 [.ptr 0 0] (gC c) fun r g2 => ∃ (s : List Int) (vs : List QueryW) (q : QueryW) (c' : Cur), r = .tup [vSchema s, wQueryS vs, wQuery q] ∧ s.length ≤ 8 ∧ okVs vs ∧ smT4 q ∧ goodC c' ∧ g2 = gC c' := by
 unfold gC
 refine SpecG_ofE (ex := exT16) mx Γ_ok 1 Tryz.func114 rfl rfl (by decide) ?_
 conv => whnf
 refine .inr (.inl ?_)
 conv => whnf
 refine ⟨curC_ne c, ?_⟩
 conv => whnf
 refine ⟨_, _, _, l3Schema_spec c h, ?_⟩
 conv => whnf
 refine .inl ?_
 rw [wSchema_ro]
 conv => whnf
 obtain ⟨h1, s1, s2, s3⟩ := schP_ok h
 have hs : sOk (schP c).1 := ⟨s1, s2, by omega⟩
 generalize (schP c).2 = c1 at h1 ⊢
 generalize (schP c).1 = s at hs s3 ⊢
 refine .inr (.inr ⟨[0], [], ?_⟩)
 conv => whnf
 refine ⟨_, l15Views_h s c1 hs h1, fun r g2 hP => ?_⟩
 obtain ⟨vs, c2, rfl, v1, v2, v3, h2, rfl⟩ := hP
 refine .inr ?_
 conv => whnf
 refine .inr (.inr ⟨[0], [], ?_⟩)
 conv => whnf
 refine ⟨_, l4Query_s s c2 hs h2, fun r g2 hP => ?_⟩
 obtain ⟨q, c3, rfl, hq, h3, rfl⟩ := hP
 refine .inr ?_
 conv => whnf
 apply share6 (α := Cur) (β := List QueryW) (γ := QueryW) (fun c vs q j k n => goodC c ∧ 1 ≤ vs.length ∧ vs.length ≤ 3 ∧ (∀ v ∈ vs, smQ v ∧ 1 ≤ v.1.length) ∧ smT4 q ∧ j = q.1.length ∧ k = q.2.length ∧ n = vs.length)
 case h =>
  intro hrest
  have hvs : okVs vs := ⟨by omega, fun v hv => ⟨smQ_sm (v3 v hv).1, .inr (v3 v hv).1⟩⟩
  have hvz := okVs_size hvs
  have hq4 := smQ_4 hq
  refine .inr (.inl ?_)
  conv => whnf
  refine ⟨curC_ne c3, ?_⟩
  conv => whnf
  refine ⟨_, _, _, l1Below_spec c3 4 h3 (by omega), ?_⟩
  conv => whnf
  refine .inl ?_
  conv => whnf
  have h4 := belowP_good h3 4
  generalize (belowP c3 4).2 = c4 at h4 ⊢
  generalize (belowP c3 4).1 = v
  generalize (v == 0) = b0
  cases b0 with
  | true =>
   conv => whnf
   refine ⟨[1001, 0, 1, 2, 3, 4, 5, 6, 7, 8, 9, 1000, 10, 1000, 11, 12], by kernel_rfl, ?_⟩
   conv => whnf
   refine .inl ?_
   conv => whnf
   refine ⟨_, _, takeN_all (by rw [rows_len tQuery_len]), roVs_rows tQuery_ro _, ?_⟩
   conv => whnf
   refine ⟨_, specViewSchema_spec vs hvz, .inr (closed_wSchema _), .inl ?_⟩
   rw [wSchema_ro]
   conv => whnf
   refine .inr (.inr ⟨[0], fun k => noSubT_lk (by kernel_rfl) k, rfl, ?_⟩)
   conv => whnf
   refine ⟨_, l4Query_s (pViewSchema vs) c4 (vsSc_ok v1 v2 v3) h4, fun r g2 hP => ?_⟩
   obtain ⟨qa, c5, rfl, hqa, h5, rfl⟩ := hP
   refine .inl ?_
   rw [wQuery_ro]
   conv => whnf
   refine .inl ?_
   conv => whnf
   refine ⟨_, _, takeN_all (by rw [rows_len tQuery_len]), roVs_rows tQuery_ro _, ?_⟩
   conv => whnf
   have hqas := qSm_size (smQ_sm hqa)
   have hss : cSchema s ≤ 1048576 := by show s.length ≤ _; omega
   have hU := specUnfoldQuery_spec s vs qa hss hvz hqas
   rw [wEq_unO] at hU
   have hxs : cQuery (unO (pUnfO s vs qa)).1 ≤ 1048576 := by
    cases hx : pUnfO s vs qa with
    | none => decide
    | some y =>
     have := pUnfO_bound hx
     show cQuery y ≤ _
     omega
   generalize (unO (pUnfO s vs qa)).1 = x at hU hxs
   generalize (unO (pUnfO s vs qa)).2 = is at hU
   refine ⟨_, hU, .inr (closed_wQueryT x is), .inr ?_⟩
   conv => whnf
   cases is with
   | false =>
    conv => whnf
    obtain ⟨vs', hvs'⟩ : ∃ vs' : List QueryW, vs' = vs := ⟨_, rfl⟩
    obtain ⟨q', hq'⟩ : ∃ q' : QueryW, q' = q := ⟨_, rfl⟩
    obtain ⟨j', hj'⟩ : ∃ j' : Nat, j' = q.1.length := ⟨_, rfl⟩
    obtain ⟨k', hk'⟩ : ∃ k' : Nat, k' = q.2.length := ⟨_, rfl⟩
    obtain ⟨n', hn'⟩ : ∃ n' : Nat, n' = vs.length := ⟨_, rfl⟩
    refine ⟨[(0,0),(2,0),(3,0),(4,0),(5,0),(6,0),(7,0)], [], sT16 s c5 vs' q' j' k' n', rgT15, by rw [hvs', hq', hj', hk', hn']; kernel_rfl, by kernel_rfl, ?_⟩
    have hpre : goodC c5 ∧ 1 ≤ vs'.length ∧ vs'.length ≤ 3 ∧ (∀ v ∈ vs', smQ v ∧ 1 ≤ v.1.length) ∧ smT4 q' ∧ j' = q'.1.length ∧ k' = q'.2.length ∧ n' = vs'.length := by rw [hvs', hq', hj', hk', hn']; exact ⟨h5, v1, v2, v3, hq4, rfl, rfl, rfl⟩
    clear hvs' hq' hj' hk' hn'
    exact hrest c5 vs' q' j' k' n' hpre
   | true =>
   conv => whnf
   refine .inl ?_
   conv => whnf
   refine ⟨_, _, takeN_all (by rw [rows_len ciL_len]), roVs_ci _, ?_⟩
   conv => whnf
   refine ⟨_, _, takeN_all (by rw [rows_len tAtom_len]), roVs_rows tAtom_ro _, ?_⟩
   conv => whnf
   refine ⟨_, specIsQuery_spec s x hss hxs, .inr trivial, .inl ?_⟩
   generalize hiq : isQuery s x = iq
   cases iq with
   | false =>
    conv => whnf
    obtain ⟨vs', hvs'⟩ : ∃ vs' : List QueryW, vs' = vs := ⟨_, rfl⟩
    obtain ⟨q', hq'⟩ : ∃ q' : QueryW, q' = q := ⟨_, rfl⟩
    obtain ⟨j', hj'⟩ : ∃ j' : Nat, j' = q.1.length := ⟨_, rfl⟩
    obtain ⟨k', hk'⟩ : ∃ k' : Nat, k' = q.2.length := ⟨_, rfl⟩
    obtain ⟨n', hn'⟩ : ∃ n' : Nat, n' = vs.length := ⟨_, rfl⟩
    refine ⟨[(0,0),(2,0),(3,0),(4,0),(5,0),(6,0),(7,0)], [], sT16 s c5 vs' q' j' k' n', rgT15, by rw [hvs', hq', hj', hk', hn']; kernel_rfl, by kernel_rfl, ?_⟩
    have hpre : goodC c5 ∧ 1 ≤ vs'.length ∧ vs'.length ≤ 3 ∧ (∀ v ∈ vs', smQ v ∧ 1 ≤ v.1.length) ∧ smT4 q' ∧ j' = q'.1.length ∧ k' = q'.2.length ∧ n' = vs'.length := by rw [hvs', hq', hj', hk', hn']; exact ⟨h5, v1, v2, v3, hq4, rfl, rfl, rfl⟩
    clear hvs' hq' hj' hk' hn'
    exact hrest c5 vs' q' j' k' n' hpre
   | true =>
    conv => whnf
    obtain ⟨vs', hvs'⟩ : ∃ vs' : List QueryW, vs' = vs := ⟨_, rfl⟩
    obtain ⟨q', hq'⟩ : ∃ q' : QueryW, q' = x := ⟨_, rfl⟩
    obtain ⟨j', hj'⟩ : ∃ j' : Nat, j' = x.1.length := ⟨_, rfl⟩
    obtain ⟨k', hk'⟩ : ∃ k' : Nat, k' = x.2.length := ⟨_, rfl⟩
    obtain ⟨n', hn'⟩ : ∃ n' : Nat, n' = vs.length := ⟨_, rfl⟩
    refine ⟨[(0,0),(2,0),(3,0),(4,0),(5,0),(6,0),(7,0)], [], sT16 s c5 vs' q' j' k' n', rgT15, by rw [hvs', hq', hj', hk', hn']; kernel_rfl, by kernel_rfl, ?_⟩
    have hpre : goodC c5 ∧ 1 ≤ vs'.length ∧ vs'.length ≤ 3 ∧ (∀ v ∈ vs', smQ v ∧ 1 ≤ v.1.length) ∧ smT4 q' ∧ j' = q'.1.length ∧ k' = q'.2.length ∧ n' = vs'.length := by rw [hvs', hq', hj', hk', hn']; exact ⟨h5, v1, v2, v3, (isQuery_4 hiq), rfl, rfl, rfl⟩
    clear hvs' hq' hj' hk' hn'
    exact hrest c5 vs' q' j' k' n' hpre
  | false =>
  conv => whnf
  generalize (v == 1) = b1
  cases b1 with
  | true =>
   conv => whnf
   refine ⟨[1001, 0, 1, 2, 3, 4, 5, 6, 7, 8, 9, 1000, 10, 1000, 11, 12], by kernel_rfl, ?_⟩
   conv => whnf
   refine .inl ?_
   conv => whnf
   refine ⟨_, _, takeN_all (by rw [rows_len tQuery_len]), roVs_rows tQuery_ro _, ?_⟩
   conv => whnf
   refine ⟨_, specViewSchema_spec vs hvz, .inr (closed_wSchema _), .inl ?_⟩
   rw [wSchema_ro]
   conv => whnf
   refine .inr (.inr ⟨[0], fun k => noSubT_lk (by kernel_rfl) k, rfl, ?_⟩)
   conv => whnf
   refine ⟨_, l4Query_s (pViewSchema vs) c4 (vsSc_ok v1 v2 v3) h4, fun r g2 hP => ?_⟩
   obtain ⟨qa, c5, rfl, hqa, h5, rfl⟩ := hP
   refine .inl ?_
   rw [wQuery_ro]
   conv => whnf
   refine .inl ?_
   conv => whnf
   refine ⟨_, _, takeN_all (by rw [rows_len tQuery_len]), roVs_rows tQuery_ro _, ?_⟩
   conv => whnf
   have hqas := qSm_size (smQ_sm hqa)
   have hss : cSchema s ≤ 1048576 := by show s.length ≤ _; omega
   have hU := specUnfoldQuery_spec s vs qa hss hvz hqas
   rw [wEq_unO] at hU
   have hxs : cQuery (unO (pUnfO s vs qa)).1 ≤ 1048576 := by
    cases hx : pUnfO s vs qa with
    | none => decide
    | some y =>
     have := pUnfO_bound hx
     show cQuery y ≤ _
     omega
   generalize (unO (pUnfO s vs qa)).1 = x at hU hxs
   generalize (unO (pUnfO s vs qa)).2 = is at hU
   refine ⟨_, hU, .inr (closed_wQueryT x is), .inr ?_⟩
   conv => whnf
   cases is with
   | false =>
    conv => whnf
    obtain ⟨vs', hvs'⟩ : ∃ vs' : List QueryW, vs' = vs := ⟨_, rfl⟩
    obtain ⟨q', hq'⟩ : ∃ q' : QueryW, q' = q := ⟨_, rfl⟩
    obtain ⟨j', hj'⟩ : ∃ j' : Nat, j' = q.1.length := ⟨_, rfl⟩
    obtain ⟨k', hk'⟩ : ∃ k' : Nat, k' = q.2.length := ⟨_, rfl⟩
    obtain ⟨n', hn'⟩ : ∃ n' : Nat, n' = vs.length := ⟨_, rfl⟩
    refine ⟨[(0,0),(2,0),(3,0),(4,0),(5,0),(6,0),(7,0)], [], sT16 s c5 vs' q' j' k' n', rgT15, by rw [hvs', hq', hj', hk', hn']; kernel_rfl, by kernel_rfl, ?_⟩
    have hpre : goodC c5 ∧ 1 ≤ vs'.length ∧ vs'.length ≤ 3 ∧ (∀ v ∈ vs', smQ v ∧ 1 ≤ v.1.length) ∧ smT4 q' ∧ j' = q'.1.length ∧ k' = q'.2.length ∧ n' = vs'.length := by rw [hvs', hq', hj', hk', hn']; exact ⟨h5, v1, v2, v3, hq4, rfl, rfl, rfl⟩
    clear hvs' hq' hj' hk' hn'
    exact hrest c5 vs' q' j' k' n' hpre
   | true =>
   conv => whnf
   refine .inl ?_
   conv => whnf
   refine ⟨_, _, takeN_all (by rw [rows_len ciL_len]), roVs_ci _, ?_⟩
   conv => whnf
   refine ⟨_, _, takeN_all (by rw [rows_len tAtom_len]), roVs_rows tAtom_ro _, ?_⟩
   conv => whnf
   refine ⟨_, specIsQuery_spec s x hss hxs, .inr trivial, .inl ?_⟩
   generalize hiq : isQuery s x = iq
   cases iq with
   | false =>
    conv => whnf
    obtain ⟨vs', hvs'⟩ : ∃ vs' : List QueryW, vs' = vs := ⟨_, rfl⟩
    obtain ⟨q', hq'⟩ : ∃ q' : QueryW, q' = q := ⟨_, rfl⟩
    obtain ⟨j', hj'⟩ : ∃ j' : Nat, j' = q.1.length := ⟨_, rfl⟩
    obtain ⟨k', hk'⟩ : ∃ k' : Nat, k' = q.2.length := ⟨_, rfl⟩
    obtain ⟨n', hn'⟩ : ∃ n' : Nat, n' = vs.length := ⟨_, rfl⟩
    refine ⟨[(0,0),(2,0),(3,0),(4,0),(5,0),(6,0),(7,0)], [], sT16 s c5 vs' q' j' k' n', rgT15, by rw [hvs', hq', hj', hk', hn']; kernel_rfl, by kernel_rfl, ?_⟩
    have hpre : goodC c5 ∧ 1 ≤ vs'.length ∧ vs'.length ≤ 3 ∧ (∀ v ∈ vs', smQ v ∧ 1 ≤ v.1.length) ∧ smT4 q' ∧ j' = q'.1.length ∧ k' = q'.2.length ∧ n' = vs'.length := by rw [hvs', hq', hj', hk', hn']; exact ⟨h5, v1, v2, v3, hq4, rfl, rfl, rfl⟩
    clear hvs' hq' hj' hk' hn'
    exact hrest c5 vs' q' j' k' n' hpre
   | true =>
    conv => whnf
    obtain ⟨vs', hvs'⟩ : ∃ vs' : List QueryW, vs' = vs := ⟨_, rfl⟩
    obtain ⟨q', hq'⟩ : ∃ q' : QueryW, q' = x := ⟨_, rfl⟩
    obtain ⟨j', hj'⟩ : ∃ j' : Nat, j' = x.1.length := ⟨_, rfl⟩
    obtain ⟨k', hk'⟩ : ∃ k' : Nat, k' = x.2.length := ⟨_, rfl⟩
    obtain ⟨n', hn'⟩ : ∃ n' : Nat, n' = vs.length := ⟨_, rfl⟩
    refine ⟨[(0,0),(2,0),(3,0),(4,0),(5,0),(6,0),(7,0)], [], sT16 s c5 vs' q' j' k' n', rgT15, by rw [hvs', hq', hj', hk', hn']; kernel_rfl, by kernel_rfl, ?_⟩
    have hpre : goodC c5 ∧ 1 ≤ vs'.length ∧ vs'.length ≤ 3 ∧ (∀ v ∈ vs', smQ v ∧ 1 ≤ v.1.length) ∧ smT4 q' ∧ j' = q'.1.length ∧ k' = q'.2.length ∧ n' = vs'.length := by rw [hvs', hq', hj', hk', hn']; exact ⟨h5, v1, v2, v3, (isQuery_4 hiq), rfl, rfl, rfl⟩
    clear hvs' hq' hj' hk' hn'
    exact hrest c5 vs' q' j' k' n' hpre
  | false =>
  conv => whnf
  generalize (v == 2) = b2
  cases b2 with
  | false =>
   conv => whnf
   obtain ⟨vs', hvs'⟩ : ∃ vs' : List QueryW, vs' = vs := ⟨_, rfl⟩
   obtain ⟨q', hq'⟩ : ∃ q' : QueryW, q' = q := ⟨_, rfl⟩
   obtain ⟨j', hj'⟩ : ∃ j' : Nat, j' = q.1.length := ⟨_, rfl⟩
   obtain ⟨k', hk'⟩ : ∃ k' : Nat, k' = q.2.length := ⟨_, rfl⟩
   obtain ⟨n', hn'⟩ : ∃ n' : Nat, n' = vs.length := ⟨_, rfl⟩
   refine ⟨[(0,0),(2,0),(3,0),(4,0),(5,0),(6,0),(7,0)], [], sT16 s c4 vs' q' j' k' n', rgT15, by rw [hvs', hq', hj', hk', hn']; kernel_rfl, by kernel_rfl, ?_⟩
   have hpre : goodC c4 ∧ 1 ≤ vs'.length ∧ vs'.length ≤ 3 ∧ (∀ v ∈ vs', smQ v ∧ 1 ≤ v.1.length) ∧ smT4 q' ∧ j' = q'.1.length ∧ k' = q'.2.length ∧ n' = vs'.length := by rw [hvs', hq', hj', hk', hn']; exact ⟨h4, v1, v2, v3, hq4, rfl, rfl, rfl⟩
   clear hvs' hq' hj' hk' hn'
   exact hrest c4 vs' q' j' k' n' hpre
  | true =>
  conv => whnf
  refine .inl ?_
  conv => whnf
  refine ⟨_, _, takeN_all (by rw [rows_len ciL_len]), roVs_ci _, ?_⟩
  conv => whnf
  refine ⟨_, _, takeN_all (by rw [rows_len tAtom_len]), roVs_rows tAtom_ro _, ?_⟩
  conv => whnf
  refine ⟨_, l4Copy_spec q (qSm_size (smQ_sm hq)), .inr (closed_wQ q), .inr ?_⟩
  conv => whnf
  generalize hz : ((q.1.length : Int) == 0) = z
  cases z with
  | false =>
   conv => whnf
   refine ⟨⟨by omega, by show (0 : Int) < (vs.length : Int); omega⟩, ?_⟩
   conv => whnf
   refine ⟨_, takeN_own (f := tQuery) (k := 0) (d := 0) (m := 2) (xs := vs) (r := tQuery (vs[0]'(by omega))) tQuery_len rfl (by omega) (by omega) rfl, ?_⟩
   conv => whnf
   refine ⟨by rw [rows_len ciL_len], by rw [rows_len tAtom_len], ?_⟩
   conv => whnf
   refine ⟨by rw [rows_len tQuery_len]; show 0 + 0 * 2 + 2 ≤ _; omega, _, set0_tQ q (by omega), ?_⟩
   conv => whnf
   obtain ⟨vs', hvs'⟩ : ∃ vs' : List QueryW, vs' = vs.set 0 q := ⟨_, rfl⟩
   obtain ⟨q', hq'⟩ : ∃ q' : QueryW, q' = q := ⟨_, rfl⟩
   obtain ⟨j', hj'⟩ : ∃ j' : Nat, j' = (q : QueryW).1.length := ⟨_, rfl⟩
   obtain ⟨k', hk'⟩ : ∃ k' : Nat, k' = (q : QueryW).2.length := ⟨_, rfl⟩
   obtain ⟨n', hn'⟩ : ∃ n' : Nat, n' = vs.length := ⟨_, rfl⟩
   refine ⟨[(0,0),(2,0),(3,0),(4,0),(5,0),(6,0),(7,0)], [], sT16 s c4 vs' q' j' k' n', rgT15, by rw [hvs', hq', hj', hk', hn']; kernel_rfl, by kernel_rfl, ?_⟩
   have hpre : goodC c4 ∧ 1 ≤ vs'.length ∧ vs'.length ≤ 3 ∧ (∀ v ∈ vs', smQ v ∧ 1 ≤ v.1.length) ∧ smT4 q' ∧ j' = q'.1.length ∧ k' = q'.2.length ∧ n' = vs'.length := by
    rw [hvs', hq', hj', hk', hn', List.length_set]
    exact ⟨h4, v1, v2, set0_sm v3 ⟨hq, by have : ¬ (q.1.length : Int) = 0 := (by simpa using hz); omega⟩, hq4, rfl, rfl, rfl⟩
   clear hvs' hq' hj' hk' hn'
   exact hrest c4 vs' q' j' k' n' hpre
  | true =>
   have hz' : q.1.length = 0 := by
    have : (q.1.length : Int) = 0 := by simpa using hz
    omega
   obtain ⟨q1, q2, q3, q4, q5⟩ := hq
   obtain ⟨qh, qb⟩ := q
   obtain rfl : qh = [] := List.length_eq_zero_iff.1 hz'
   cases qb with
   | nil => simp at q3
   | cons a0 ar =>
   obtain ⟨r0, ah⟩ := a0
   have ha := q5 (r0, ah) (by simp)
   cases ah with
   | nil => have := ha.1; simp at this
   | cons t0 tr =>
   conv => whnf
   refine ⟨List.range 13, by kernel_rfl, ?_⟩
   conv => whnf
   refine ⟨⟨by omega, by show (0 : Int) < ((ar.length + 1 : Nat) : Int); omega⟩, ?_⟩
   conv => whnf
   refine ⟨_, takeN_own (f := tAtom) (k := 0) (d := 1) (m := 1) (xs := (r0, t0 :: tr) :: ar) (r := [intsT (t0 :: tr)]) tAtom_len rfl (by simp) (by omega) rfl, ?_⟩
   conv => whnf
   refine ⟨(t0 :: tr).length, rows ciL (t0 :: tr), rfl, ⟨by omega, by show (0 : Int) < ((tr.length + 1 : Nat) : Int); omega⟩, ?_⟩
   conv => whnf
   refine ⟨_, _, _, [ci t0], rfl, rfl, flat1 rfl, ?_⟩
   conv => whnf
   refine ⟨_, rfl, .inl ⟨flat1 rfl, ?_⟩⟩
   conv => whnf
   refine ⟨by show 0 + 1 ≤ _; omega, rfl, _, (show rows ciL [] ++ [ci t0] = rows ciL [t0] from rfl), ?_⟩
   conv => whnf
   refine ⟨⟨by omega, by show (0 : Int) < (vs.length : Int); omega⟩, ?_⟩
   conv => whnf
   refine ⟨_, takeN_own (f := tQuery) (k := 0) (d := 0) (m := 2) (xs := vs) (r := tQuery (vs[0]'(by omega))) tQuery_len rfl (by omega) (by omega) rfl, ?_⟩
   conv => whnf
   refine ⟨rfl, by rw [rows_len tAtom_len], ?_⟩
   conv => whnf
   refine ⟨by rw [rows_len tQuery_len]; show 0 + 0 * 2 + 2 ≤ _; omega, _, set0_tQ ([t0], (r0, t0 :: tr) :: ar) (by omega), ?_⟩
   conv => whnf
   obtain ⟨vs', hvs'⟩ : ∃ vs' : List QueryW, vs' = vs.set 0 ([t0], (r0, t0 :: tr) :: ar) := ⟨_, rfl⟩
   obtain ⟨q', hq'⟩ : ∃ q' : QueryW, q' = ([], (r0, t0 :: tr) :: ar) := ⟨_, rfl⟩
   obtain ⟨j', hj'⟩ : ∃ j' : Nat, j' = (([], (r0, t0 :: tr) :: ar) : QueryW).1.length := ⟨_, rfl⟩
   obtain ⟨k', hk'⟩ : ∃ k' : Nat, k' = (([], (r0, t0 :: tr) :: ar) : QueryW).2.length := ⟨_, rfl⟩
   obtain ⟨n', hn'⟩ : ∃ n' : Nat, n' = vs.length := ⟨_, rfl⟩
   refine ⟨[(0,0),(2,0),(3,0),(4,0),(5,0),(6,0),(7,0)], [], sT16 s c4 vs' q' j' k' n', rgT15, by rw [hvs', hq', hj', hk', hn']; kernel_rfl, by kernel_rfl, ?_⟩
   have hpre : goodC c4 ∧ 1 ≤ vs'.length ∧ vs'.length ≤ 3 ∧ (∀ v ∈ vs', smQ v ∧ 1 ≤ v.1.length) ∧ smT4 q' ∧ j' = q'.1.length ∧ k' = q'.2.length ∧ n' = vs'.length := by
    rw [hvs', hq', hj', hk', hn', List.length_set]
    exact ⟨h4, v1, v2, set0_sm v3 ⟨⟨by simp, fun t ht => by rw [List.mem_singleton.1 ht]; exact ha.2.2 t0 (by simp), q3, q4, q5⟩, by simp⟩, hq4, rfl, rfl, rfl⟩
   clear hvs' hq' hj' hk' hn'
   exact hrest c4 vs' q' j' k' n' hpre
 case hx =>
  rintro c vs q j k n ⟨hc, v1, v2, v3, hq4, hj, hk, hn⟩
  have hvs : okVs vs := ⟨by omega, fun v hv => ⟨smQ_sm (v3 v hv).1, .inr (v3 v hv).1⟩⟩
  conv => whnf
  refine .inr (.inl ?_)
  conv => whnf
  refine ⟨curC_ne c, ?_⟩
  conv => whnf
  refine ⟨_, _, _, l1Once_spec c 14 hc (by omega), ?_⟩
  conv => whnf
  refine .inl ?_
  have h4 := belowP_good hc 14
  generalize (belowP c 14).2 = c4 at h4 ⊢
  generalize ((belowP c 14).1 == 0) = o
  cases o with
  | false =>
   conv => whnf
   refine ⟨[2001, 0, 1, 2, 3, 4, 5], by kernel_rfl, ?_⟩
   conv => whnf
   refine ⟨rfl, ?_⟩
   conv => whnf
   refine ⟨[], ?_⟩
   conv => whnf
   refine ⟨by rw [rows_len tQuery_len, hn], by rw [rows_len ciL_len, hj], by rw [rows_len tAtom_len, hk], ?_⟩
   exact ⟨s, vs, q, c4, by rw [hj, hk, hn]; rfl, by omega, hvs, hq4, h4, rfl⟩
  | true =>
   conv => whnf
   refine .inr (.inr ⟨[0], [], ?_⟩)
   conv => whnf
   refine ⟨_, l15Any_g s c4 hs h4, fun r g2 hP => ?_⟩
   obtain ⟨vs2, c5, rfl, hvs2, h5, rfl⟩ := hP
   refine .inr ?_
   conv => whnf
   refine ⟨[2001, 0, 1, 2, 3, 4, 5], by kernel_rfl, ?_⟩
   conv => whnf
   refine ⟨rfl, ?_⟩
   conv => whnf
   refine ⟨[], ?_⟩
   conv => whnf
   refine ⟨by rw [rows_len tQuery_len], by rw [rows_len ciL_len, hj], by rw [rows_len tAtom_len, hk], ?_⟩
   exact ⟨s, vs2, q, c5, by rw [hj, hk]; rfl, by omega, hvs2, hq4, h5, rfl⟩
end Go.Proofs.YtboolngaahifdaaGreatD
