/- Contracts and plain laws of this seat; no condition. -/
import Derived.Test.YtboolngaahifdaaGreatQ17
set_option linter.unusedVariables false
set_option linter.unusedSimpArgs false
set_option maxRecDepth 100000
namespace Go.Proofs.YtboolngaahifdaaGreatD
open Go Go.Proofs
set_option maxHeartbeats 1000000 in
theorem l6Empty_spec : Spec Tryz.prog 153 [] (intsT (sB bNone)) := by
 refine Spec_of mx Γ_ok Tryz.func153 rfl ?_
 conv => whnf
 refine ⟨[(0,0),(1,0),(2,0)], fun m s => ∃ (k : Nat) (e : Int) (n : Nat) (r : List V), e = k ∧ m + k = 20 ∧ n = k ∧ r = rows ciL (List.replicate k (-1)) ∧
  s = ⟨20, [(0, cnil), (1, .own 0 1 0 n n none), (2, ci e)], [some ⟨false, r⟩]⟩, 20, ⟨0, 0, 0, _, rfl, rfl, rfl, rfl, rfl⟩, ?_⟩
 rintro m s ⟨k, _, n, _, rfl, hm, rfl, rfl, rfl⟩
 conv => whnf
 split <;> rename_i h1
 all_goals simp only [decide_eq_true_eq, decide_eq_false_iff_not] at h1
 ·conv => whnf
  refine ⟨_, rfl, .inl ⟨flat1 rfl, ?_⟩⟩
  conv => whnf
  refine ⟨by omega, by rw [rows_len ciL_len, List.length_replicate], _, snoc_ci _ _, ?_⟩
  conv => whnf
  exact ⟨m - 1, by omega, n + 1, _, n + 1, _, wrap_id (by omega) (by omega), by omega, rfl, by rw [List.replicate_succ'], rfl⟩
 ·conv => whnf
  have hn : n = 20 := by omega
  subst hn
  refine ⟨[(0,0),(1,0),(3,0)], fun m s => ∃ (k : Nat) (e : Int) (n : Nat) (r : List V), e = k ∧ m + k = 20 ∧ n = 20 + k ∧ r = rows ciL (List.replicate 20 (-1) ++ List.replicate k 0) ∧
   s = ⟨20, [(0, cnil), (1, .own 0 1 0 n n none), (3, ci e)], [some ⟨false, r⟩]⟩, 20, ⟨0, 0, 20, _, rfl, rfl, rfl, by rw [List.replicate_zero, List.append_nil], rfl⟩, ?_⟩
  rintro m s ⟨k, _, n, _, rfl, hm, rfl, rfl, rfl⟩
  conv => whnf
  split <;> rename_i h1
  all_goals simp only [decide_eq_true_eq, decide_eq_false_iff_not] at h1
  ·conv => whnf
   refine ⟨_, rfl, .inl ⟨flat1 rfl, ?_⟩⟩
   conv => whnf
   refine ⟨by omega, by rw [rows_len ciL_len, List.length_append, List.length_replicate, List.length_replicate], _, snoc_ci _ _, ?_⟩
   conv => whnf
   exact ⟨m - 1, by omega, k + 1, _, 20 + (k + 1), _, wrap_id (by omega) (by omega), by omega, rfl, by rw [show List.replicate (k + 1) (0 : Int) = List.replicate k 0 ++ [0] from List.replicate_succ', List.append_assoc], rfl⟩
  ·conv => whnf
   have hk : k = 20 := by omega
   subst hk
   refine ⟨by rw [rows_len ciL_len, List.length_append, List.length_replicate, List.length_replicate], ?_⟩
   rfl
def tS (v : List Int) (t : Int) : Int := if t < 0 then -1 - t else v.getD t.toNat 0
theorem l6Tuple_spec (xs v : List Int) (h : xs.length ≤ 1099511627776) (hv : v.length = 20) (ht : xs.all isTerm = true) : Spec Tryz.prog 158 [ints xs, ints v] (intsT (xs.map (tS v))) := by
 refine Spec_of mx Γ_ok Tryz.func158 rfl ?_
 conv => whnf
 refine ⟨[(0,0),(1,0),(4,0),(5,0),(6,0)], fun m s => ∃ (k : Nat) (e : Int) (n : Nat) (r : List V), e = k ∧ m + k = xs.length ∧ n = k ∧ r = rows ciL ((xs.take k).map (tS v)) ∧
  s = ⟨38, [(0, ints xs), (1, ints v), (4, cnil), (5, .own 0 1 0 n n none), (6, ci e)], [some ⟨false, r⟩]⟩, xs.length, ⟨0, 0, 0, _, rfl, rfl, rfl, rfl, rfl⟩, ?_⟩
 rintro m s ⟨k, _, n, _, rfl, hm, rfl, rfl, rfl⟩
 conv => whnf
 split <;> rename_i h1
 all_goals simp only [decide_eq_true_eq, decide_eq_false_iff_not] at h1
 ·conv => whnf
  have hk : n < xs.length := by omega
  have hr : -80 ≤ xs[n] ∧ xs[n] ≤ 19 := by simpa [isTerm, inR] using fz_all_at ht hk
  refine ⟨by omega, rows_len ciL_len xs, ?_⟩
  conv => whnf
  refine ⟨_, takeN_rp (k := n) ciL_len hk, ?_⟩
  conv => whnf
  generalize hc1 : decide (xs[n] < 0) = c1
  cases c1 with
  | true =>
   have h2 : xs[n] < 0 := of_decide_eq_true hc1
   have hts : tS v xs[n] = IntKind.i64.wrap (-1 - xs[n]) := by rw [wrap_id (by omega) (by omega), tS, if_pos h2]
   conv => whnf
   refine ⟨by omega, rows_len ciL_len xs, ?_⟩
   conv => whnf
   refine ⟨_, takeN_rp (k := n) ciL_len hk, ?_⟩
   conv => whnf
   refine ⟨_, rfl, .inl ⟨flat1 rfl, ?_⟩⟩
   conv => whnf
   refine ⟨by omega, by rw [rows_len ciL_len, List.length_map, List.length_take]; congr 1; omega, _, snoc_ci _ _, ?_⟩
   conv => whnf
   refine ⟨m - 1, by omega, n + 1, _, _, _, wrap_id (by omega) (by omega), by omega, rfl, ?_, rfl⟩
   rw [List.take_succ_eq_append_getElem hk, List.map_append, List.map_singleton, hts]
  | false =>
   have h2 : ¬ xs[n] < 0 := of_decide_eq_false hc1
   obtain ⟨j, hjj⟩ : ∃ j : Nat, xs[n] = j := ⟨xs[n].toNat, by omega⟩
   have hj : j < v.length := by omega
   have hts : tS v xs[n] = v[j] := by rw [tS, if_neg h2, hjj, Int.toNat_natCast, getD_at hj]
   conv => whnf
   refine ⟨by omega, rows_len ciL_len xs, ?_⟩
   conv => whnf
   refine ⟨_, takeN_rp (k := n) ciL_len hk, ?_⟩
   rw [hjj]
   conv => whnf
   refine ⟨by omega, rows_len ciL_len v, ?_⟩
   conv => whnf
   refine ⟨_, takeN_rp (k := j) ciL_len hj, ?_⟩
   conv => whnf
   refine ⟨_, rfl, .inl ⟨flat1 rfl, ?_⟩⟩
   conv => whnf
   refine ⟨by omega, by rw [rows_len ciL_len, List.length_map, List.length_take]; congr 1; omega, _, snoc_ci _ _, ?_⟩
   conv => whnf
   refine ⟨m - 1, by omega, n + 1, _, _, _, wrap_id (by omega) (by omega), by omega, rfl, ?_, rfl⟩
   rw [List.take_succ_eq_append_getElem hk, List.map_append, List.map_singleton, hts]
 ·conv => whnf
  have hkk : n = xs.length := by omega
  subst hkk
  rw [List.take_length]
  refine ⟨by rw [rows_len ciL_len, List.length_map], ?_⟩
  show V.tr 1 xs.length _ = intsT _
  rw [intsT, List.length_map]
def rL (xs : List Int) : List V := [ints xs]
theorem rL_len (xs : List Int) : (rL xs).length = 1 := rfl
theorem tL_ro' (xs : List Int) : roVs (tL xs) = rL xs := by
 show [roV (intsT xs)] = _
 rw [tL_ro]; rfl
def vLists (xs : List (List Int)) : V := .ro xs.length (rows rL xs)
theorem wLists_ro (xs : List (List Int)) : roV (wLists xs) = vLists xs := by
 show V.ro _ (roVs _) = _
 rw [roVs_rows tL_ro']; rfl
set_option maxHeartbeats 1000000 in
theorem l6Heads_spec (q : QueryE) (l : List (List Int)) (hq : cQuery q ≤ 1048576) (hl : l.length ≤ 1099511627776) (hv : ∀ v ∈ l, v.length = 20) (ht : q.1.all isTerm = true) : Spec Tryz.prog 76 [vQuery q, vLists l] (wLists (l.map fun v => q.1.map (tS v))) := by
 unfold cQuery at hq
 refine Spec_of mx Γ_ok Tryz.func76 rfl ?_
 conv => whnf
 refine ⟨[(1,0),(2,0),(4,0),(5,0),(6,0)], fun m s => ∃ (k : Nat) (e : Int) (n : Nat) (r : List V), e = k ∧ m + k = l.length ∧ n = k ∧ r = rows tL ((l.take k).map fun v => q.1.map (tS v)) ∧
  s = ⟨25, [(1, vLists l), (2, .ptr 0 0), (4, cnil), (5, .own 1 1 0 n n none), (6, ci e)], [some ⟨true, rQuery q⟩, some ⟨false, r⟩]⟩, l.length, ⟨0, 0, 0, _, rfl, rfl, rfl, rfl, rfl⟩, ?_⟩
 rintro m s ⟨k, _, n, _, rfl, hm, rfl, rfl, rfl⟩
 conv => whnf
 split <;> rename_i h1
 all_goals simp only [decide_eq_true_eq, decide_eq_false_iff_not] at h1
 ·conv => whnf
  have hk : n < l.length := by omega
  refine ⟨List.range 11, by kernel_rfl, ?_⟩
  conv => whnf
  refine ⟨by omega, rows_len rL_len _, ?_⟩
  conv => whnf
  refine ⟨_, takeN_rp (k := n) rL_len hk, ?_⟩
  conv => whnf
  refine ⟨_, l6Tuple_spec q.1 l[n] (by omega) (hv _ (List.getElem_mem hk)) ht, .inl rfl, .inr ?_⟩
  conv => whnf
  refine ⟨by rw [rows_len ciL_len], ?_⟩
  conv => whnf
  refine ⟨_, rfl, .inr ⟨solid_tL (q.1.map (tS l[n])), ?_⟩⟩
  conv => whnf
  refine ⟨by omega, by rw [rows_len tL_len, List.length_map, List.length_take]; congr 1; omega, _, snoc_rows tL _ (q.1.map (tS l[n])), ?_⟩
  conv => whnf
  refine ⟨m - 1, by omega, n + 1, _, _, _, wrap_id (by omega) (by omega), by omega, rfl, ?_, rfl⟩
  rw [List.take_succ_eq_append_getElem hk, List.map_append, List.map_singleton]
 ·conv => whnf
  have hkk : n = l.length := by omega
  subst hkk
  rw [List.take_length]
  refine ⟨by rw [rows_len tL_len, List.length_map], ?_⟩
  show V.tr 1 l.length _ = wLists _
  rw [wLists, List.length_map]
def sV (b : Bnd) : List Int := (sB b).take 20
def SeaOut (outs new : List (List Int)) (g2 : List (Option Obj)) : Prop :=
 (new = [] ∧ g2 = [some ⟨true, [.own 1 1 0 outs.length outs.length none]⟩, some ⟨false, rows tL outs⟩]) ∨
 (g2 = [some ⟨true, [.own 2 1 0 (outs ++ new).length (outs ++ new).length none]⟩, none, some ⟨false, rows tL (outs ++ new)⟩])
set_option maxHeartbeats 8000000 in
theorem l6Search_spec (q : QueryE) (db : List FactC) (hq : cQuery q ≤ 1048576) (hd : cFactS db ≤ 1048576) (ht : ∀ a ∈ q.2, a.2.all isTerm = true) : ∀ (n i : Nat), i + n = q.2.length → ∀ (b : Bnd) (outs : List (List Int)), outs.length + db.length ^ n ≤ 1099511627776 →
  SpecG Tryz.prog 152 [vQuery q, vFactS db, ci i, ints (sB b), .ptr 0 0] [some ⟨true, [.own 1 1 0 outs.length outs.length none]⟩, some ⟨false, rows tL outs⟩] fun r g2 =>
   r = .tup [] ∧ SeaOut outs ((visitL db (q.2.drop i) b).map sV) g2 := by
 unfold cQuery cAtomS at hq
 unfold cFactS at hd
 intro n
 induction n with
 | zero =>
  intro i hin b outs ho
  refine SpecG_of mx Γ_ok 2 Tryz.func152 rfl rfl (by decide) ?_
  conv => whnf
  generalize hc : ((i : Int) == (q.2.length : Int)) = c
  have hct : c = true := by rw [← hc]; simp; omega
  subst hct
  conv => whnf
  refine ⟨[0, 1, 2, 3, 5, 6, 4, 7, 8, 9, 10, 11], by kernel_rfl, ?_⟩
  conv => whnf
  have hl40 : ((sB b).length : Int) = 40 := by rw [sB_len]; rfl
  refine ⟨by omega, rows_len ciL_len _, rows ciL (sV b), by kernel_rfl, ?_⟩
  conv => whnf
  refine ⟨rfl, solid_ci _, ?_⟩
  conv => whnf
  refine ⟨by omega, rfl, _, app_ci [] (sV b), ?_⟩
  conv => whnf
  refine ⟨rfl, ?_⟩
  conv => whnf
  refine ⟨_, rfl, .inr ⟨solid_tL (sV b), ?_⟩⟩
  conv => whnf
  refine ⟨by simp at ho; omega, by rw [rows_len tL_len], _, snoc_rows tL _ (sV b), ?_⟩
  conv => whnf
  refine ⟨[], ?_⟩
  conv => whnf
  refine ⟨rfl, .inr ?_⟩
  rw [List.drop_eq_nil_of_le (by omega)]
  simp only [visitL, List.map_cons, List.map_nil, List.length_append, List.length_singleton]
 | succ n ih =>
  intro i hin b outs ho
  refine SpecG_of mx Γ_ok 2 Tryz.func152 rfl rfl (by decide) ?_
  conv => whnf
  generalize hc : ((i : Int) == (q.2.length : Int)) = c
  have hct : c = false := by rw [← hc]; simp; omega
  subst hct
  conv => whnf
  have hil : i < q.2.length := by omega
  refine ⟨[(1,0),(2,0),(3,0),(4,0),(5,0),(10,0)], fun m s => ∃ (k : Nat) (e : Int) (new : List (List Int)), e = k ∧ m + k = db.length ∧ new.length ≤ k * db.length ^ n ∧
   ((visitL db (q.2.drop i) b).map sV) = new ++ (((db.drop k).flatMap fun f => if (mch b q.2[i] f).2 then visitL db (q.2.drop (i + 1)) (mch b q.2[i] f).1 else []).map sV) ∧
   ((new = [] ∧ s = ⟨87, [(1, vFactS db), (2, ci i), (3, ints (sB b)), (4, .ptr 0 0), (5, .ptr 2 0), (10, ci e)], [some ⟨true, [.own 1 1 0 outs.length outs.length none]⟩, some ⟨false, rows tL outs⟩, some ⟨true, rQuery q⟩]⟩) ∨
    (s = ⟨87, [(1, vFactS db), (2, ci i), (3, ints (sB b)), (4, .ptr 0 0), (5, .ptr 2 0), (10, ci e)], [some ⟨true, [.own 3 1 0 (outs ++ new).length (outs ++ new).length none]⟩, none, some ⟨true, rQuery q⟩, some ⟨false, rows tL (outs ++ new)⟩]⟩)), db.length, ⟨0, 0, [], rfl, rfl, by simp, ?_, .inl ⟨rfl, by kernel_rfl⟩⟩, ?_⟩
  ·rw [List.drop_eq_getElem_cons hil, visitL]
   rfl
  rintro m s ⟨k, _, new, rfl, hm, hnl, hj, hs⟩
  rcases hs with ⟨rfl, rfl⟩ | rfl
  ·conv => whnf
   split <;> rename_i h1
   all_goals simp only [decide_eq_true_eq, decide_eq_false_iff_not] at h1
   ·conv => whnf
    have hk : k < db.length := by omega
    have hb1 := sumB_one (f := cAtom) hil
    have hcb1 : cAtom q.2[i] = q.2[i].2.length := rfl
    have hb2 := sumB_one (f := cFact) hk
    have hcb2 : cFact db[k] = db[k].2.length := rfl
    have hta := ht _ (List.getElem_mem hil)
    have hwi : IntKind.i64.wrap ((i : Int) + 1) = ((i + 1 : Nat) : Int) := by rw [wrap_id (by omega) (by omega)]; omega
    have hpw : db.length ^ (n + 1) = db.length ^ n * db.length := Nat.pow_succ ..
    have hkm : db.length ^ n * (k + 1) ≤ db.length ^ n * db.length := Nat.mul_le_mul_left _ hk
    have hk1 : db.length ^ n * (k + 1) = k * db.length ^ n + db.length ^ n := by rw [Nat.mul_add, Nat.mul_one, Nat.mul_comm]
    have hk2 : (k + 1) * db.length ^ n = k * db.length ^ n + db.length ^ n := by rw [Nat.add_mul, Nat.one_mul]
    rw [List.drop_eq_getElem_cons hk, List.flatMap_cons, List.map_append, ← List.append_assoc] at hj
    refine ⟨List.range 28, by kernel_rfl, ?_⟩
    conv => whnf
    refine ⟨by omega, rows_len rFact_len _, ?_⟩
    conv => whnf
    refine ⟨_, takeN_rp_field (k := k) (d := 0) (m := 1) (r := [ci db[k].1]) rFact_len hk (by omega) rfl, ?_⟩
    conv => whnf
    refine ⟨by omega, rows_len rAtom_len _, ?_⟩
    conv => whnf
    refine ⟨_, takeN_rp_field (k := i) (d := 0) (m := 1) (r := [ci q.2[i].1]) rAtom_len hil (by omega) rfl, ?_⟩
    conv => whnf
    generalize hc1 : (db[k].1 != q.2[i].1) = c1
    cases c1 with
    | true =>
     have h2 : ¬ q.2[i].1 = db[k].1 := fun h => by rw [h] at hc1; simp at hc1
     have hno : mch b q.2[i] db[k] = (b, false) := by rw [mch, if_neg (fun h => h2 h.1)]
     rw [hno] at hj
     simp only [Bool.false_eq_true, if_false, List.map_nil, List.append_nil] at hj
     conv => whnf
     exact ⟨m - 1, by omega, k + 1, _, [], wrap_id (by omega) (by omega), by omega, by simp, hj, .inl ⟨rfl, by kernel_rfl⟩⟩
    | false =>
    have h2 : q.2[i].1 = db[k].1 := by have : db[k].1 = q.2[i].1 := (by simpa using hc1); exact this.symm
    conv => whnf
    refine ⟨by omega, rows_len rFact_len _, ?_⟩
    conv => whnf
    refine ⟨_, takeN_rp_field (k := k) (d := 1) (m := 1) (r := [ints db[k].2]) rFact_len hk (by omega) rfl, ?_⟩
    conv => whnf
    refine ⟨by omega, rows_len rAtom_len _, ?_⟩
    conv => whnf
    refine ⟨_, takeN_rp_field (k := i) (d := 1) (m := 1) (r := [ints q.2[i].2]) rAtom_len hil (by omega) rfl, ?_⟩
    conv => whnf
    generalize hc2 : ((db[k].2.length : Int) != (q.2[i].2.length : Int)) = c2
    cases c2 with
    | true =>
     have h3 : ¬ q.2[i].2.length = db[k].2.length := fun h => by rw [h] at hc2; simp at hc2
     have hno : mch b q.2[i] db[k] = (b, false) := by rw [mch, if_neg (fun h => h3 h.2)]
     rw [hno] at hj
     simp only [Bool.false_eq_true, if_false, List.map_nil, List.append_nil] at hj
     conv => whnf
     exact ⟨m - 1, by omega, k + 1, _, [], wrap_id (by omega) (by omega), by omega, by simp, hj, .inl ⟨rfl, by kernel_rfl⟩⟩
    | false =>
    have h3 : q.2[i].2.length = db[k].2.length := by
     have : (db[k].2.length : Int) = q.2[i].2.length := by simpa using hc2
     omega
    have hyes : mch b q.2[i] db[k] = bindGo q.2[i].2 db[k].2 b := by rw [mch, if_pos ⟨h2, h3⟩]
    rw [hyes] at hj
    conv => whnf
    refine ⟨List.range 18, by kernel_rfl, ?_⟩
    conv => whnf
    refine ⟨by omega, rows_len rAtom_len _, ?_⟩
    conv => whnf
    refine ⟨_, takeN_rp_field (k := i) (d := 1) (m := 1) (r := [ints q.2[i].2]) rAtom_len hil (by omega) rfl, ?_⟩
    conv => whnf
    refine ⟨by omega, rows_len rFact_len _, ?_⟩
    conv => whnf
    refine ⟨_, takeN_rp_field (k := k) (d := 1) (m := 1) (r := [ints db[k].2]) rFact_len hk (by omega) rfl, ?_⟩
    conv => whnf
    refine ⟨_, l6Bind_spec q.2[i].2 db[k].2 b (by omega) h3 hta, .inl rfl, .inl ?_⟩
    conv => whnf
    rw [roVs_ci]
    generalize hmc : bindGo q.2[i].2 db[k].2 b = mb at hj
    obtain ⟨b2, ok⟩ := mb
    cases ok with
    | false =>
     conv => whnf
     simp only [Bool.false_eq_true, if_false, List.map_nil, List.append_nil] at hj
     exact ⟨m - 1, by omega, k + 1, _, [], wrap_id (by omega) (by omega), by omega, by simp, hj, .inl ⟨rfl, by kernel_rfl⟩⟩
    | true =>
     conv => whnf
     simp only [if_true] at hj
     rw [hwi]
     refine .inr (.inr ⟨[0, 1], [], ?_⟩)
     conv => whnf
     refine ⟨_, ih (i + 1) (by omega) b2 outs (by omega), fun r g2 hP => ?_⟩
     obtain ⟨rfl, hv⟩ := hP
     have hvl := visitL_len db (q.2.drop (i + 1)) b2
     rw [List.length_drop, show q.2.length - (i + 1) = n from by omega] at hvl
     rcases hv with ⟨hn0, rfl⟩ | rfl
     ·refine .inl ?_
      conv => whnf
      rw [hn0, List.append_nil] at hj
      exact ⟨m - 1, by omega, k + 1, _, [], wrap_id (by omega) (by omega), by omega, by simp, hj, .inl ⟨rfl, by kernel_rfl⟩⟩
     ·refine .inl ?_
      conv => whnf
      refine ⟨m - 1, by omega, k + 1, _, [] ++ (visitL db (q.2.drop (i + 1)) b2).map sV, wrap_id (by omega) (by omega), by omega, ?_, hj, .inr ?_⟩
      ·simp only [List.length_append, List.length_map, List.length_nil] at hnl ⊢
       omega
      ·kernel_rfl
   ·conv => whnf
    rw [drop_end (xs := db) (by omega)] at hj
    simp only [List.flatMap_nil, List.map_nil, List.append_nil] at hj
    refine ⟨[], ?_⟩
    conv => whnf
    exact ⟨rfl, .inl ⟨hj, rfl⟩⟩
  ·conv => whnf
   split <;> rename_i h1
   all_goals simp only [decide_eq_true_eq, decide_eq_false_iff_not] at h1
   ·conv => whnf
    have hk : k < db.length := by omega
    have hb1 := sumB_one (f := cAtom) hil
    have hcb1 : cAtom q.2[i] = q.2[i].2.length := rfl
    have hb2 := sumB_one (f := cFact) hk
    have hcb2 : cFact db[k] = db[k].2.length := rfl
    have hta := ht _ (List.getElem_mem hil)
    have hwi : IntKind.i64.wrap ((i : Int) + 1) = ((i + 1 : Nat) : Int) := by rw [wrap_id (by omega) (by omega)]; omega
    have hpw : db.length ^ (n + 1) = db.length ^ n * db.length := Nat.pow_succ ..
    have hkm : db.length ^ n * (k + 1) ≤ db.length ^ n * db.length := Nat.mul_le_mul_left _ hk
    have hk1 : db.length ^ n * (k + 1) = k * db.length ^ n + db.length ^ n := by rw [Nat.mul_add, Nat.mul_one, Nat.mul_comm]
    have hk2 : (k + 1) * db.length ^ n = k * db.length ^ n + db.length ^ n := by rw [Nat.add_mul, Nat.one_mul]
    rw [List.drop_eq_getElem_cons hk, List.flatMap_cons, List.map_append, ← List.append_assoc] at hj
    refine ⟨List.range 28, by kernel_rfl, ?_⟩
    conv => whnf
    refine ⟨by omega, rows_len rFact_len _, ?_⟩
    conv => whnf
    refine ⟨_, takeN_rp_field (k := k) (d := 0) (m := 1) (r := [ci db[k].1]) rFact_len hk (by omega) rfl, ?_⟩
    conv => whnf
    refine ⟨by omega, rows_len rAtom_len _, ?_⟩
    conv => whnf
    refine ⟨_, takeN_rp_field (k := i) (d := 0) (m := 1) (r := [ci q.2[i].1]) rAtom_len hil (by omega) rfl, ?_⟩
    conv => whnf
    generalize hc1 : (db[k].1 != q.2[i].1) = c1
    cases c1 with
    | true =>
     have h2 : ¬ q.2[i].1 = db[k].1 := fun h => by rw [h] at hc1; simp at hc1
     have hno : mch b q.2[i] db[k] = (b, false) := by rw [mch, if_neg (fun h => h2 h.1)]
     rw [hno] at hj
     simp only [Bool.false_eq_true, if_false, List.map_nil, List.append_nil] at hj
     conv => whnf
     exact ⟨m - 1, by omega, k + 1, _, new, wrap_id (by omega) (by omega), by omega, by omega, hj, .inr (by kernel_rfl)⟩
    | false =>
    have h2 : q.2[i].1 = db[k].1 := by have : db[k].1 = q.2[i].1 := (by simpa using hc1); exact this.symm
    conv => whnf
    refine ⟨by omega, rows_len rFact_len _, ?_⟩
    conv => whnf
    refine ⟨_, takeN_rp_field (k := k) (d := 1) (m := 1) (r := [ints db[k].2]) rFact_len hk (by omega) rfl, ?_⟩
    conv => whnf
    refine ⟨by omega, rows_len rAtom_len _, ?_⟩
    conv => whnf
    refine ⟨_, takeN_rp_field (k := i) (d := 1) (m := 1) (r := [ints q.2[i].2]) rAtom_len hil (by omega) rfl, ?_⟩
    conv => whnf
    generalize hc2 : ((db[k].2.length : Int) != (q.2[i].2.length : Int)) = c2
    cases c2 with
    | true =>
     have h3 : ¬ q.2[i].2.length = db[k].2.length := fun h => by rw [h] at hc2; simp at hc2
     have hno : mch b q.2[i] db[k] = (b, false) := by rw [mch, if_neg (fun h => h3 h.2)]
     rw [hno] at hj
     simp only [Bool.false_eq_true, if_false, List.map_nil, List.append_nil] at hj
     conv => whnf
     exact ⟨m - 1, by omega, k + 1, _, new, wrap_id (by omega) (by omega), by omega, by omega, hj, .inr (by kernel_rfl)⟩
    | false =>
    have h3 : q.2[i].2.length = db[k].2.length := by
     have : (db[k].2.length : Int) = q.2[i].2.length := by simpa using hc2
     omega
    have hyes : mch b q.2[i] db[k] = bindGo q.2[i].2 db[k].2 b := by rw [mch, if_pos ⟨h2, h3⟩]
    rw [hyes] at hj
    conv => whnf
    refine ⟨List.range 18, by kernel_rfl, ?_⟩
    conv => whnf
    refine ⟨by omega, rows_len rAtom_len _, ?_⟩
    conv => whnf
    refine ⟨_, takeN_rp_field (k := i) (d := 1) (m := 1) (r := [ints q.2[i].2]) rAtom_len hil (by omega) rfl, ?_⟩
    conv => whnf
    refine ⟨by omega, rows_len rFact_len _, ?_⟩
    conv => whnf
    refine ⟨_, takeN_rp_field (k := k) (d := 1) (m := 1) (r := [ints db[k].2]) rFact_len hk (by omega) rfl, ?_⟩
    conv => whnf
    refine ⟨_, l6Bind_spec q.2[i].2 db[k].2 b (by omega) h3 hta, .inl rfl, .inl ?_⟩
    conv => whnf
    rw [roVs_ci]
    generalize hmc : bindGo q.2[i].2 db[k].2 b = mb at hj
    obtain ⟨b2, ok⟩ := mb
    cases ok with
    | false =>
     conv => whnf
     simp only [Bool.false_eq_true, if_false, List.map_nil, List.append_nil] at hj
     exact ⟨m - 1, by omega, k + 1, _, new, wrap_id (by omega) (by omega), by omega, by omega, hj, .inr (by kernel_rfl)⟩
    | true =>
     conv => whnf
     simp only [if_true] at hj
     rw [hwi]
     refine .inr (.inr ⟨[0, 3], [], ?_⟩)
     conv => whnf
     refine ⟨_, ih (i + 1) (by omega) b2 (outs ++ new) (by rw [List.length_append]; omega), fun r g2 hP => ?_⟩
     obtain ⟨rfl, hv⟩ := hP
     have hvl := visitL_len db (q.2.drop (i + 1)) b2
     rw [List.length_drop, show q.2.length - (i + 1) = n from by omega] at hvl
     rcases hv with ⟨hn0, rfl⟩ | rfl
     ·refine .inl ?_
      conv => whnf
      rw [hn0, List.append_nil] at hj
      exact ⟨m - 1, by omega, k + 1, _, new, wrap_id (by omega) (by omega), by omega, by omega, hj, .inr (by kernel_rfl)⟩
     ·refine .inl ?_
      conv => whnf
      refine ⟨m - 1, by omega, k + 1, _, new ++ (visitL db (q.2.drop (i + 1)) b2).map sV, wrap_id (by omega) (by omega), by omega, ?_, hj, .inr ?_⟩
      ·simp only [List.length_append, List.length_map, List.length_nil] at hnl ⊢
       omega
      ·rw [← List.append_assoc]; kernel_rfl
   ·conv => whnf
    rw [drop_end (xs := db) (by omega)] at hj
    simp only [List.flatMap_nil, List.map_nil, List.append_nil] at hj
    refine ⟨[], ?_⟩
    conv => whnf
    rw [hj]
    exact ⟨rfl, .inr rfl⟩
theorem bindGo_ok : ∀ (ts vs : List Int) (b b2 : Bnd), ts.length = vs.length → bindGo ts vs b = (b2, true) → (∀ k u, b k = some u → b2 k = some u) ∧ ∀ t ∈ ts, 0 ≤ t → (b2 t.toNat).isSome = true
 | [], vs, b, b2, _, h => by
  have : b = b2 := by cases vs <;> simpa [bindGo] using h
  subst this
  exact ⟨fun _ _ h => h, fun t ht => by cases ht⟩
 | t :: ts, [], b, b2, hl, _ => by simp at hl
 | t :: ts, v :: vs, b, b2, hl, h => by
  have hl' : ts.length = vs.length := by simpa using hl
  simp only [bindGo] at h
  split at h
  ·rename_i h0
   split at h
   ·obtain ⟨i1, i2⟩ := bindGo_ok ts vs b b2 hl' h
    refine ⟨i1, fun x hx h1 => ?_⟩
    rcases List.mem_cons.1 hx with rfl | hx
    ·omega
    ·exact i2 x hx h1
   ·cases h
  ·rename_i h0
   split at h
   ·rename_i hn
    obtain ⟨i1, i2⟩ := bindGo_ok ts vs _ b2 hl' h
    refine ⟨fun k u hk => i1 k u ?_, fun x hx h1 => ?_⟩
    ·by_cases e : k = t.toNat
     ·subst e; rw [hn] at hk; cases hk
     ·rw [bset_ne e]; exact hk
    ·rcases List.mem_cons.1 hx with rfl | hx
     ·rw [i1 x.toNat v (bset_same _ _ _)]; rfl
     ·exact i2 x hx h1
   ·rename_i u hu
    split at h
    ·obtain ⟨i1, i2⟩ := bindGo_ok ts vs b b2 hl' h
     refine ⟨i1, fun x hx h1 => ?_⟩
     rcases List.mem_cons.1 hx with rfl | hx
     ·rw [i1 _ _ hu]; rfl
     ·exact i2 x hx h1
    ·cases h
theorem mch_ok {b b2 : Bnd} {a f : FactC} (h : mch b a f = (b2, true)) : (∀ k u, b k = some u → b2 k = some u) ∧ ∀ t ∈ a.2, 0 ≤ t → (b2 t.toNat).isSome = true := by
 unfold mch at h
 split at h
 ·rename_i h0
  exact bindGo_ok a.2 f.2 b b2 h0.2 h
 ·cases h
theorem visitL_ok (db : List FactC) : ∀ (body : List FactC) (b b2 : Bnd), b2 ∈ visitL db body b → (∀ k u, b k = some u → b2 k = some u) ∧ ∀ a ∈ body, ∀ t ∈ a.2, 0 ≤ t → (b2 t.toNat).isSome = true
 | [], b, b2, h => by
  have : b2 = b := by simpa [visitL] using h
  subst this
  exact ⟨fun _ _ h => h, fun a ha => by cases ha⟩
 | a :: body, b, b2, h => by
  simp only [visitL, List.mem_flatMap] at h
  obtain ⟨f, _, h⟩ := h
  split at h
  ·rename_i hm
   obtain ⟨m1, m2⟩ := mch_ok (b := b) (b2 := (mch b a f).1) (a := a) (f := f) (Prod.ext rfl hm)
   obtain ⟨i1, i2⟩ := visitL_ok db body _ b2 h
   refine ⟨fun k u hk => i1 k u (m1 k u hk), fun x hx t ht h0 => ?_⟩
   rcases List.mem_cons.1 hx with rfl | hx
   ·have := m2 t ht h0
    cases hc : (mch b x f).1 t.toNat with
    | none => rw [hc] at this; cases this
    | some u => rw [i1 _ _ hc]; rfl
   ·exact i2 x hx t ht h0
  ·cases h
theorem sV_at (b : Bnd) {k : Nat} (hk : k < 20) : (sV b).getD k 0 = (b k).getD (-1) := by
 have h1 := sB_at b k
 rw [if_pos hk] at h1
 unfold sV
 rw [List.getD_eq_getElem?_getD, List.getElem?_take, if_pos hk, h1]
 rfl
theorem tS_valOf (b : Bnd) (t : Int) (ht : isTerm t = true) (hb : 0 ≤ t → (b t.toNat).isSome = true) : tS (sV b) t = valOf b t := by
 have hr : -80 ≤ t ∧ t ≤ 19 := by simpa [isTerm, inR] using ht
 unfold tS valOf
 by_cases h0 : t < 0
 ·rw [if_pos h0, if_neg (by simp [isVar, inR]; omega)]
  unfold constOf
  rw [if_pos (by simp [inR]; omega)]
 ·rw [if_neg h0, if_pos (by simp [isVar, inR]; omega), sV_at b (by omega)]
  have := hb (by omega)
  unfold ba
  cases hc : b t.toNat with
  | none => rw [hc] at this; cases this
  | some u => rfl
end Go.Proofs.YtboolngaahifdaaGreatD
