/- Contracts and plain laws of this seat; no condition. -/
import Derived.Test.YtboolngaahifdaaGreatQ18
set_option linter.unusedVariables false
set_option linter.unusedSimpArgs false
set_option maxRecDepth 100000
namespace Go.Proofs.YtboolngaahifdaaGreatD
open Go Go.Proofs
def sV (b : Bnd) : List Int := (sB b).take 20
def a1V (outs new : List (List Int)) (g2 : List (Option Obj)) : Prop :=
 (new = [] ∧ g2 = [some ⟨true, [.own 1 1 0 outs.length outs.length none]⟩, some ⟨false, aB tL outs⟩]) ∨
 (g2 = [some ⟨true, [.own 2 1 0 (outs ++ new).length (outs ++ new).length none]⟩, none, some ⟨false, aB tL (outs ++ new)⟩])
set_option maxHeartbeats 8000000 in
theorem GX (q : cI) (db : List aG) (hq : aC q ≤ 1048576) (hd : d6 db ≤ 1048576) (ht : ∀ a ∈ q.2, a.2.all aU = true) : ∀ (n i : Nat), i + n = q.2.length → ∀ (b : Bnd) (outs : List (List Int)), outs.length + db.length ^ n ≤ 1099511627776 →
  SpecG Tryz.prog 152 [aP q, c7 db, ci i, aW (sB b), .ptr 0 0] [some ⟨true, [.own 1 1 0 outs.length outs.length none]⟩, some ⟨false, aB tL outs⟩] fun r g2 =>
   r = .tup [] ∧ a1V outs ((c8 db (q.2.drop i) b).map sV) g2 := by
 unfold aC dW at hq
 unfold d6 at hd
 intro n
 induction n with
 | zero =>
  intro i hin b outs ho
  refine cU mx aJ 2 Tryz.func152 rfl rfl (by decide) ?_
  conv => whnf
  generalize hc : ((i : Int) == (q.2.length : Int)) = c
  have hct : c = true := by rw [← hc]; simp; omega
  subst hct
  conv => whnf
  refine ⟨[0, 1, 2, 3, 5, 6, 4, 7, 8, 9, 10, 11], by kernel_rfl, ?_⟩
  conv => whnf
  have hl40 : ((sB b).length : Int) = 40 := by rw [wN]; rfl
  refine ⟨by omega, a6 a7 _, aB ciL (sV b), by kernel_rfl, ?_⟩
  conv => whnf
  refine ⟨rfl, f5 _, ?_⟩
  conv => whnf
  refine ⟨by omega, rfl, _, jO [] (sV b), ?_⟩
  conv => whnf
  refine ⟨rfl, ?_⟩
  conv => whnf
  refine ⟨_, rfl, .inr ⟨gJ (sV b), ?_⟩⟩
  conv => whnf
  refine ⟨by simp at ho; omega, by rw [a6 dN], _, bQ tL _ (sV b), ?_⟩
  conv => whnf
  refine ⟨[], ?_⟩
  conv => whnf
  refine ⟨rfl, .inr ?_⟩
  rw [List.drop_eq_nil_of_le (by omega)]
  simp only [c8, List.map_cons, List.map_nil, List.length_append, List.length_singleton]
 | succ n ih =>
  intro i hin b outs ho
  refine cU mx aJ 2 Tryz.func152 rfl rfl (by decide) ?_
  conv => whnf
  generalize hc : ((i : Int) == (q.2.length : Int)) = c
  have hct : c = false := by rw [← hc]; simp; omega
  subst hct
  conv => whnf
  have hil : i < q.2.length := by omega
  refine ⟨[(1,0),(2,0),(3,0),(4,0),(5,0),(10,0)], fun m s => ∃ (k : Nat) (e : Int) (new : List (List Int)), e = k ∧ m + k = db.length ∧ new.length ≤ k * db.length ^ n ∧
   ((c8 db (q.2.drop i) b).map sV) = new ++ (((db.drop k).flatMap fun f => if (mch b q.2[i] f).2 then c8 db (q.2.drop (i + 1)) (mch b q.2[i] f).1 else []).map sV) ∧
   ((new = [] ∧ s = ⟨87, [(1, c7 db), (2, ci i), (3, aW (sB b)), (4, .ptr 0 0), (5, .ptr 2 0), (10, ci e)], [some ⟨true, [.own 1 1 0 outs.length outs.length none]⟩, some ⟨false, aB tL outs⟩, some ⟨true, aO q⟩]⟩) ∨
    (s = ⟨87, [(1, c7 db), (2, ci i), (3, aW (sB b)), (4, .ptr 0 0), (5, .ptr 2 0), (10, ci e)], [some ⟨true, [.own 3 1 0 (outs ++ new).length (outs ++ new).length none]⟩, none, some ⟨true, aO q⟩, some ⟨false, aB tL (outs ++ new)⟩]⟩)), db.length, ⟨0, 0, [], rfl, rfl, by simp, ?_, .inl ⟨rfl, by kernel_rfl⟩⟩, ?_⟩
  ·rw [List.drop_eq_getElem_cons hil, c8]
   rfl
  rintro m s ⟨k, _, new, rfl, hm, hnl, hj, hs⟩
  rcases hs with ⟨rfl, rfl⟩ | rfl
  ·conv => whnf
   split <;> rename_i h1
   all_goals simp only [decide_eq_true_eq, decide_eq_false_iff_not] at h1
   ·conv => whnf
    have hk : k < db.length := by omega
    have hb1 := bH (f := b9) hil
    have hcb1 : b9 q.2[i] = q.2[i].2.length := rfl
    have hb2 := bH (f := eF) hk
    have hcb2 : eF db[k] = db[k].2.length := rfl
    have hta := ht _ (List.getElem_mem hil)
    have hwi : IntKind.i64.wrap ((i : Int) + 1) = ((i + 1 : Nat) : Int) := by rw [a8 (by omega) (by omega)]; omega
    have hpw : db.length ^ (n + 1) = db.length ^ n * db.length := Nat.pow_succ ..
    have hkm : db.length ^ n * (k + 1) ≤ db.length ^ n * db.length := Nat.mul_le_mul_left _ hk
    have hk1 : db.length ^ n * (k + 1) = k * db.length ^ n + db.length ^ n := by rw [Nat.mul_add, Nat.mul_one, Nat.mul_comm]
    have hk2 : (k + 1) * db.length ^ n = k * db.length ^ n + db.length ^ n := by rw [Nat.add_mul, Nat.one_mul]
    rw [List.drop_eq_getElem_cons hk, List.flatMap_cons, List.map_append, ← List.append_assoc] at hj
    refine ⟨List.range 28, by kernel_rfl, ?_⟩
    conv => whnf
    refine ⟨by omega, a6 aS _, ?_⟩
    conv => whnf
    refine ⟨_, aR (k := k) (d := 0) (m := 1) (r := [ci db[k].1]) aS hk (by omega) rfl, ?_⟩
    conv => whnf
    refine ⟨by omega, a6 aA _, ?_⟩
    conv => whnf
    refine ⟨_, aR (k := i) (d := 0) (m := 1) (r := [ci q.2[i].1]) aA hil (by omega) rfl, ?_⟩
    conv => whnf
    generalize hc1 : (db[k].1 != q.2[i].1) = c1
    cases c1 with
    | true =>
     have h2 : ¬ q.2[i].1 = db[k].1 := fun h => by rw [h] at hc1; simp at hc1
     have hno : mch b q.2[i] db[k] = (b, false) := by rw [mch, if_neg (fun h => h2 h.1)]
     rw [hno] at hj
     simp only [Bool.false_eq_true, if_false, List.map_nil, List.append_nil] at hj
     conv => whnf
     exact ⟨m - 1, by omega, k + 1, _, [], a8 (by omega) (by omega), by omega, by simp, hj, .inl ⟨rfl, by kernel_rfl⟩⟩
    | false =>
    have h2 : q.2[i].1 = db[k].1 := by have : db[k].1 = q.2[i].1 := (by simpa using hc1); exact this.symm
    conv => whnf
    refine ⟨by omega, a6 aS _, ?_⟩
    conv => whnf
    refine ⟨_, aR (k := k) (d := 1) (m := 1) (r := [aW db[k].2]) aS hk (by omega) rfl, ?_⟩
    conv => whnf
    refine ⟨by omega, a6 aA _, ?_⟩
    conv => whnf
    refine ⟨_, aR (k := i) (d := 1) (m := 1) (r := [aW q.2[i].2]) aA hil (by omega) rfl, ?_⟩
    conv => whnf
    generalize hc2 : ((db[k].2.length : Int) != (q.2[i].2.length : Int)) = c2
    cases c2 with
    | true =>
     have h3 : ¬ q.2[i].2.length = db[k].2.length := fun h => by rw [h] at hc2; simp at hc2
     have hno : mch b q.2[i] db[k] = (b, false) := by rw [mch, if_neg (fun h => h3 h.2)]
     rw [hno] at hj
     simp only [Bool.false_eq_true, if_false, List.map_nil, List.append_nil] at hj
     conv => whnf
     exact ⟨m - 1, by omega, k + 1, _, [], a8 (by omega) (by omega), by omega, by simp, hj, .inl ⟨rfl, by kernel_rfl⟩⟩
    | false =>
    have h3 : q.2[i].2.length = db[k].2.length := by
     have : (db[k].2.length : Int) = q.2[i].2.length := by simpa using hc2
     omega
    have hyes : mch b q.2[i] db[k] = cQ q.2[i].2 db[k].2 b := by rw [mch, if_pos ⟨h2, h3⟩]
    rw [hyes] at hj
    conv => whnf
    refine ⟨List.range 18, by kernel_rfl, ?_⟩
    conv => whnf
    refine ⟨by omega, a6 aA _, ?_⟩
    conv => whnf
    refine ⟨_, aR (k := i) (d := 1) (m := 1) (r := [aW q.2[i].2]) aA hil (by omega) rfl, ?_⟩
    conv => whnf
    refine ⟨by omega, a6 aS _, ?_⟩
    conv => whnf
    refine ⟨_, aR (k := k) (d := 1) (m := 1) (r := [aW db[k].2]) aS hk (by omega) rfl, ?_⟩
    conv => whnf
    refine ⟨_, BE q.2[i].2 db[k].2 b (by omega) h3 hta, .inl rfl, .inl ?_⟩
    conv => whnf
    rw [cK]
    generalize hmc : cQ q.2[i].2 db[k].2 b = mb at hj
    obtain ⟨b2, ok⟩ := mb
    cases ok with
    | false =>
     conv => whnf
     simp only [Bool.false_eq_true, if_false, List.map_nil, List.append_nil] at hj
     exact ⟨m - 1, by omega, k + 1, _, [], a8 (by omega) (by omega), by omega, by simp, hj, .inl ⟨rfl, by kernel_rfl⟩⟩
    | true =>
     conv => whnf
     simp only [if_true] at hj
     rw [hwi]
     refine .inr (.inr ⟨[0, 1], [], ?_⟩)
     conv => whnf
     refine ⟨_, ih (i + 1) (by omega) b2 outs (by omega), fun r g2 hP => ?_⟩
     obtain ⟨rfl, hv⟩ := hP
     have hvl := iG db (q.2.drop (i + 1)) b2
     rw [List.length_drop, show q.2.length - (i + 1) = n from by omega] at hvl
     rcases hv with ⟨hn0, rfl⟩ | rfl
     ·refine .inl ?_
      conv => whnf
      rw [hn0, List.append_nil] at hj
      exact ⟨m - 1, by omega, k + 1, _, [], a8 (by omega) (by omega), by omega, by simp, hj, .inl ⟨rfl, by kernel_rfl⟩⟩
     ·refine .inl ?_
      conv => whnf
      refine ⟨m - 1, by omega, k + 1, _, [] ++ (c8 db (q.2.drop (i + 1)) b2).map sV, a8 (by omega) (by omega), by omega, ?_, hj, .inr ?_⟩
      ·simp only [List.length_append, List.length_map, List.length_nil] at hnl ⊢
       omega
      ·kernel_rfl
   ·conv => whnf
    rw [bG (xs := db) (by omega)] at hj
    simp only [List.flatMap_nil, List.map_nil, List.append_nil] at hj
    refine ⟨[], ?_⟩
    conv => whnf
    exact ⟨rfl, .inl ⟨hj, rfl⟩⟩
  ·conv => whnf
   split <;> rename_i h1
   all_goals simp only [decide_eq_true_eq, decide_eq_false_iff_not] at h1
   ·conv => whnf
    have hk : k < db.length := by omega
    have hb1 := bH (f := b9) hil
    have hcb1 : b9 q.2[i] = q.2[i].2.length := rfl
    have hb2 := bH (f := eF) hk
    have hcb2 : eF db[k] = db[k].2.length := rfl
    have hta := ht _ (List.getElem_mem hil)
    have hwi : IntKind.i64.wrap ((i : Int) + 1) = ((i + 1 : Nat) : Int) := by rw [a8 (by omega) (by omega)]; omega
    have hpw : db.length ^ (n + 1) = db.length ^ n * db.length := Nat.pow_succ ..
    have hkm : db.length ^ n * (k + 1) ≤ db.length ^ n * db.length := Nat.mul_le_mul_left _ hk
    have hk1 : db.length ^ n * (k + 1) = k * db.length ^ n + db.length ^ n := by rw [Nat.mul_add, Nat.mul_one, Nat.mul_comm]
    have hk2 : (k + 1) * db.length ^ n = k * db.length ^ n + db.length ^ n := by rw [Nat.add_mul, Nat.one_mul]
    rw [List.drop_eq_getElem_cons hk, List.flatMap_cons, List.map_append, ← List.append_assoc] at hj
    refine ⟨List.range 28, by kernel_rfl, ?_⟩
    conv => whnf
    refine ⟨by omega, a6 aS _, ?_⟩
    conv => whnf
    refine ⟨_, aR (k := k) (d := 0) (m := 1) (r := [ci db[k].1]) aS hk (by omega) rfl, ?_⟩
    conv => whnf
    refine ⟨by omega, a6 aA _, ?_⟩
    conv => whnf
    refine ⟨_, aR (k := i) (d := 0) (m := 1) (r := [ci q.2[i].1]) aA hil (by omega) rfl, ?_⟩
    conv => whnf
    generalize hc1 : (db[k].1 != q.2[i].1) = c1
    cases c1 with
    | true =>
     have h2 : ¬ q.2[i].1 = db[k].1 := fun h => by rw [h] at hc1; simp at hc1
     have hno : mch b q.2[i] db[k] = (b, false) := by rw [mch, if_neg (fun h => h2 h.1)]
     rw [hno] at hj
     simp only [Bool.false_eq_true, if_false, List.map_nil, List.append_nil] at hj
     conv => whnf
     exact ⟨m - 1, by omega, k + 1, _, new, a8 (by omega) (by omega), by omega, by omega, hj, .inr (by kernel_rfl)⟩
    | false =>
    have h2 : q.2[i].1 = db[k].1 := by have : db[k].1 = q.2[i].1 := (by simpa using hc1); exact this.symm
    conv => whnf
    refine ⟨by omega, a6 aS _, ?_⟩
    conv => whnf
    refine ⟨_, aR (k := k) (d := 1) (m := 1) (r := [aW db[k].2]) aS hk (by omega) rfl, ?_⟩
    conv => whnf
    refine ⟨by omega, a6 aA _, ?_⟩
    conv => whnf
    refine ⟨_, aR (k := i) (d := 1) (m := 1) (r := [aW q.2[i].2]) aA hil (by omega) rfl, ?_⟩
    conv => whnf
    generalize hc2 : ((db[k].2.length : Int) != (q.2[i].2.length : Int)) = c2
    cases c2 with
    | true =>
     have h3 : ¬ q.2[i].2.length = db[k].2.length := fun h => by rw [h] at hc2; simp at hc2
     have hno : mch b q.2[i] db[k] = (b, false) := by rw [mch, if_neg (fun h => h3 h.2)]
     rw [hno] at hj
     simp only [Bool.false_eq_true, if_false, List.map_nil, List.append_nil] at hj
     conv => whnf
     exact ⟨m - 1, by omega, k + 1, _, new, a8 (by omega) (by omega), by omega, by omega, hj, .inr (by kernel_rfl)⟩
    | false =>
    have h3 : q.2[i].2.length = db[k].2.length := by
     have : (db[k].2.length : Int) = q.2[i].2.length := by simpa using hc2
     omega
    have hyes : mch b q.2[i] db[k] = cQ q.2[i].2 db[k].2 b := by rw [mch, if_pos ⟨h2, h3⟩]
    rw [hyes] at hj
    conv => whnf
    refine ⟨List.range 18, by kernel_rfl, ?_⟩
    conv => whnf
    refine ⟨by omega, a6 aA _, ?_⟩
    conv => whnf
    refine ⟨_, aR (k := i) (d := 1) (m := 1) (r := [aW q.2[i].2]) aA hil (by omega) rfl, ?_⟩
    conv => whnf
    refine ⟨by omega, a6 aS _, ?_⟩
    conv => whnf
    refine ⟨_, aR (k := k) (d := 1) (m := 1) (r := [aW db[k].2]) aS hk (by omega) rfl, ?_⟩
    conv => whnf
    refine ⟨_, BE q.2[i].2 db[k].2 b (by omega) h3 hta, .inl rfl, .inl ?_⟩
    conv => whnf
    rw [cK]
    generalize hmc : cQ q.2[i].2 db[k].2 b = mb at hj
    obtain ⟨b2, ok⟩ := mb
    cases ok with
    | false =>
     conv => whnf
     simp only [Bool.false_eq_true, if_false, List.map_nil, List.append_nil] at hj
     exact ⟨m - 1, by omega, k + 1, _, new, a8 (by omega) (by omega), by omega, by omega, hj, .inr (by kernel_rfl)⟩
    | true =>
     conv => whnf
     simp only [if_true] at hj
     rw [hwi]
     refine .inr (.inr ⟨[0, 3], [], ?_⟩)
     conv => whnf
     refine ⟨_, ih (i + 1) (by omega) b2 (outs ++ new) (by rw [List.length_append]; omega), fun r g2 hP => ?_⟩
     obtain ⟨rfl, hv⟩ := hP
     have hvl := iG db (q.2.drop (i + 1)) b2
     rw [List.length_drop, show q.2.length - (i + 1) = n from by omega] at hvl
     rcases hv with ⟨hn0, rfl⟩ | rfl
     ·refine .inl ?_
      conv => whnf
      rw [hn0, List.append_nil] at hj
      exact ⟨m - 1, by omega, k + 1, _, new, a8 (by omega) (by omega), by omega, by omega, hj, .inr (by kernel_rfl)⟩
     ·refine .inl ?_
      conv => whnf
      refine ⟨m - 1, by omega, k + 1, _, new ++ (c8 db (q.2.drop (i + 1)) b2).map sV, a8 (by omega) (by omega), by omega, ?_, hj, .inr ?_⟩
      ·simp only [List.length_append, List.length_map, List.length_nil] at hnl ⊢
       omega
      ·rw [← List.append_assoc]; kernel_rfl
   ·conv => whnf
    rw [bG (xs := db) (by omega)] at hj
    simp only [List.flatMap_nil, List.map_nil, List.append_nil] at hj
    refine ⟨[], ?_⟩
    conv => whnf
    rw [hj]
    exact ⟨rfl, .inr rfl⟩
theorem uC : ∀ (ts vs : List Int) (b b2 : Bnd), ts.length = vs.length → cQ ts vs b = (b2, true) → (∀ k u, b k = some u → b2 k = some u) ∧ ∀ t ∈ ts, 0 ≤ t → (b2 t.toNat).isSome = true
 | [], vs, b, b2, _, h => by
  have : b = b2 := by cases vs <;> simpa [cQ] using h
  subst this
  exact ⟨fun _ _ h => h, fun t ht => by cases ht⟩
 | t :: ts, [], b, b2, hl, _ => by simp at hl
 | t :: ts, v :: vs, b, b2, hl, h => by
  have hl' : ts.length = vs.length := by simpa using hl
  simp only [cQ] at h
  split at h
  ·rename_i h0
   split at h
   ·obtain ⟨i1, i2⟩ := uC ts vs b b2 hl' h
    refine ⟨i1, fun x hx h1 => ?_⟩
    rcases List.mem_cons.1 hx with rfl | hx
    ·omega
    ·exact i2 x hx h1
   ·cases h
  ·rename_i h0
   split at h
   ·rename_i hn
    obtain ⟨i1, i2⟩ := uC ts vs _ b2 hl' h
    refine ⟨fun k u hk => i1 k u ?_, fun x hx h1 => ?_⟩
    ·by_cases e : k = t.toNat
     ·subst e; rw [hn] at hk; cases hk
     ·rw [JO e]; exact hk
    ·rcases List.mem_cons.1 hx with rfl | hx
     ·rw [i1 x.toNat v (zD _ _ _)]; rfl
     ·exact i2 x hx h1
   ·rename_i u hu
    split at h
    ·obtain ⟨i1, i2⟩ := uC ts vs b b2 hl' h
     refine ⟨i1, fun x hx h1 => ?_⟩
     rcases List.mem_cons.1 hx with rfl | hx
     ·rw [i1 _ _ hu]; rfl
     ·exact i2 x hx h1
    ·cases h
theorem a2D {b b2 : Bnd} {a f : aG} (h : mch b a f = (b2, true)) : (∀ k u, b k = some u → b2 k = some u) ∧ ∀ t ∈ a.2, 0 ≤ t → (b2 t.toNat).isSome = true := by
 unfold mch at h
 split at h
 ·rename_i h0
  exact uC a.2 f.2 b b2 h0.2 h
 ·cases h
theorem JD (db : List aG) : ∀ (body : List aG) (b b2 : Bnd), b2 ∈ c8 db body b → (∀ k u, b k = some u → b2 k = some u) ∧ ∀ a ∈ body, ∀ t ∈ a.2, 0 ≤ t → (b2 t.toNat).isSome = true
 | [], b, b2, h => by
  have : b2 = b := by simpa [c8] using h
  subst this
  exact ⟨fun _ _ h => h, fun a ha => by cases ha⟩
 | a :: body, b, b2, h => by
  simp only [c8, List.mem_flatMap] at h
  obtain ⟨f, _, h⟩ := h
  split at h
  ·rename_i hm
   obtain ⟨m1, m2⟩ := a2D (b := b) (b2 := (mch b a f).1) (a := a) (f := f) (Prod.ext rfl hm)
   obtain ⟨i1, i2⟩ := JD db body _ b2 h
   refine ⟨fun k u hk => i1 k u (m1 k u hk), fun x hx t ht h0 => ?_⟩
   rcases List.mem_cons.1 hx with rfl | hx
   ·have := m2 t ht h0
    cases hc : (mch b x f).1 t.toNat with
    | none => rw [hc] at this; cases this
    | some u => rw [i1 _ _ hc]; rfl
   ·exact i2 x hx t ht h0
  ·cases h
theorem TG (b : Bnd) {k : Nat} (hk : k < 20) : (sV b).getD k 0 = (b k).getD (-1) := by
 have h1 := OT b k
 rw [if_pos hk] at h1
 unfold sV
 rw [List.getD_eq_getElem?_getD, List.getElem?_take, if_pos hk, h1]
 rfl
theorem Z0 (b : Bnd) (t : Int) (ht : aU t = true) (hb : 0 ≤ t → (b t.toNat).isSome = true) : tS (sV b) t = vS b t := by
 have hr : -80 ≤ t ∧ t ≤ 19 := by simpa [aU, inR] using ht
 unfold tS vS
 by_cases h0 : t < 0
 ·rw [if_pos h0, if_neg (by simp [b8, inR]; omega)]
  unfold jI
  rw [if_pos (by simp [inR]; omega)]
 ·rw [if_neg h0, if_pos (by simp [b8, inR]; omega), TG b (by omega)]
  have := hb (by omega)
  unfold ba
  cases hc : b t.toNat with
  | none => rw [hc] at this; cases this
  | some u => rfl
end Go.Proofs.YtboolngaahifdaaGreatD
