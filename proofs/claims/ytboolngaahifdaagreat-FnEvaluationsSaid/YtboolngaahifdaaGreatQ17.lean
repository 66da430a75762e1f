/- Contracts and plain laws of this seat; no condition. -/
import Derived.Test.YtboolngaahifdaaGreatQ16
import Derived.Test.YtboolngaahifdaaGreatQ15
set_option linter.unusedVariables false
set_option linter.unusedSimpArgs false
set_option maxRecDepth 100000
namespace Go.Proofs.YtboolngaahifdaaGreatD
open Go Go.Proofs
abbrev QueryE := List Int × List FactC
def tL (xs : List Int) : List V := [intsT xs]
theorem tL_len (xs : List Int) : (tL xs).length = 1 := rfl
theorem solid_tL (xs : List Int) : ∀ c ∈ tL xs, solid c = true := by
 intro c hc
 simp only [tL, List.mem_cons, List.not_mem_nil, or_false] at hc
 subst hc; rfl
theorem closed_intsT (xs : List Int) : closed (intsT xs) := closeds_rows (f := ciL) (fun x => ⟨trivial, trivial⟩) xs
theorem headsC_spec (b : Bnd) (q : QueryE) (outs : List (List Int)) (hq : cQuery q ≤ 1099511627776) (ho : outs.length < 1099511627776) :
  SpecG Tryz.prog 155 [.agg (bC b), .ptr 0 0, .ptr 2 0] [some ⟨true, [.own 1 1 0 outs.length outs.length none]⟩, some ⟨false, rows tL outs⟩, some ⟨true, rQuery q⟩] fun r g2 =>
   r = .tup [] ∧ g2 = [some ⟨true, [.own 3 1 0 (outs.length + 1) (outs.length + 1) none]⟩, none, some ⟨true, rQuery q⟩, some ⟨false, rows tL (outs ++ [tupOf b q.1])⟩] := by
 unfold cQuery at hq
 refine SpecG_of mx Γ_ok 3 Tryz.func155 rfl rfl (by decide) ?_
 conv => whnf
 refine ⟨[0, 1, 2, 3, 4, 5, 6], by kernel_rfl, ?_⟩
 conv => whnf
 refine ⟨_, rfl, ?_⟩
 conv => whnf
 refine ⟨_, tuple_spec b q.1 (by omega), .inr (closed_intsT _), .inr ?_⟩
 conv => whnf
 refine ⟨by rw [rows_len ciL_len, Nat.mul_one], ?_⟩
 conv => whnf
 refine ⟨_, rfl, .inr ⟨solid_tL (tupOf b q.1), ?_⟩⟩
 conv => whnf
 refine ⟨by omega, by rw [rows_len tL_len], _, snoc_rows tL _ (tupOf b q.1), ?_⟩
 conv => whnf
 refine ⟨[], ?_⟩
 conv => whnf
 exact ⟨rfl, rfl⟩
def visitL (db : List FactC) : List FactC → Bnd → List Bnd
 | [], b => [b]
 | a :: r, b => db.flatMap fun f => if (mch b a f).2 then visitL db r (mch b a f).1 else []
theorem visitL_len (db : List FactC) : ∀ (body : List FactC) (b : Bnd), (visitL db body b).length ≤ db.length ^ body.length
 | [], b => by simp [visitL]
 | a :: r, b => by
  have ih := visitL_len db r
  simp only [visitL, List.length_cons, Nat.pow_succ]
  have : ∀ l : List FactC, (l.flatMap fun f => if (mch b a f).2 then visitL db r (mch b a f).1 else []).length ≤ db.length ^ r.length * l.length := by
   intro l
   induction l with
   | nil => simp
   | cons f l il =>
    rw [List.flatMap_cons, List.length_append, List.length_cons, Nat.mul_add, Nat.mul_one]
    have h1 : (if (mch b a f).2 then visitL db r (mch b a f).1 else []).length ≤ db.length ^ r.length := by
     split
     ·exact ih _
     ·exact Nat.zero_le _
    omega
  exact this db
def VisOut (q : QueryE) (outs new : List (List Int)) (g2 : List (Option Obj)) : Prop :=
 (new = [] ∧ g2 = [some ⟨true, [.own 1 1 0 outs.length outs.length none]⟩, some ⟨false, rows tL outs⟩, some ⟨true, rQuery q⟩]) ∨
 (g2 = [some ⟨true, [.own 3 1 0 (outs ++ new).length (outs ++ new).length none]⟩, none, some ⟨true, rQuery q⟩, some ⟨false, rows tL (outs ++ new)⟩])
set_option maxHeartbeats 4000000 in
theorem visit_spec (q : QueryE) (body db : List FactC) (hq : cQuery q ≤ 1048576) (hb : cAtomS body ≤ 1048576) (hd : cFactS db ≤ 1048576) (ht : ∀ a ∈ body, a.2.all isTerm = true) : ∀ (n i : Nat), i + n = body.length → ∀ (b : Bnd) (outs : List (List Int)), outs.length + db.length ^ n ≤ 1099511627776 →
  SpecG Tryz.prog 67 [vAtomS body, vFactS db, .agg (bC b), ci i, .fn 155 [.ptr 0 0, .ptr 2 0]] [some ⟨true, [.own 1 1 0 outs.length outs.length none]⟩, some ⟨false, rows tL outs⟩, some ⟨true, rQuery q⟩] fun r g2 =>
   r = .tup [] ∧ VisOut q outs ((visitL db (body.drop i) b).map fun b => tupOf b q.1) g2 := by
 unfold cAtomS at hb
 unfold cFactS at hd
 intro n
 induction n with
 | zero =>
  intro i hin b outs ho
  refine SpecG_of mx Γ_ok 3 Tryz.func67 rfl rfl (by decide) ?_
  conv => whnf
  generalize hc : ((i : Int) == (body.length : Int)) = c
  have hct : c = true := by rw [← hc]; simp; omega
  subst hct
  conv => whnf
  refine .inr (.inr (.inr ⟨[0, 1, 2], [], ?_⟩))
  conv => whnf
  refine ⟨_, headsC_spec b q outs (by omega) (by simp at ho; omega), fun r g2 hP => ?_⟩
  obtain ⟨rfl, rfl⟩ := hP
  refine .inl ?_
  conv => whnf
  refine ⟨[], ?_⟩
  conv => whnf
  refine ⟨rfl, .inr ?_⟩
  rw [List.drop_eq_nil_of_le (by omega)]
  simp only [visitL, List.map_cons, List.map_nil, List.length_append, List.length_singleton]
  rfl
 | succ n ih =>
  intro i hin b outs ho
  refine SpecG_of mx Γ_ok 3 Tryz.func67 rfl rfl (by decide) ?_
  conv => whnf
  generalize hc : ((i : Int) == (body.length : Int)) = c
  have hct : c = false := by rw [← hc]; simp; omega
  subst hct
  conv => whnf
  have hil : i < body.length := by omega
  refine ⟨[(0,0),(1,0),(3,0),(4,0),(7,0),(21,0),(22,0),(23,0)], fun m s => ∃ (k : Nat) (e : Int) (new : List (List Int)), e = k ∧ m + k = db.length ∧ new.length ≤ k * db.length ^ n ∧
   ((visitL db (body.drop i) b).map fun b => tupOf b q.1) = new ++ (((db.drop k).flatMap fun f => if (mch b body[i] f).2 then visitL db (body.drop (i + 1)) (mch b body[i] f).1 else []).map fun b => tupOf b q.1) ∧
   ((new = [] ∧ s = ⟨46, [(0, vAtomS body), (1, vFactS db), (3, ci i), (4, .fn 155 [.ptr 0 0, .ptr 2 0]), (7, .ptr 3 0), (21, vFactS db), (22, ci db.length), (23, ci e)], [some ⟨true, [.own 1 1 0 outs.length outs.length none]⟩, some ⟨false, rows tL outs⟩, some ⟨true, rQuery q⟩, some ⟨true, bC b⟩]⟩) ∨
    (s = ⟨46, [(0, vAtomS body), (1, vFactS db), (3, ci i), (4, .fn 155 [.ptr 0 0, .ptr 2 0]), (7, .ptr 3 0), (21, vFactS db), (22, ci db.length), (23, ci e)], [some ⟨true, [.own 4 1 0 (outs ++ new).length (outs ++ new).length none]⟩, none, some ⟨true, rQuery q⟩, some ⟨true, bC b⟩, some ⟨false, rows tL (outs ++ new)⟩]⟩)), db.length, ⟨0, 0, [], rfl, rfl, by simp, ?_, .inl ⟨rfl, rfl⟩⟩, ?_⟩
  ·rw [List.drop_eq_getElem_cons hil, visitL]
   rfl
  rintro m s ⟨k, _, new, rfl, hm, hnl, hj, hs⟩
  rcases hs with ⟨rfl, rfl⟩ | rfl
  ·conv => whnf
   split <;> rename_i h1
   all_goals simp only [decide_eq_true_eq, decide_eq_false_iff_not] at h1
   ·conv => whnf
    have hk : k < db.length := by omega
    have hb1 := sumB_one (f := cAtom) hil
    have hcb1 : cAtom body[i] = body[i].2.length := rfl
    have hb2 := sumB_one (f := cFact) hk
    have hcb2 : cFact db[k] = db[k].2.length := rfl
    have hta := ht _ (List.getElem_mem hil)
    have hwi : IntKind.i64.wrap ((i : Int) + 1) = ((i + 1 : Nat) : Int) := by rw [wrap_id (by omega) (by omega)]; omega
    have hpw : db.length ^ (n + 1) = db.length ^ n * db.length := Nat.pow_succ ..
    have hkm : db.length ^ n * (k + 1) ≤ db.length ^ n * db.length := Nat.mul_le_mul_left _ hk
    have hk1 : db.length ^ n * (k + 1) = k * db.length ^ n + db.length ^ n := by rw [Nat.mul_add, Nat.mul_one, Nat.mul_comm]
    have hk2 : (k + 1) * db.length ^ n = k * db.length ^ n + db.length ^ n := by rw [Nat.add_mul, Nat.one_mul]
    rw [List.drop_eq_getElem_cons hk, List.flatMap_cons, List.map_append, ← List.append_assoc] at hj
    refine ⟨by omega, rows_len rFact_len _, ?_⟩
    conv => whnf
    refine ⟨_, takeN_rp (k := k) rFact_len hk, ?_⟩
    conv => whnf
    refine ⟨[0, 1, 2, 3, 4, 5, 6, 7, 8, 9, 12, 1000, 10, 1000, 11], by kernel_rfl, ?_⟩
    conv => whnf
    refine ⟨by omega, rows_len rAtom_len _, ?_⟩
    conv => whnf
    refine ⟨_, takeN_rp (k := i) rAtom_len hil, ?_⟩
    conv => whnf
    refine ⟨_, match_spec b body[i] db[k] (by omega) (by omega) hta, .inl rfl, .inl ?_⟩
    conv => whnf
    generalize hmc : mch b body[i] db[k] = mb at hj
    obtain ⟨b2, ok⟩ := mb
    cases ok with
    | false =>
     conv => whnf
     simp only [Bool.false_eq_true, if_false, List.map_nil, List.append_nil] at hj
     exact ⟨m - 1, by omega, k + 1, _, [], wrap_id (by omega) (by omega), by omega, by simp, hj, .inl ⟨rfl, by kernel_rfl⟩⟩
    | true =>
     conv => whnf
     simp only [if_true] at hj
     rw [hwi]
     refine .inr (.inr ⟨[0, 1, 2], [], ?_⟩)
     conv => whnf
     refine ⟨_, ih (i + 1) (by omega) b2 outs (by omega), fun r g2 hP => ?_⟩
     obtain ⟨rfl, hv⟩ := hP
     have hvl := visitL_len db (body.drop (i + 1)) b2
     rw [List.length_drop, show body.length - (i + 1) = n from by omega] at hvl
     rcases hv with ⟨hn0, rfl⟩ | rfl
     ·refine .inl ?_
      conv => whnf
      rw [hn0, List.append_nil] at hj
      exact ⟨m - 1, by omega, k + 1, _, [], wrap_id (by omega) (by omega), by omega, by simp, hj, .inl ⟨rfl, by kernel_rfl⟩⟩
     ·refine .inl ?_
      conv => whnf
      refine ⟨m - 1, by omega, k + 1, _, [] ++ (visitL db (body.drop (i + 1)) b2).map fun b => tupOf b q.1, wrap_id (by omega) (by omega), by omega, ?_, hj, .inr ?_⟩
      ·simp only [List.length_append, List.length_map, List.length_nil] at hnl ⊢
       omega
      ·kernel_rfl
   ·conv => whnf
    rw [drop_end (xs := db) (by omega)] at hj
    simp only [List.flatMap_nil, List.map_nil, List.append_nil] at hj
    refine ⟨[], ?_⟩
    conv => whnf
    exact ⟨rfl, .inl ⟨hj, rfl⟩⟩
  ·conv => whnf
   split <;> rename_i h1
   all_goals simp only [decide_eq_true_eq, decide_eq_false_iff_not] at h1
   ·conv => whnf
    have hk : k < db.length := by omega
    have hb1 := sumB_one (f := cAtom) hil
    have hcb1 : cAtom body[i] = body[i].2.length := rfl
    have hb2 := sumB_one (f := cFact) hk
    have hcb2 : cFact db[k] = db[k].2.length := rfl
    have hta := ht _ (List.getElem_mem hil)
    have hwi : IntKind.i64.wrap ((i : Int) + 1) = ((i + 1 : Nat) : Int) := by rw [wrap_id (by omega) (by omega)]; omega
    have hpw : db.length ^ (n + 1) = db.length ^ n * db.length := Nat.pow_succ ..
    have hkm : db.length ^ n * (k + 1) ≤ db.length ^ n * db.length := Nat.mul_le_mul_left _ hk
    have hk1 : db.length ^ n * (k + 1) = k * db.length ^ n + db.length ^ n := by rw [Nat.mul_add, Nat.mul_one, Nat.mul_comm]
    have hk2 : (k + 1) * db.length ^ n = k * db.length ^ n + db.length ^ n := by rw [Nat.add_mul, Nat.one_mul]
    rw [List.drop_eq_getElem_cons hk, List.flatMap_cons, List.map_append, ← List.append_assoc] at hj
    refine ⟨by omega, rows_len rFact_len _, ?_⟩
    conv => whnf
    refine ⟨_, takeN_rp (k := k) rFact_len hk, ?_⟩
    conv => whnf
    refine ⟨[0, 1, 2, 3, 4, 5, 6, 7, 8, 9, 12, 1000, 10, 1000, 11], by kernel_rfl, ?_⟩
    conv => whnf
    refine ⟨by omega, rows_len rAtom_len _, ?_⟩
    conv => whnf
    refine ⟨_, takeN_rp (k := i) rAtom_len hil, ?_⟩
    conv => whnf
    refine ⟨_, match_spec b body[i] db[k] (by omega) (by omega) hta, .inl rfl, .inl ?_⟩
    conv => whnf
    generalize hmc : mch b body[i] db[k] = mb at hj
    obtain ⟨b2, ok⟩ := mb
    cases ok with
    | false =>
     conv => whnf
     simp only [Bool.false_eq_true, if_false, List.map_nil, List.append_nil] at hj
     exact ⟨m - 1, by omega, k + 1, _, new, wrap_id (by omega) (by omega), by omega, by omega, hj, .inr (by kernel_rfl)⟩
    | true =>
     conv => whnf
     simp only [if_true] at hj
     rw [hwi]
     refine .inr (.inr ⟨[0, 4, 2], [], ?_⟩)
     conv => whnf
     refine ⟨_, ih (i + 1) (by omega) b2 (outs ++ new) (by rw [List.length_append]; omega), fun r g2 hP => ?_⟩
     obtain ⟨rfl, hv⟩ := hP
     have hvl := visitL_len db (body.drop (i + 1)) b2
     rw [List.length_drop, show body.length - (i + 1) = n from by omega] at hvl
     rcases hv with ⟨hn0, rfl⟩ | rfl
     ·refine .inl ?_
      conv => whnf
      rw [hn0, List.append_nil] at hj
      exact ⟨m - 1, by omega, k + 1, _, new, wrap_id (by omega) (by omega), by omega, by omega, hj, .inr (by kernel_rfl)⟩
     ·refine .inl ?_
      conv => whnf
      refine ⟨m - 1, by omega, k + 1, _, new ++ (visitL db (body.drop (i + 1)) b2).map fun b => tupOf b q.1, wrap_id (by omega) (by omega), by omega, ?_, hj, .inr ?_⟩
      ·simp only [List.length_append, List.length_map, List.length_nil] at hnl ⊢
       omega
      ·rw [← List.append_assoc]; kernel_rfl
   ·conv => whnf
    rw [drop_end (xs := db) (by omega)] at hj
    simp only [List.flatMap_nil, List.map_nil, List.append_nil] at hj
    refine ⟨[], ?_⟩
    conv => whnf
    rw [hj]
    exact ⟨rfl, .inr rfl⟩
end Go.Proofs.YtboolngaahifdaaGreatD
namespace Go.Proofs.YtboolngaahifdaaGreatD
open Go Go.Proofs Go.Shelf Go.Sort
theorem SpecG.mono' {P : Program} {f : Nat} {vs : List V} {g : List (Option Obj)} {Post Post' : V → List (Option Obj) → Prop} (h : SpecG P f vs g Post) (hp : ∀ r g2, Post r g2 → Post' r g2) : SpecG P f vs g Post' := by
 refine ⟨h.1, fun E0 xs hin hv => (h.2 E0 xs hin hv).mono fun e w' he => ?_⟩
 cases e with
 | panicked chain => exact he.elim
 | outgrown => exact he.elim
 | returned x =>
  obtain ⟨r, g2, E2, h1, h2⟩ := he
  exact ⟨r, g2, E2, hp r g2 h1, h2⟩
theorem rows_map' {α β : Type} (f : β → List V) (g : α → β) (xs : List α) : rows (fun x => f (g x)) xs = rows f (xs.map g) := by
 induction xs with
 | nil => rfl
 | cons x xs ih => simp [rows, ih]
abbrev ListB := { l : List Int // l.length ≤ 1099511627776 }
theorem liftL : ∀ (xs : List (List Int)), (∀ x ∈ xs, x.length ≤ 1099511627776) → ∃ ys : List ListB, ys.map (fun y => y.1) = xs
 | [], _ => ⟨[], rfl⟩
 | x :: xs, h => by
  obtain ⟨ys, hy⟩ := liftL xs fun y hy => h y (by simp [hy])
  exact ⟨⟨x, h x (by simp)⟩ :: ys, by simp [hy]⟩
theorem tL_ro (x : List Int) : roV (intsT x) = ints x := by
 show V.ro _ (roVs _) = _
 rw [roVs_ci]; rfl
theorem sortLists_none (p : Option Addr) (cap : Nat) (fv : Value) (w : World) : Calls Tryz.prog 69 #[.slice p 0 cap, fv] w fun e w' => e = .returned (.tuple #[]) ∧ w' = w :=
 AnyF.slices_SortFunc_none { layL_ok with } p cap fv w
theorem sortLists_spec (xs : List (List Int)) (hb : ∀ x ∈ xs, x.length ≤ 1099511627776) (hsz : xs.length ≤ 1099511627776) :
  SpecG Tryz.prog 69 [.own 0 1 0 xs.length xs.length none, .fn 70 []] [some ⟨false, rows tL xs⟩] fun r g2 => r = .tup [] ∧ ∃ ys : List (List Int), ys.Perm xs ∧ ys.Pairwise (fun a b => ¬ cmpI b a < 0) ∧ g2 = [some ⟨false, rows tL ys⟩] := by
 obtain ⟨zs, rfl⟩ := liftL xs hb
 have := sort_spec1 layL_ok (fun x : ListB => intsT x.1) (fun x => by rw [tL_ro]; rfl) 70 (fun a b => cmpI a.1 b.1) (swo_of_tot (lt := fun a b => ltI a.1 b.1) ⟨fun a => totI.irr _, fun a b c => totI.tr _ _ _, fun a b => by
  rcases totI.tri a.1 b.1 with h | h | h
  ·exact .inl h
  ·exact .inr (.inl (Subtype.ext h))
  ·exact .inr (.inr h)⟩ fun a b => ltI_cmp _ _) (fun x y => by rw [tL_ro, tL_ro]; exact slicesCompare_spec x.1 y.1 x.2 y.2) ⟨_, _, Tryz.func69, rfl, rfl⟩ sortLists_none zs (by rw [List.length_map] at hsz; omega)
 have e1 : ∀ zs : List ListB, rows (fun x : ListB => [intsT x.1]) zs = rows tL (zs.map fun y => y.1) := fun zs => rows_map' tL _ zs
 rw [e1] at this
 rw [List.length_map]
 refine SpecG.mono' this fun r g2 ⟨h1, ys, h2, h3, h4⟩ => ⟨h1, ys.map (·.1), h2.map _, ?_, ?_⟩
 ·rw [List.pairwise_map]; exact h3
 ·rw [h4, e1]
set_option maxHeartbeats 1000000 in
theorem compLists_none (p : Option Addr) (cap : Nat) (fv : Value) (w : World) : Calls Tryz.prog 154 #[.slice p 0 cap, fv] w fun e w' => e = .returned (.slice p 0 cap) ∧ w' = w := by
 go_enter Tryz.func154, Tryz.ntmps154
 go_wp2
 go_ret
 first | exact ⟨rfl, rfl⟩ | rfl
theorem compLists_walk : CompWalk Tryz.prog 154 1 fun vs => vs.headD (.bool false) := by
 intro α _ enc hk h1 ef g blk off cap d w eg hcmp hH hblk hF hsz hcap
 obtain ⟨ea, he'⟩ : ∃ ea : α → Value, enc = fun x => [ea x] := by
  refine ⟨fun x => (enc x).headD (.bool false), ?_⟩
  funext x
  have := hk x
  show enc x = [(enc x).headD (.bool false)]
  generalize enc x = l at this ⊢
  match l, this with
  | [a], _ => rfl
 clear hk
 subst he'
 exact compact_walk1 ea ef g blk off cap d w eg hcmp (fun x => h1 x _ (by simp)) hH hblk hF hsz hcap
theorem compLists_spec (xs : List (List Int)) (hb : ∀ x ∈ xs, x.length ≤ 1099511627776) (hsz : xs.length ≤ 1099511627776) :
  SpecG Tryz.prog 154 [.own 0 1 0 xs.length xs.length none, .fn 119 []] [some ⟨false, rows tL xs⟩] fun r g2 => r = .tr 1 (compL (fun a b => decide (a = b)) xs).length (rows tL (compL (fun a b => decide (a = b)) xs)) ∧ g2 = [none] := by
 obtain ⟨zs, rfl⟩ := liftL xs hb
 have := comp_specK (P := Tryz.prog) (k := 1) (by decide) (mk := fun vs => vs.headD (.bool false)) (mv := fun vs => vs.headD .any) (fun E vs xs hl h => by
  match vs, xs, hl, h with
  | [v], [x], _, h => exact h.1) compLists_walk (fun x : ListB => tL x.1) (fun x => rfl) (fun x c hc => by
   have : c = roV (intsT x.1) := by simpa [tL, roVs] using hc
   rw [this, tL_ro]; rfl) 119 (fun a b => decide (a.1 = b.1)) (fun x y => by
   show Spec _ _ [roV (intsT x.1), roV (intsT y.1)] _
   rw [tL_ro, tL_ro]; exact slicesEq_spec x.1 y.1 x.2 y.2) ⟨_, _, Tryz.func154, rfl, rfl⟩ compLists_none zs (by rw [List.length_map] at hsz; omega)
 rw [rows_map' tL] at this
 rw [List.length_map]
 refine SpecG.mono' this fun r g2 ⟨h1, h2⟩ => ⟨?_, h2⟩
 rw [h1, rows_map' tL, compL_map (fun a b => decide (a = b)) (fun y : ListB => y.1), ← compL_map (fun a b => decide (a = b)) (fun y : ListB => y.1), List.length_map]
end Go.Proofs.YtboolngaahifdaaGreatD
namespace Go.Proofs.YtboolngaahifdaaGreatD
open Go Go.Proofs
def headsP (q : QueryE) (db : List FactC) : List (List Int) := (visitL db q.2 bNone).map fun b => tupOf b q.1
def wLists (xs : List (List Int)) : V := .tr 1 xs.length (rows tL xs)
set_option maxHeartbeats 4000000 in
theorem heads_spec (q : QueryE) (db : List FactC) (hq : cQuery q ≤ 1048576) (hd : cFactS db ≤ 1048576) (ht : ∀ a ∈ q.2, a.2.all isTerm = true) (hn : db.length ^ q.2.length ≤ 1099511627776) : Spec Tryz.prog 73 [vQuery q, vFactS db] (wLists (headsP q db)) := by
 have hb : cAtomS q.2 ≤ 1048576 := by unfold cQuery at hq; omega
 refine Spec_of mx Γ_ok Tryz.func73 rfl ?_
 conv => whnf
 refine .inr (.inr ⟨[2, 1, 0], [], ?_⟩)
 conv => whnf
 have hv := visit_spec q q.2 db hq hb hd ht q.2.length 0 (Nat.zero_add _) bNone [] (by simpa using hn)
 refine ⟨_, hv, fun r g2 hP => ?_⟩
 obtain ⟨rfl, hv⟩ := hP
 rw [List.drop_zero] at hv
 rcases hv with ⟨hn0, rfl⟩ | rfl
 ·refine .inl ?_
  conv => whnf
  refine ⟨rfl, ?_⟩
  unfold headsP
  rw [hn0]; rfl
 ·refine .inl ?_
  conv => whnf
  refine ⟨by rw [rows_len tL_len], ?_⟩
  rfl
theorem different_spec (xs : List (List Int)) (hb : ∀ x ∈ xs, x.length ≤ 1099511627776) (hsz : xs.length ≤ 1099511627776) :
  SpecG Tryz.prog 72 [.own 0 1 0 xs.length xs.length none] [some ⟨false, rows tL xs⟩] fun r g2 => g2 = [none] ∧ ∃ ys : List (List Int), ys.Perm xs ∧ ys.Pairwise (fun a b => ¬ cmpI b a < 0) ∧ r = wLists (compL (fun a b => decide (a = b)) ys) := by
 refine SpecG_of mx Γ_ok 1 Tryz.func72 rfl rfl (by decide) ?_
 conv => whnf
 refine .inr (.inr ⟨[0], [], ?_⟩)
 conv => whnf
 refine ⟨_, sortLists_spec xs hb hsz, fun r g2 hP => ?_⟩
 obtain ⟨rfl, ys, hp, hs, rfl⟩ := hP
 have hl : xs.length = ys.length := hp.length_eq.symm
 refine .inl ?_
 conv => whnf
 refine .inr (.inr ⟨[0], [], ?_⟩)
 conv => whnf
 have hc := compLists_spec ys (fun x hx => hb x (hp.mem_iff.1 hx)) (by omega)
 rw [← hl] at hc
 refine ⟨_, hc, fun r g2 hP => ?_⟩
 obtain ⟨rfl, rfl⟩ := hP
 refine .inr ?_
 conv => whnf
 refine ⟨[], ?_⟩
 conv => whnf
 refine ⟨by rw [rows_len tL_len], ?_⟩
 exact ⟨rfl, ys, hp, hs, rfl⟩
def sB (b : Bnd) : List Int := (List.range 20).map (fun k => (b k).getD (-1)) ++ (List.range 20).map (fun k => if (b k).isSome then 1 else 0)
theorem sB_len (b : Bnd) : (sB b).length = 40 := rfl
theorem sB_at (b : Bnd) (i : Nat) : (sB b)[i]? = if i < 20 then some ((b i).getD (-1)) else if i < 40 then some (if (b (i - 20)).isSome then 1 else 0) else none := by
 unfold sB
 split
 ·rename_i h
  rw [List.getElem?_append_left (by simpa using h), List.getElem?_map, List.getElem?_range h]; rfl
 ·rename_i h
  rw [List.getElem?_append_right (by simp; omega)]
  simp only [List.length_map, List.length_range]
  split
  ·rw [List.getElem?_map, List.getElem?_range (by omega)]; rfl
  ·rw [List.getElem?_eq_none (by simp; omega)]
theorem bset_same (b : Bnd) (k : Nat) (v : Int) : bset b k v k = some v := by simp [bset]
theorem bset_ne {b : Bnd} {k i : Nat} {v : Int} (h : i ≠ k) : bset b k v i = b i := by simp [bset, h]
theorem sB_set (b : Bnd) {k : Nat} (hk : k < 20) (v : Int) : ((sB b).set k v).set (20 + k) 1 = sB (bset b k v) := by
 have hl := sB_len b
 apply List.ext_getElem?
 intro i
 rw [List.getElem?_set, List.getElem?_set, sB_at, sB_at, List.length_set, hl]
 by_cases h2 : 20 + k = i
 ·subst h2
  rw [if_pos rfl, if_pos (by omega), if_neg (by omega), if_pos (by omega), Nat.add_sub_cancel_left, bset_same]
  rfl
 ·rw [if_neg h2]
  by_cases h1 : k = i
  ·subst h1
   rw [if_pos rfl, if_pos (by omega), if_pos hk, bset_same]; rfl
  ·rw [if_neg h1]
   split
   ·rw [bset_ne (fun h => h1 h.symm)]
   ·split
    ·rw [bset_ne (by omega)]
    ·rfl
theorem setC_ci {xs : List Int} {k off : Nat} (hk : k < xs.length) (ho : off = k) (y : Int) : setC (rows ciL xs) off [ci y] = rows ciL (xs.set k y) := by
 subst ho
 have := setC_rows (f := ciL) ciL_len (by decide) hk y
 rwa [Nat.mul_one] at this
theorem takeN_sA {b : Bnd} {k off : Nat} (hk : k < 20) (ho : off = k) : takeN (rows ciL (sB b)) off 1 = some [ci ((b k).getD (-1))] := by
 have hl : k < (sB b).length := by rw [sB_len]; omega
 have h1 : (sB b)[k] = (b k).getD (-1) := by
  have := sB_at b k
  rw [if_pos hk, List.getElem?_eq_getElem hl] at this
  exact Option.some.inj this
 exact takeN_own (f := ciL) (k := k) (d := 0) (m := 1) (xs := sB b) ciL_len (by omega) hl (by omega) (by rw [h1]; rfl)
theorem takeN_sF {b : Bnd} {k off : Nat} (hk : k < 20) (ho : off = 20 + k) : takeN (rows ciL (sB b)) off 1 = some [ci (if (b k).isSome then 1 else 0)] := by
 have hl : 20 + k < (sB b).length := by rw [sB_len]; omega
 have h1 : (sB b)[20 + k] = if (b k).isSome then 1 else 0 := by
  have := sB_at b (20 + k)
  rw [if_neg (by omega), if_pos (by omega), List.getElem?_eq_getElem hl, Nat.add_sub_cancel_left] at this
  exact Option.some.inj this
 exact takeN_own (f := ciL) (k := 20 + k) (d := 0) (m := 1) (xs := sB b) ciL_len (by omega) hl (by omega) (by rw [h1]; rfl)
set_option maxHeartbeats 4000000 in
theorem l6Bind_spec (xs ys : List Int) (b : Bnd) (hx : xs.length ≤ 1099511627776) (hxy : xs.length = ys.length) (ht : xs.all isTerm = true) : Spec Tryz.prog 211 [ints xs, ints ys, ints (sB b)] (.tup [intsT (sB (bindGo xs ys b).1), cb (bindGo xs ys b).2]) := by
 refine Spec_of mx Γ_ok Tryz.func211 rfl ?_
 conv => whnf
 refine ⟨rows_len ciL_len _, solid_ci _, ?_⟩
 conv => whnf
 refine ⟨by rw [sB_len]; omega, rfl, _, app_ci [] (sB b), ?_⟩
 conv => whnf
 refine ⟨[(0,0),(1,0),(6,0),(7,0),(8,0),(9,0)], fun m s => ∃ (k : Nat) (e : Int) (x : Bnd), e = k ∧ m + k = xs.length ∧ bindGo xs ys b = bindGo (xs.drop k) (ys.drop k) x ∧
  s = ⟨65, [(0, ints xs), (1, ints ys), (6, cnil), (7, cb false), (8, .own 0 1 0 40 40 none), (9, ci e)], [some ⟨false, rows ciL (sB x)⟩]⟩, xs.length, ⟨0, 0, b, rfl, rfl, rfl, rfl⟩, ?_⟩
 rintro m s ⟨k, _, x, rfl, hm, hj, rfl⟩
 conv => whnf
 split <;> rename_i h3
 all_goals simp only [decide_eq_true_eq, decide_eq_false_iff_not] at h3
 ·conv => whnf
  have hk : k < xs.length := by omega
  have hky : k < ys.length := by omega
  have htk := fz_all_at ht hk
  have hr : -80 ≤ xs[k] ∧ xs[k] ≤ 19 := by simpa [isTerm, inR] using htk
  rw [List.drop_eq_getElem_cons hk, List.drop_eq_getElem_cons hky, bindGo] at hj
  refine ⟨by omega, rows_len ciL_len _, ?_⟩
  conv => whnf
  refine ⟨_, takeN_rp (k := k) ciL_len hk, ?_⟩
  conv => whnf
  generalize hc1 : decide (xs[k] < 0) = c1
  cases c1 with
  | true =>
   have h1 : xs[k] < 0 := of_decide_eq_true hc1
   rw [if_pos h1] at hj
   conv => whnf
   refine ⟨by omega, rows_len ciL_len _, ?_⟩
   conv => whnf
   refine ⟨_, takeN_rp (k := k) ciL_len hky, ?_⟩
   have hw : IntKind.i64.wrap (-1 - xs[k]) = -1 - xs[k] := wrap_id (by omega) (by omega)
   rw [hw]
   conv => whnf
   split <;> rename_i h5
   ·have h6 : ¬ -1 - xs[k] = ys[k] := by simpa using h5
    conv => whnf
    rw [hj, if_neg h6]
    refine ⟨by rw [rows_len ciL_len]; rfl, ?_⟩
    rfl
   ·have h6 : -1 - xs[k] = ys[k] := by simpa using h5
    conv => whnf
    rw [if_pos h6] at hj
    exact ⟨m - 1, by omega, k + 1, _, x, wrap_id (by omega) (by omega), by omega, hj, rfl⟩
  | false =>
   have h1 : ¬ xs[k] < 0 := of_decide_eq_false hc1
   rw [if_neg h1] at hj
   obtain ⟨j, hjj⟩ : ∃ j : Nat, xs[k] = j := ⟨xs[k].toNat, by omega⟩
   rw [hjj] at hj ⊢
   rw [Int.toNat_natCast] at hj
   have hj20 : j < 20 := by omega
   have hw : IntKind.i64.wrap (20 + (j : Int)) = ((20 + j : Nat) : Int) := by rw [wrap_id (by omega) (by omega)]; omega
   conv => whnf
   rw [hw]
   refine ⟨by omega, ?_⟩
   conv => whnf
   refine ⟨_, takeN_sF (b := x) (k := j) (off := 0 + ((20 + j : Nat) : Int).toNat * 1) hj20 (by omega), ?_⟩
   conv => whnf
   cases hxj : x j with
   | none =>
    rw [hxj] at hj
    conv => whnf
    refine ⟨by omega, rows_len ciL_len _, ?_⟩
    conv => whnf
    refine ⟨_, takeN_rp (k := k) ciL_len hky, ?_⟩
    conv => whnf
    refine ⟨by omega, ?_⟩
    conv => whnf
    refine ⟨_, takeN_sA (b := x) (k := j) (off := 0 + (j : Int).toNat * 1) hj20 (by omega), _, setC_ci (xs := sB x) (k := j) (by rw [sB_len]; omega) (by show 0 + (j : Int).toNat * 1 = j; omega) ys[k], ?_⟩
    conv => whnf
    rw [hw]
    refine ⟨by omega, ?_⟩
    conv => whnf
    have hl2 : 20 + j < ((sB x).set j ys[k]).length := by rw [List.length_set, sB_len]; omega
    refine ⟨_, takeN_own (f := ciL) (k := 20 + j) (d := 0) (m := 1) (xs := (sB x).set j ys[k]) ciL_len (by show 0 + ((20 + j : Nat) : Int).toNat * 1 = _; omega) hl2 (by omega) rfl, _, setC_ci (xs := (sB x).set j ys[k]) (k := 20 + j) hl2 (by show 0 + ((20 + j : Nat) : Int).toNat * 1 = _; omega) 1, ?_⟩
    rw [sB_set x hj20]
    conv => whnf
    exact ⟨m - 1, by omega, k + 1, _, bset x j ys[k], wrap_id (by omega) (by omega), by omega, hj, rfl⟩
   | some u =>
    rw [hxj] at hj
    conv => whnf
    refine ⟨List.range 10, by kernel_rfl, ?_⟩
    conv => whnf
    refine ⟨by omega, ?_⟩
    conv => whnf
    refine ⟨_, takeN_sA (b := x) (k := j) (off := 0 + (j : Int).toNat * 1) hj20 (by omega), ?_⟩
    rw [hxj]
    conv => whnf
    refine ⟨by omega, rows_len ciL_len _, ?_⟩
    conv => whnf
    refine ⟨_, takeN_rp (k := k) ciL_len hky, ?_⟩
    conv => whnf
    split <;> rename_i h5
    ·have h6 : ¬ u = ys[k] := by simpa using h5
     conv => whnf
     rw [hj]
     simp only [if_neg h6]
     refine ⟨by rw [rows_len ciL_len]; rfl, ?_⟩
     rfl
    ·have h6 : u = ys[k] := by simpa using h5
     conv => whnf
     simp only [if_pos h6] at hj
     exact ⟨m - 1, by omega, k + 1, _, x, wrap_id (by omega) (by omega), by omega, hj, rfl⟩
 ·conv => whnf
  rw [hj, drop_end (by omega)]
  have : ∀ l b, bindGo [] l b = (b, true) := fun l b => by cases l <;> rfl
  rw [this]
  refine ⟨by rw [rows_len ciL_len]; rfl, ?_⟩
  rfl
end Go.Proofs.YtboolngaahifdaaGreatD
