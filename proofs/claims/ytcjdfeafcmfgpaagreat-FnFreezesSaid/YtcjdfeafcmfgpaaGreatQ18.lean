/- Part 18 of the proof of the statement FnFreezes: contracts of functions and plain laws; no condition. -/
import Derived.Test.YtcjdfeafcmfgpaaGreatQ17
import Derived.Test.YtcjdfeafcmfgpaaGreatQ16
set_option linter.unusedVariables false
set_option linter.unusedSimpArgs false
set_option maxRecDepth 100000
namespace Go.Proofs.YtcjdfeafcmfgpaaGreatD
open Go Go.Proofs
abbrev QueryE := List Int × List FactC
def tL (xs : List Int) : List V := [intsT xs]
theorem tL_len (xs : List Int) : (tL xs).length = 1 := rfl
theorem solid_tL (xs : List Int) : ∀ c ∈ tL xs, solid c = true := by
  intro c hc
  simp only [tL, List.mem_cons, List.not_mem_nil, or_false] at hc
  subst hc; rfl
theorem closed_intsT (xs : List Int) : closed (intsT xs) := closeds_rows (f := ciL) (fun x => ⟨trivial, trivial⟩) xs
theorem headsC_spec (b : Bnd) (q : QueryE) (outs : List (List Int)) (hq : cQuery q ≤ 1099511627776) (ho : outs.length < 1099511627776) :
    SpecG Tryz.prog 260 [.agg (bC b), .ptr 0 0, .ptr 2 0] [some ⟨true, [.own 1 1 0 outs.length outs.length none]⟩, some ⟨false, rows tL outs⟩, some ⟨true, rQuery q⟩] fun r g2 =>
      r = .tup [] ∧ g2 = [some ⟨true, [.own 3 1 0 (outs.length + 1) (outs.length + 1) none]⟩, none, some ⟨true, rQuery q⟩, some ⟨false, rows tL (outs ++ [tupOf b q.1])⟩] := by
  unfold cQuery at hq
  refine SpecG_of mx Γ_ok 3 Tryz.func260 rfl rfl (by decide) ?_
  conv => whnf
  refine ⟨[0, 1, 2, 3, 4, 5, 6], by kernel_rfl, ?_⟩
  conv => whnf
  refine ⟨_, rfl, ?_⟩
  conv => whnf
  refine ⟨_, tuple_spec b q.1 (by omega), .inr (closed_intsT _), .inr ?_⟩
  conv => whnf
  refine ⟨by rw [rows_len ciL_len, Nat.mul_one], ?_⟩
  conv => whnf
  refine ⟨_, rfl, .inr ⟨solid_tL (tupOf b q.1), ?_⟩⟩
  conv => whnf
  refine ⟨by omega, by rw [rows_len tL_len], _, snoc_rows tL _ (tupOf b q.1), ?_⟩
  conv => whnf
  refine ⟨[], ?_⟩
  conv => whnf
  exact ⟨rfl, rfl⟩
def visitL (db : List FactC) : List FactC → Bnd → List Bnd
  | [], b => [b]
  | a :: r, b => db.flatMap fun f => if (mch b a f).2 then visitL db r (mch b a f).1 else []
theorem visitL_len (db : List FactC) : ∀ (body : List FactC) (b : Bnd), (visitL db body b).length ≤ db.length ^ body.length
  | [], b => by simp [visitL]
  | a :: r, b => by
    have ih := visitL_len db r
    simp only [visitL, List.length_cons, Nat.pow_succ]
    have : ∀ l : List FactC, (l.flatMap fun f => if (mch b a f).2 then visitL db r (mch b a f).1 else []).length ≤ db.length ^ r.length * l.length := by
      intro l
      induction l with
      | nil => simp
      | cons f l il =>
        rw [List.flatMap_cons, List.length_append, List.length_cons, Nat.mul_add, Nat.mul_one]
        have h1 : (if (mch b a f).2 then visitL db r (mch b a f).1 else []).length ≤ db.length ^ r.length := by
          split
          · exact ih _
          · exact Nat.zero_le _
        omega
    exact this db
def VisOut (q : QueryE) (outs new : List (List Int)) (g2 : List (Option Obj)) : Prop :=
  (new = [] ∧ g2 = [some ⟨true, [.own 1 1 0 outs.length outs.length none]⟩, some ⟨false, rows tL outs⟩, some ⟨true, rQuery q⟩]) ∨
  (g2 = [some ⟨true, [.own 3 1 0 (outs ++ new).length (outs ++ new).length none]⟩, none, some ⟨true, rQuery q⟩, some ⟨false, rows tL (outs ++ new)⟩])
set_option maxHeartbeats 4000000 in
theorem visit_spec (q : QueryE) (body db : List FactC) (hq : cQuery q ≤ 1048576) (hb : cAtomS body ≤ 1048576) (hd : cFactS db ≤ 1048576) (ht : ∀ a ∈ body, a.2.all isTerm = true) : ∀ (n i : Nat), i + n = body.length → ∀ (b : Bnd) (outs : List (List Int)), outs.length + db.length ^ n ≤ 1099511627776 →
    SpecG Tryz.prog 169 [vAtomS body, vFactS db, .agg (bC b), ci i, .fn 260 [.ptr 0 0, .ptr 2 0]] [some ⟨true, [.own 1 1 0 outs.length outs.length none]⟩, some ⟨false, rows tL outs⟩, some ⟨true, rQuery q⟩] fun r g2 =>
      r = .tup [] ∧ VisOut q outs ((visitL db (body.drop i) b).map fun b => tupOf b q.1) g2 := by
  unfold cAtomS at hb
  unfold cFactS at hd
  intro n
  induction n with
  | zero =>
    intro i hin b outs ho
    refine SpecG_of mx Γ_ok 3 Tryz.func169 rfl rfl (by decide) ?_
    conv => whnf
    generalize hc : ((i : Int) == (body.length : Int)) = c
    have hct : c = true := by rw [← hc]; simp; omega
    subst hct
    conv => whnf
    refine .inr (.inr (.inr ⟨[0, 1, 2], [], ?_⟩))
    conv => whnf
    refine ⟨_, headsC_spec b q outs (by omega) (by simp at ho; omega), fun r g2 hP => ?_⟩
    obtain ⟨rfl, rfl⟩ := hP
    refine .inl ?_
    conv => whnf
    refine ⟨[], ?_⟩
    conv => whnf
    refine ⟨rfl, .inr ?_⟩
    rw [List.drop_eq_nil_of_le (by omega)]
    simp only [visitL, List.map_cons, List.map_nil, List.length_append, List.length_singleton]
    rfl
  | succ n ih =>
    intro i hin b outs ho
    refine SpecG_of mx Γ_ok 3 Tryz.func169 rfl rfl (by decide) ?_
    conv => whnf
    generalize hc : ((i : Int) == (body.length : Int)) = c
    have hct : c = false := by rw [← hc]; simp; omega
    subst hct
    conv => whnf
    have hil : i < body.length := by omega
    refine ⟨[(0,0),(1,0),(3,0),(4,0),(7,0),(21,0),(22,0),(23,0)], fun m s => ∃ (k : Nat) (e : Int) (new : List (List Int)), e = k ∧ m + k = db.length ∧ new.length ≤ k * db.length ^ n ∧
      ((visitL db (body.drop i) b).map fun b => tupOf b q.1) = new ++ (((db.drop k).flatMap fun f => if (mch b body[i] f).2 then visitL db (body.drop (i + 1)) (mch b body[i] f).1 else []).map fun b => tupOf b q.1) ∧
      ((new = [] ∧ s = ⟨46, [(0, vAtomS body), (1, vFactS db), (3, ci i), (4, .fn 260 [.ptr 0 0, .ptr 2 0]), (7, .ptr 3 0), (21, vFactS db), (22, ci db.length), (23, ci e)], [some ⟨true, [.own 1 1 0 outs.length outs.length none]⟩, some ⟨false, rows tL outs⟩, some ⟨true, rQuery q⟩, some ⟨true, bC b⟩]⟩) ∨
       (s = ⟨46, [(0, vAtomS body), (1, vFactS db), (3, ci i), (4, .fn 260 [.ptr 0 0, .ptr 2 0]), (7, .ptr 3 0), (21, vFactS db), (22, ci db.length), (23, ci e)], [some ⟨true, [.own 4 1 0 (outs ++ new).length (outs ++ new).length none]⟩, none, some ⟨true, rQuery q⟩, some ⟨true, bC b⟩, some ⟨false, rows tL (outs ++ new)⟩]⟩)), db.length, ⟨0, 0, [], rfl, rfl, by simp, ?_, .inl ⟨rfl, rfl⟩⟩, ?_⟩
    · rw [List.drop_eq_getElem_cons hil, visitL]
      rfl
    rintro m s ⟨k, _, new, rfl, hm, hnl, hj, hs⟩
    rcases hs with ⟨rfl, rfl⟩ | rfl
    · conv => whnf
      split <;> rename_i h1
      all_goals simp only [decide_eq_true_eq, decide_eq_false_iff_not] at h1
      · conv => whnf
        have hk : k < db.length := by omega
        have hb1 := sumB_one (f := cAtom) hil
        have hcb1 : cAtom body[i] = body[i].2.length := rfl
        have hb2 := sumB_one (f := cFact) hk
        have hcb2 : cFact db[k] = db[k].2.length := rfl
        have hta := ht _ (List.getElem_mem hil)
        have hwi : IntKind.i64.wrap ((i : Int) + 1) = ((i + 1 : Nat) : Int) := by rw [wrap_id (by omega) (by omega)]; omega
        have hpw : db.length ^ (n + 1) = db.length ^ n * db.length := Nat.pow_succ ..
        have hkm : db.length ^ n * (k + 1) ≤ db.length ^ n * db.length := Nat.mul_le_mul_left _ hk
        have hk1 : db.length ^ n * (k + 1) = k * db.length ^ n + db.length ^ n := by rw [Nat.mul_add, Nat.mul_one, Nat.mul_comm]
        have hk2 : (k + 1) * db.length ^ n = k * db.length ^ n + db.length ^ n := by rw [Nat.add_mul, Nat.one_mul]
        rw [List.drop_eq_getElem_cons hk, List.flatMap_cons, List.map_append, ← List.append_assoc] at hj
        refine ⟨by omega, rows_len rFact_len _, ?_⟩
        conv => whnf
        refine ⟨_, takeN_rp (k := k) rFact_len hk, ?_⟩
        conv => whnf
        refine ⟨[0, 1, 2, 3, 4, 5, 6, 7, 8, 9, 12, 1000, 10, 1000, 11], by kernel_rfl, ?_⟩
        conv => whnf
        refine ⟨by omega, rows_len rAtom_len _, ?_⟩
        conv => whnf
        refine ⟨_, takeN_rp (k := i) rAtom_len hil, ?_⟩
        conv => whnf
        refine ⟨_, match_spec b body[i] db[k] (by omega) (by omega) hta, .inl rfl, .inl ?_⟩
        conv => whnf
        generalize hmc : mch b body[i] db[k] = mb at hj
        obtain ⟨b2, ok⟩ := mb
        cases ok with
        | false =>
          conv => whnf
          simp only [Bool.false_eq_true, if_false, List.map_nil, List.append_nil] at hj
          exact ⟨m - 1, by omega, k + 1, _, [], wrap_id (by omega) (by omega), by omega, by simp, hj, .inl ⟨rfl, by kernel_rfl⟩⟩
        | true =>
          conv => whnf
          simp only [if_true] at hj
          rw [hwi]
          refine .inr (.inr ⟨[0, 1, 2], [], ?_⟩)
          conv => whnf
          refine ⟨_, ih (i + 1) (by omega) b2 outs (by omega), fun r g2 hP => ?_⟩
          obtain ⟨rfl, hv⟩ := hP
          have hvl := visitL_len db (body.drop (i + 1)) b2
          rw [List.length_drop, show body.length - (i + 1) = n from by omega] at hvl
          rcases hv with ⟨hn0, rfl⟩ | rfl
          · refine .inl ?_
            conv => whnf
            rw [hn0, List.append_nil] at hj
            exact ⟨m - 1, by omega, k + 1, _, [], wrap_id (by omega) (by omega), by omega, by simp, hj, .inl ⟨rfl, by kernel_rfl⟩⟩
          · refine .inl ?_
            conv => whnf
            refine ⟨m - 1, by omega, k + 1, _, [] ++ (visitL db (body.drop (i + 1)) b2).map fun b => tupOf b q.1, wrap_id (by omega) (by omega), by omega, ?_, hj, .inr ?_⟩
            · simp only [List.length_append, List.length_map, List.length_nil] at hnl ⊢
              omega
            · kernel_rfl
      · conv => whnf
        rw [drop_end (xs := db) (by omega)] at hj
        simp only [List.flatMap_nil, List.map_nil, List.append_nil] at hj
        refine ⟨[], ?_⟩
        conv => whnf
        exact ⟨rfl, .inl ⟨hj, rfl⟩⟩
    · conv => whnf
      split <;> rename_i h1
      all_goals simp only [decide_eq_true_eq, decide_eq_false_iff_not] at h1
      · conv => whnf
        have hk : k < db.length := by omega
        have hb1 := sumB_one (f := cAtom) hil
        have hcb1 : cAtom body[i] = body[i].2.length := rfl
        have hb2 := sumB_one (f := cFact) hk
        have hcb2 : cFact db[k] = db[k].2.length := rfl
        have hta := ht _ (List.getElem_mem hil)
        have hwi : IntKind.i64.wrap ((i : Int) + 1) = ((i + 1 : Nat) : Int) := by rw [wrap_id (by omega) (by omega)]; omega
        have hpw : db.length ^ (n + 1) = db.length ^ n * db.length := Nat.pow_succ ..
        have hkm : db.length ^ n * (k + 1) ≤ db.length ^ n * db.length := Nat.mul_le_mul_left _ hk
        have hk1 : db.length ^ n * (k + 1) = k * db.length ^ n + db.length ^ n := by rw [Nat.mul_add, Nat.mul_one, Nat.mul_comm]
        have hk2 : (k + 1) * db.length ^ n = k * db.length ^ n + db.length ^ n := by rw [Nat.add_mul, Nat.one_mul]
        rw [List.drop_eq_getElem_cons hk, List.flatMap_cons, List.map_append, ← List.append_assoc] at hj
        refine ⟨by omega, rows_len rFact_len _, ?_⟩
        conv => whnf
        refine ⟨_, takeN_rp (k := k) rFact_len hk, ?_⟩
        conv => whnf
        refine ⟨[0, 1, 2, 3, 4, 5, 6, 7, 8, 9, 12, 1000, 10, 1000, 11], by kernel_rfl, ?_⟩
        conv => whnf
        refine ⟨by omega, rows_len rAtom_len _, ?_⟩
        conv => whnf
        refine ⟨_, takeN_rp (k := i) rAtom_len hil, ?_⟩
        conv => whnf
        refine ⟨_, match_spec b body[i] db[k] (by omega) (by omega) hta, .inl rfl, .inl ?_⟩
        conv => whnf
        generalize hmc : mch b body[i] db[k] = mb at hj
        obtain ⟨b2, ok⟩ := mb
        cases ok with
        | false =>
          conv => whnf
          simp only [Bool.false_eq_true, if_false, List.map_nil, List.append_nil] at hj
          exact ⟨m - 1, by omega, k + 1, _, new, wrap_id (by omega) (by omega), by omega, by omega, hj, .inr (by kernel_rfl)⟩
        | true =>
          conv => whnf
          simp only [if_true] at hj
          rw [hwi]
          refine .inr (.inr ⟨[0, 4, 2], [], ?_⟩)
          conv => whnf
          refine ⟨_, ih (i + 1) (by omega) b2 (outs ++ new) (by rw [List.length_append]; omega), fun r g2 hP => ?_⟩
          obtain ⟨rfl, hv⟩ := hP
          have hvl := visitL_len db (body.drop (i + 1)) b2
          rw [List.length_drop, show body.length - (i + 1) = n from by omega] at hvl
          rcases hv with ⟨hn0, rfl⟩ | rfl
          · refine .inl ?_
            conv => whnf
            rw [hn0, List.append_nil] at hj
            exact ⟨m - 1, by omega, k + 1, _, new, wrap_id (by omega) (by omega), by omega, by omega, hj, .inr (by kernel_rfl)⟩
          · refine .inl ?_
            conv => whnf
            refine ⟨m - 1, by omega, k + 1, _, new ++ (visitL db (body.drop (i + 1)) b2).map fun b => tupOf b q.1, wrap_id (by omega) (by omega), by omega, ?_, hj, .inr ?_⟩
            · simp only [List.length_append, List.length_map, List.length_nil] at hnl ⊢
              omega
            · rw [← List.append_assoc]; kernel_rfl
      · conv => whnf
        rw [drop_end (xs := db) (by omega)] at hj
        simp only [List.flatMap_nil, List.map_nil, List.append_nil] at hj
        refine ⟨[], ?_⟩
        conv => whnf
        rw [hj]
        exact ⟨rfl, .inr rfl⟩
end Go.Proofs.YtcjdfeafcmfgpaaGreatD
set_option linter.unusedVariables false
set_option linter.unusedSimpArgs false
set_option maxRecDepth 100000
namespace Go.Proofs.YtcjdfeafcmfgpaaGreatD
open Go Go.Proofs Go.Shelf Go.Sort
theorem SpecG.mono' {P : Program} {f : Nat} {vs : List V} {g : List (Option Obj)} {Post Post' : V → List (Option Obj) → Prop} (h : SpecG P f vs g Post) (hp : ∀ r g2, Post r g2 → Post' r g2) : SpecG P f vs g Post' := by
  refine ⟨h.1, fun E0 xs hin hv => (h.2 E0 xs hin hv).mono fun e w' he => ?_⟩
  cases e with
  | panicked chain => exact he.elim
  | outgrown => exact he.elim
  | returned x =>
    obtain ⟨r, g2, E2, h1, h2⟩ := he
    exact ⟨r, g2, E2, hp r g2 h1, h2⟩
theorem rows_map' {α β : Type} (f : β → List V) (g : α → β) (xs : List α) : rows (fun x => f (g x)) xs = rows f (xs.map g) := by
  induction xs with
  | nil => rfl
  | cons x xs ih => simp [rows, ih]
abbrev ListB := { l : List Int // l.length ≤ 1099511627776 }
theorem liftL : ∀ (xs : List (List Int)), (∀ x ∈ xs, x.length ≤ 1099511627776) → ∃ ys : List ListB, ys.map (fun y => y.1) = xs
  | [], _ => ⟨[], rfl⟩
  | x :: xs, h => by
    obtain ⟨ys, hy⟩ := liftL xs fun y hy => h y (by simp [hy])
    exact ⟨⟨x, h x (by simp)⟩ :: ys, by simp [hy]⟩
theorem tL_ro (x : List Int) : roV (intsT x) = ints x := by
  show V.ro _ (roVs _) = _
  rw [roVs_ci]; rfl
theorem sortLists_none (p : Option Addr) (cap : Nat) (fv : Value) (w : World) : Calls Tryz.prog 171 #[.slice p 0 cap, fv] w fun e w' => e = .returned (.tuple #[]) ∧ w' = w :=
  AnyF.slices_SortFunc_none { layL_ok with } p cap fv w
theorem sortLists_spec (xs : List (List Int)) (hb : ∀ x ∈ xs, x.length ≤ 1099511627776) (hsz : xs.length ≤ 1099511627776) :
    SpecG Tryz.prog 171 [.own 0 1 0 xs.length xs.length none, .fn 172 []] [some ⟨false, rows tL xs⟩] fun r g2 => r = .tup [] ∧ ∃ ys : List (List Int), ys.Perm xs ∧ ys.Pairwise (fun a b => ¬ cmpI b a < 0) ∧ g2 = [some ⟨false, rows tL ys⟩] := by
  obtain ⟨zs, rfl⟩ := liftL xs hb
  have := sort_spec1 layL_ok (fun x : ListB => intsT x.1) (fun x => by rw [tL_ro]; rfl) 172 (fun a b => cmpI a.1 b.1) (swo_of_tot (lt := fun a b => ltI a.1 b.1) ⟨fun a => totI.irr _, fun a b c => totI.tr _ _ _, fun a b => by
    rcases totI.tri a.1 b.1 with h | h | h
    · exact .inl h
    · exact .inr (.inl (Subtype.ext h))
    · exact .inr (.inr h)⟩ fun a b => ltI_cmp _ _) (fun x y => by rw [tL_ro, tL_ro]; exact slicesCompare_spec x.1 y.1 x.2 y.2) ⟨_, _, Tryz.func171, rfl, rfl⟩ sortLists_none zs (by rw [List.length_map] at hsz; omega)
  have e1 : ∀ zs : List ListB, rows (fun x : ListB => [intsT x.1]) zs = rows tL (zs.map fun y => y.1) := fun zs => rows_map' tL _ zs
  rw [e1] at this
  rw [List.length_map]
  refine SpecG.mono' this fun r g2 ⟨h1, ys, h2, h3, h4⟩ => ⟨h1, ys.map (·.1), h2.map _, ?_, ?_⟩
  · rw [List.pairwise_map]; exact h3
  · rw [h4, e1]
set_option maxHeartbeats 1000000 in
theorem compLists_none (p : Option Addr) (cap : Nat) (fv : Value) (w : World) : Calls Tryz.prog 259 #[.slice p 0 cap, fv] w fun e w' => e = .returned (.slice p 0 cap) ∧ w' = w := by
  go_enter Tryz.func259, Tryz.ntmps259
  go_wp2
  go_ret
  first | exact ⟨rfl, rfl⟩ | rfl
theorem compLists_walk : CompWalk Tryz.prog 259 1 fun vs => vs.headD (.bool false) := by
  intro α _ enc hk h1 ef g blk off cap d w eg hcmp hH hblk hF hsz hcap
  obtain ⟨ea, he'⟩ : ∃ ea : α → Value, enc = fun x => [ea x] := by
    refine ⟨fun x => (enc x).headD (.bool false), ?_⟩
    funext x
    have := hk x
    show enc x = [(enc x).headD (.bool false)]
    generalize enc x = l at this ⊢
    match l, this with
    | [a], _ => rfl
  clear hk
  subst he'
  exact compact_walk1 ea ef g blk off cap d w eg hcmp (fun x => h1 x _ (by simp)) hH hblk hF hsz hcap
theorem compLists_spec (xs : List (List Int)) (hb : ∀ x ∈ xs, x.length ≤ 1099511627776) (hsz : xs.length ≤ 1099511627776) :
    SpecG Tryz.prog 259 [.own 0 1 0 xs.length xs.length none, .fn 197 []] [some ⟨false, rows tL xs⟩] fun r g2 => r = .tr 1 (compL (fun a b => decide (a = b)) xs).length (rows tL (compL (fun a b => decide (a = b)) xs)) ∧ g2 = [none] := by
  obtain ⟨zs, rfl⟩ := liftL xs hb
  have := comp_specK (P := Tryz.prog) (k := 1) (by decide) (mk := fun vs => vs.headD (.bool false)) (mv := fun vs => vs.headD .any) (fun E vs xs hl h => by
    match vs, xs, hl, h with
    | [v], [x], _, h => exact h.1) compLists_walk (fun x : ListB => tL x.1) (fun x => rfl) (fun x c hc => by
      have : c = roV (intsT x.1) := by simpa [tL, roVs] using hc
      rw [this, tL_ro]; rfl) 197 (fun a b => decide (a.1 = b.1)) (fun x y => by
      show Spec _ _ [roV (intsT x.1), roV (intsT y.1)] _
      rw [tL_ro, tL_ro]; exact slicesEq_spec x.1 y.1 x.2 y.2) ⟨_, _, Tryz.func259, rfl, rfl⟩ compLists_none zs (by rw [List.length_map] at hsz; omega)
  rw [rows_map' tL] at this
  rw [List.length_map]
  refine SpecG.mono' this fun r g2 ⟨h1, h2⟩ => ⟨?_, h2⟩
  rw [h1, rows_map' tL, compL_map (fun a b => decide (a = b)) (fun y : ListB => y.1), ← compL_map (fun a b => decide (a = b)) (fun y : ListB => y.1), List.length_map]
end Go.Proofs.YtcjdfeafcmfgpaaGreatD
set_option linter.unusedVariables false
set_option linter.unusedSimpArgs false
set_option maxRecDepth 100000
namespace Go.Proofs.YtcjdfeafcmfgpaaGreatD
open Go Go.Proofs
def headsP (q : QueryE) (db : List FactC) : List (List Int) := (visitL db q.2 bNone).map fun b => tupOf b q.1
def wLists (xs : List (List Int)) : V := .tr 1 xs.length (rows tL xs)
set_option maxHeartbeats 4000000 in
theorem heads_spec (q : QueryE) (db : List FactC) (hq : cQuery q ≤ 1048576) (hd : cFactS db ≤ 1048576) (ht : ∀ a ∈ q.2, a.2.all isTerm = true) (hn : db.length ^ q.2.length ≤ 1099511627776) : Spec Tryz.prog 174 [vQuery q, vFactS db] (wLists (headsP q db)) := by
  have hb : cAtomS q.2 ≤ 1048576 := by unfold cQuery at hq; omega
  refine Spec_of mx Γ_ok Tryz.func174 rfl ?_
  conv => whnf
  refine .inr (.inr ⟨[2, 1, 0], [], ?_⟩)
  conv => whnf
  have hv := visit_spec q q.2 db hq hb hd ht q.2.length 0 (Nat.zero_add _) bNone [] (by simpa using hn)
  refine ⟨_, hv, fun r g2 hP => ?_⟩
  obtain ⟨rfl, hv⟩ := hP
  rw [List.drop_zero] at hv
  rcases hv with ⟨hn0, rfl⟩ | rfl
  · refine .inl ?_
    conv => whnf
    refine ⟨rfl, ?_⟩
    unfold headsP
    rw [hn0]; rfl
  · refine .inl ?_
    conv => whnf
    refine ⟨by rw [rows_len tL_len], ?_⟩
    rfl
theorem different_spec (xs : List (List Int)) (hb : ∀ x ∈ xs, x.length ≤ 1099511627776) (hsz : xs.length ≤ 1099511627776) :
    SpecG Tryz.prog 173 [.own 0 1 0 xs.length xs.length none] [some ⟨false, rows tL xs⟩] fun r g2 => g2 = [none] ∧ ∃ ys : List (List Int), ys.Perm xs ∧ ys.Pairwise (fun a b => ¬ cmpI b a < 0) ∧ r = wLists (compL (fun a b => decide (a = b)) ys) := by
  refine SpecG_of mx Γ_ok 1 Tryz.func173 rfl rfl (by decide) ?_
  conv => whnf
  refine .inr (.inr ⟨[0], [], ?_⟩)
  conv => whnf
  refine ⟨_, sortLists_spec xs hb hsz, fun r g2 hP => ?_⟩
  obtain ⟨rfl, ys, hp, hs, rfl⟩ := hP
  have hl : xs.length = ys.length := hp.length_eq.symm
  refine .inl ?_
  conv => whnf
  refine .inr (.inr ⟨[0], [], ?_⟩)
  conv => whnf
  have hc := compLists_spec ys (fun x hx => hb x (hp.mem_iff.1 hx)) (by omega)
  rw [← hl] at hc
  refine ⟨_, hc, fun r g2 hP => ?_⟩
  obtain ⟨rfl, rfl⟩ := hP
  refine .inr ?_
  conv => whnf
  refine ⟨[], ?_⟩
  conv => whnf
  refine ⟨by rw [rows_len tL_len], ?_⟩
  exact ⟨rfl, ys, hp, hs, rfl⟩
end Go.Proofs.YtcjdfeafcmfgpaaGreatD
set_option linter.unusedVariables false
set_option linter.unusedSimpArgs false
set_option maxRecDepth 100000
namespace Go.Proofs.YtcjdfeafcmfgpaaGreatD
open Go Go.Proofs
def sB (b : Bnd) : List Int := (List.range 20).map (fun k => (b k).getD (-1)) ++ (List.range 20).map (fun k => if (b k).isSome then 1 else 0)
theorem sB_at (b : Bnd) (i : Nat) : (sB b)[i]? = if i < 20 then some ((b i).getD (-1)) else if i < 40 then some (if (b (i - 20)).isSome then 1 else 0) else none := by
  unfold sB
  split
  · rename_i h
    rw [List.getElem?_append_left (by simpa using h), List.getElem?_map, List.getElem?_range h]; rfl
  · rename_i h
    rw [List.getElem?_append_right (by simp; omega)]
    simp only [List.length_map, List.length_range]
    split
    · rw [List.getElem?_map, List.getElem?_range (by omega)]; rfl
    · rw [List.getElem?_eq_none (by simp; omega)]
theorem bset_same (b : Bnd) (k : Nat) (v : Int) : bset b k v k = some v := by simp [bset]
theorem bset_ne {b : Bnd} {k i : Nat} {v : Int} (h : i ≠ k) : bset b k v i = b i := by simp [bset, h]
end Go.Proofs.YtcjdfeafcmfgpaaGreatD
set_option linter.unusedVariables false
set_option linter.unusedSimpArgs false
set_option maxRecDepth 100000
namespace Go.Proofs.YtcjdfeafcmfgpaaGreatD
open Go Go.Proofs
def tS (v : List Int) (t : Int) : Int := if t < 0 then -1 - t else v.getD t.toNat 0
def rL (xs : List Int) : List V := [ints xs]
theorem rL_len (xs : List Int) : (rL xs).length = 1 := rfl
theorem tL_ro' (xs : List Int) : roVs (tL xs) = rL xs := by
  show [roV (intsT xs)] = _
  rw [tL_ro]; rfl
def vLists (xs : List (List Int)) : V := .ro xs.length (rows rL xs)
theorem wLists_ro (xs : List (List Int)) : roV (wLists xs) = vLists xs := by
  show V.ro _ (roVs _) = _
  rw [roVs_rows tL_ro']; rfl
end Go.Proofs.YtcjdfeafcmfgpaaGreatD
set_option linter.unusedVariables false
set_option linter.unusedSimpArgs false
set_option maxRecDepth 100000
namespace Go.Proofs.YtcjdfeafcmfgpaaGreatD
open Go Go.Proofs
def sV (b : Bnd) : List Int := (sB b).take 20
end Go.Proofs.YtcjdfeafcmfgpaaGreatD
set_option linter.unusedVariables false
set_option linter.unusedSimpArgs false
namespace Go.Proofs.YtcjdfeafcmfgpaaGreatD
open Go Go.Proofs
theorem bindGo_ok : ∀ (ts vs : List Int) (b b2 : Bnd), ts.length = vs.length → bindGo ts vs b = (b2, true) → (∀ k u, b k = some u → b2 k = some u) ∧ ∀ t ∈ ts, 0 ≤ t → (b2 t.toNat).isSome = true
  | [], vs, b, b2, _, h => by
    have : b = b2 := by cases vs <;> simpa [bindGo] using h
    subst this
    exact ⟨fun _ _ h => h, fun t ht => by cases ht⟩
  | t :: ts, [], b, b2, hl, _ => by simp at hl
  | t :: ts, v :: vs, b, b2, hl, h => by
    have hl' : ts.length = vs.length := by simpa using hl
    simp only [bindGo] at h
    split at h
    · rename_i h0
      split at h
      · obtain ⟨i1, i2⟩ := bindGo_ok ts vs b b2 hl' h
        refine ⟨i1, fun x hx h1 => ?_⟩
        rcases List.mem_cons.1 hx with rfl | hx
        · omega
        · exact i2 x hx h1
      · cases h
    · rename_i h0
      split at h
      · rename_i hn
        obtain ⟨i1, i2⟩ := bindGo_ok ts vs _ b2 hl' h
        refine ⟨fun k u hk => i1 k u ?_, fun x hx h1 => ?_⟩
        · by_cases e : k = t.toNat
          · subst e; rw [hn] at hk; cases hk
          · rw [bset_ne e]; exact hk
        · rcases List.mem_cons.1 hx with rfl | hx
          · rw [i1 x.toNat v (bset_same _ _ _)]; rfl
          · exact i2 x hx h1
      · rename_i u hu
        split at h
        · obtain ⟨i1, i2⟩ := bindGo_ok ts vs b b2 hl' h
          refine ⟨i1, fun x hx h1 => ?_⟩
          rcases List.mem_cons.1 hx with rfl | hx
          · rw [i1 _ _ hu]; rfl
          · exact i2 x hx h1
        · cases h
theorem mch_ok {b b2 : Bnd} {a f : FactC} (h : mch b a f = (b2, true)) : (∀ k u, b k = some u → b2 k = some u) ∧ ∀ t ∈ a.2, 0 ≤ t → (b2 t.toNat).isSome = true := by
  unfold mch at h
  split at h
  · rename_i h0
    exact bindGo_ok a.2 f.2 b b2 h0.2 h
  · cases h
theorem visitL_ok (db : List FactC) : ∀ (body : List FactC) (b b2 : Bnd), b2 ∈ visitL db body b → (∀ k u, b k = some u → b2 k = some u) ∧ ∀ a ∈ body, ∀ t ∈ a.2, 0 ≤ t → (b2 t.toNat).isSome = true
  | [], b, b2, h => by
    have : b2 = b := by simpa [visitL] using h
    subst this
    exact ⟨fun _ _ h => h, fun a ha => by cases ha⟩
  | a :: body, b, b2, h => by
    simp only [visitL, List.mem_flatMap] at h
    obtain ⟨f, _, h⟩ := h
    split at h
    · rename_i hm
      obtain ⟨m1, m2⟩ := mch_ok (b := b) (b2 := (mch b a f).1) (a := a) (f := f) (Prod.ext rfl hm)
      obtain ⟨i1, i2⟩ := visitL_ok db body _ b2 h
      refine ⟨fun k u hk => i1 k u (m1 k u hk), fun x hx t ht h0 => ?_⟩
      rcases List.mem_cons.1 hx with rfl | hx
      · have := m2 t ht h0
        cases hc : (mch b x f).1 t.toNat with
        | none => rw [hc] at this; cases this
        | some u => rw [i1 _ _ hc]; rfl
      · exact i2 x hx t ht h0
    · cases h
theorem sV_at (b : Bnd) {k : Nat} (hk : k < 20) : (sV b).getD k 0 = (b k).getD (-1) := by
  have h1 := sB_at b k
  rw [if_pos hk] at h1
  unfold sV
  rw [List.getD_eq_getElem?_getD, List.getElem?_take, if_pos hk, h1]
  rfl
theorem tS_valOf (b : Bnd) (t : Int) (ht : isTerm t = true) (hb : 0 ≤ t → (b t.toNat).isSome = true) : tS (sV b) t = valOf b t := by
  have hr : -80 ≤ t ∧ t ≤ 19 := by simpa [isTerm, inR] using ht
  unfold tS valOf
  by_cases h0 : t < 0
  · rw [if_pos h0, if_neg (by simp [isVar, inR]; omega)]
    unfold constOf
    rw [if_pos (by simp [inR]; omega)]
  · rw [if_neg h0, if_pos (by simp [isVar, inR]; omega), sV_at b (by omega)]
    have := hb (by omega)
    unfold ba
    cases hc : b t.toNat with
    | none => rw [hc] at this; cases this
    | some u => rfl
end Go.Proofs.YtcjdfeafcmfgpaaGreatD
set_option linter.unusedVariables false
set_option linter.unusedSimpArgs false
set_option maxRecDepth 100000
namespace Go.Proofs.YtcjdfeafcmfgpaaGreatD
open Go Go.Proofs
def scanL (v : List Int) (out : List (List Int)) : Nat → Nat
  | 0 => 0
  | k + 1 => if ltI v (out.getD k []) then scanL v out k else k + 1
def insL (once : Bool) (out : List (List Int)) (v : List Int) : List (List Int) :=
  if once && decide (0 < scanL v out out.length) && decide (out.getD (scanL v out out.length - 1) [] = v) then out else out.take (scanL v out out.length) ++ v :: out.drop (scanL v out out.length)
def sortL (once : Bool) (l : List (List Int)) : List (List Int) := l.foldl (insL once) []
end Go.Proofs.YtcjdfeafcmfgpaaGreatD
set_option linter.unusedVariables false
set_option linter.unusedSimpArgs false
set_option maxRecDepth 100000
namespace Go.Proofs.YtcjdfeafcmfgpaaGreatD
open Go Go.Proofs
def rawP (q : QueryE) (db : List FactC) : List (List Int) := sortL true ((visitL db q.2 bNone).map sV)
end Go.Proofs.YtcjdfeafcmfgpaaGreatD
