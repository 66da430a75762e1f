/- Contracts and plain laws of this seat; no condition. -/
import Derived.Test.YtcjdfeafcmfgpaaGreatQ32
import Derived.Test.YtcjdfeafcmfgpaaGreatQ37
set_option linter.unusedVariables false
set_option linter.unusedSimpArgs false
set_option maxRecDepth 100000
namespace Go.Proofs.YtcjdfeafcmfgpaaGreatD
open Go Go.Proofs
theorem sdb_ro (s : List Int) (q : QueryW) (db : List FactC) : roV (.tup [vSchema s, wQuery q, wFactS db]) = .tup [vSchema s, vQuery q, vFactS db] := by
 show V.tup [roV _, roV _, roV _] = _
 rw [wQuery_ro, ints_roV, wFactS_ro]
theorem svq_ro (s : List Int) (vs : List QueryW) (q : QueryW) : roV (.tup [vSchema s, wQueryS vs, wQuery q]) = .tup [vSchema s, vQueryS vs, vQuery q] := by
 show V.tup [roV _, roV _, roV _] = _
 rw [wQueryS_ro, ints_roV, wQuery_ro]
theorem wEqU_ro (o : Option QueryT) : roV (wEq o) = .tup [vQuery (unO o).1, cb (unO o).2] := by
 rw [wEq_unO]
 show V.tup [roV (wQuery _), _] = _
 rw [wQuery_ro]
 rfl
structure UnfAll (s : List Int) (vs : List QueryT) (q : QueryT) (db : List FactC) : Prop where
 pow : overK q (pViewFacts s vs db).length = true → (pViewFacts s vs db).length ^ q.2.length ≤ 549755813888
 none_ : pUnfO s vs q = none → overS q (pViewFacts s vs db) = []
 some_ : ∀ y, pUnfO s vs q = some y → (overK y db.length = true → db.length ^ y.2.length ≤ 549755813888) ∧ ∀ x, x ∈ overS q (pViewFacts s vs db) ↔ x ∈ overS y db
theorem pow_le {a b n m K : Nat} (h1 : a ≤ b) (h2 : n ≤ m) (hb : 1 ≤ b) (h3 : b ^ m ≤ K) : a ^ n ≤ K :=
 Nat.le_trans (Nat.le_trans (Nat.pow_le_pow_left h1 n) (Nat.pow_le_pow_right hb h2)) h3
theorem unf_all {s : List Int} {vs : List QueryW} {q : QueryW} {db : List FactC} (hvs : okVs vs) (hqo : smOver q) (hv : pAreViews s vs = true) (hq : isQuery (pViewSchema vs) q = true) (hd : isDb s db = true) (hdb : smDb 9 4 db) : UnfAll s vs q db := by
 obtain ⟨f1, f2⟩ := vf_few (s := s) hdb hvs
 have hU := unf_ok hv hq
 have hsq := isQuery_safeQ hq
 obtain ⟨q1, q2, q3, q4⟩ := hqo
 obtain ⟨hV1, hV2⟩ := views_unf hv
 have hsmv : ∀ v ∈ vs, smQ v := fun v hm => (hvs.2 v hm).2.resolve_left (view_q hv v hm).2
 have hbody := body_ok hq
 have hat : ∀ a ∈ q.2, viewAt vs a ∈ vs := fun a ha => by
  obtain ⟨j, h1, h2, _⟩ := hbody a ha
  rw [viewAt_mem h2 a h1]
  exact List.getElem_mem h2
 have hfew : ∀ v ∈ vs, ∀ i : Nat, 4 ≤ i → has (varsOf v) (i : Int) = false := fun v hm =>
  vars_few (isQuery_safeQ (view_q hv v hm).1).2 fun a ha t ht => ((hsmv v hm).2.2.2.2 a ha).2.2 t ht |>.2
 have hqfew : ∀ i : Nat, 4 ≤ i → has (varsOf q) (i : Int) = false := vars_few hsq.2 fun a ha t ht => ((q4 a ha).2.2 t ht).2
 obtain ⟨st, hst⟩ := uAll_some (vs := vs) q.2 (varsOf q, [], [], []) 4 (fun a ha => hfew _ (hat a ha)) (top_few hqfew) (by omega)
 have hK : overK q (pViewFacts s vs db).length = true := overK_of hsq q1 q2 (by omega) (fun a ha => (q4 a ha).2.1) (by omega)
 have hsat : ∀ v : Int → Int, Sat v (pViewFacts s vs db) q.2 ↔ ∀ a ∈ q.2, ViewF vs db (valA v a) := fun v =>
  ⟨fun h a ha => ((vf_iff hv hd _).1 (h a ha)).2, fun h a ha => (vf_iff hv hd _).2 ⟨by
   obtain ⟨j, h1, h2, _⟩ := hbody a ha
   exact ⟨j, h2, h1⟩, h a ha⟩⟩
 have hO : pUnfO s vs q = pUnf vs q := by
  unfold pUnfO
  rw [hv, hq, Bool.and_self, if_pos rfl]
 refine ⟨fun _ => pow_le f1 q3 (by decide) (show 228 ^ 3 ≤ _ by decide), fun hn => ?_, fun y hy => ?_⟩
 ·refine List.eq_nil_iff_forall_not_mem.2 fun x hx => ?_
  obtain ⟨v, hv1, _⟩ := (over_iff hsq hK x).1 hx
  obtain ⟨y, hy, _⟩ := unf_comp hU hst ((hsat v).1 hv1)
  rw [hO, hy] at hn
  cases hn
 ·rw [hO] at hy
  obtain ⟨y1, y2, y3, y4⟩ := unf_form hU hy
  have hne : ∃ a r, q.2 = a :: r ∧ 1 ≤ (viewAt vs a).2.length := by
   cases he : q.2 with
   | nil => rw [he] at q2; simp at q2
   | cons a r => exact ⟨a, r, rfl, (hsmv _ (hat a (by rw [he]; simp))).2.2.1⟩
  obtain ⟨y5, y6⟩ := unf_atoms hU hV2 hne hy
  have hsum : (q.2.map fun a => (viewAt vs a).2.length).sum ≤ 9 := by
   have key : ∀ l : List AtomD, (∀ a ∈ l, a ∈ q.2) → (l.map fun a => (viewAt vs a).2.length).sum ≤ 3 * l.length := by
    intro l
    induction l with
    | nil => intro _; simp
    | cons a l ih =>
     intro h
     have h1 := ih fun x hx => h x (by simp [hx])
     have h2 := (hsmv _ (hat a (h a (by simp)))).2.2.2.1
     rw [List.map_cons, List.sum_cons, List.length_cons]
     omega
   have := key q.2 fun a ha => ha
   omega
  have hsy : safeQ y := ⟨y1, y2⟩
  have hKy : overK y db.length = true := overK_of hsy (by omega) y6 (by omega) y5 (by have := hdb.1; omega)
  refine ⟨fun _ => pow_le hdb.1 (show y.2.length ≤ 9 by omega) (by decide) (show 9 ^ 9 ≤ _ by decide), fun x => ?_⟩
  rw [over_iff hsq hK, over_iff hsy hKy]
  constructor
  ·rintro ⟨v, hv1, rfl⟩
   obtain ⟨z, hz, V, hV1', hV2'⟩ := unf_comp hU hst ((hsat v).1 hv1)
   have e : some z = some y := hz.symm.trans hy
   cases e
   exact ⟨V, hV1', hV2'.symm⟩
  ·rintro ⟨V, hV, rfl⟩
   obtain ⟨W, hW1, hW2⟩ := unf_sound hU hy hV
   exact ⟨W, (hsat W).2 hW1, hW2.symm⟩
def exUnf : Exs := { ex := fun f => Nat.beq f 36 || Nat.beq f 17, hid := fun _ => false }
set_option maxHeartbeats 16000000 in
theorem law_FnUnfoldings (x0 : List Int) (q0 : x0.length ≤ maxLen ∧ ∀ x ∈ x0, (Lit.int .u8 x).wf = true) : Spec Tryz.prog 5 [.ro x0.length (rows (fun x => [.sc (.int .u8 x)]) x0)] (cb true) := by
 show Spec Tryz.prog 5 [.ro x0.length (rows cu8 x0)] (cb true)
 refine Spec_ofE (ex := exUnf) mx Γ_ok Tryz.func5 rfl ?_
 conv => whnf
 refine ⟨_, big_spec x0, .inl rfl, .inl ?_⟩
 conv => whnf
 generalize hb : decide ((x0.length : Int) > 1048576) = b
 cases b with
 | true =>
  conv => whnf
  rfl
 | false =>
 have hl0 : x0.length ≤ 1099511627776 := by have := of_decide_eq_false hb; omega
 conv => whnf
 refine .inr (.inr ⟨[], [], ?_⟩)
 conv => whnf
 refine ⟨_, drawUnfoldQuery_g x0 hl0, fun r g2 hP => ?_⟩
 obtain ⟨s, vs, q, rfl, hs, hvs, hqo, rfl⟩ := hP
 have hss : cSchema s ≤ 1048576 := by show s.length ≤ _; omega
 have hvz := okVs_size hvs
 have hqs := qSm_size (smOver_sm hqo)
 refine .inl ?_
 rw [svq_ro]
 conv => whnf
 refine ⟨_, implUnfold_spec s vs q hss hvz hqs, .inl rfl, .inl ?_⟩
 rw [wEqU_ro]
 have hOs : cQuery (unO (pUnfO s vs q)).1 ≤ 1048576 := by
  cases h : pUnfO s vs q with
  | none => decide
  | some y =>
   have := pUnfO_bound h
   show cQuery y ≤ _
   omega
 generalize ho : pUnfO s vs q = o at hOs
 conv => whnf
 refine ⟨_, specUnfoldQuery_spec s vs q hss hvz hqs, .inl rfl, .inl ?_⟩
 rw [wEqU_ro, ho]
 conv => whnf
 refine ⟨[0, 1, 2, 3, 4, 5, 6, 7, 8, 9, 10, 11, 13, 14, 12, 15, 16, 17], by kernel_rfl, ?_⟩
 conv => whnf
 rw [bne_self_eq_false]
 conv => whnf
 refine ⟨_, specEqualQueries_spec (unO o).1 (unO o).1 hOs hOs, .inl rfl, .inl ?_⟩
 rw [decide_eq_true rfl]
 conv => whnf
 refine ⟨_, implAreViews_spec s vs hss hvz, .inl rfl, .inl ?_⟩
 conv => whnf
 refine ⟨_, specAreViews_spec s vs hss hvz, .inl rfl, .inl ?_⟩
 conv => whnf
 rw [bne_self_eq_false]
 conv => whnf
 refine ⟨[0, 1, 2, 3, 4, 5, 7, 6, 8, 9, 10], by kernel_rfl, ?_⟩
 conv => whnf
 refine ⟨_, specAreViews_spec s vs hss hvz, .inl rfl, .inl ?_⟩
 generalize hav : pAreViews s vs = av
 cases av with
 | false =>
  obtain rfl : o = none := ho.symm.trans (by unfold pUnfO; rw [hav]; rfl)
  conv => whnf
  rfl
 | true =>
 conv => whnf
 refine ⟨_, implViewSchema_spec vs hvz, .inl rfl, .inl ?_⟩
 rw [wSchema_ro]
 conv => whnf
 refine ⟨_, specIsQuery_spec (pViewSchema vs) q (by show (pViewSchema vs).length ≤ _; unfold pViewSchema; rw [List.length_map]; have := hvs.1; omega) hqs, .inl rfl, .inl ?_⟩
 generalize hqv : isQuery (pViewSchema vs) q = qv
 cases qv with
 | false =>
  obtain rfl : o = none := ho.symm.trans (by unfold pUnfO; rw [hqv, Bool.and_false]; rfl)
  conv => whnf
  rfl
 | true =>
 conv => whnf
 refine .inr (.inr ⟨[], [], ?_⟩)
 conv => whnf
 refine ⟨_, drawAnswers_g x0 hl0, fun r g2 hP => ?_⟩
 obtain ⟨s', q', db, rfl, _, _, _, hdb, rfl⟩ := hP
 have hds := smDb_size hdb (by omega) (by omega)
 obtain ⟨f1, f2⟩ := vf_few (s := s) hdb hvs
 refine .inl ?_
 rw [sdb_ro]
 conv => whnf
 refine ⟨_, implViewFacts_spec s vs db hss hvz hds, .inl rfl, .inl ?_⟩
 rw [wFactS_ro]
 conv => whnf
 refine ⟨_, specViewFacts_spec s vs db hss hvz hds, .inl rfl, .inl ?_⟩
 rw [wFactS_ro]
 conv => whnf
 refine ⟨_, specEqualFacts_spec (pViewFacts s vs db) (pViewFacts s vs db) f2 f2, .inl rfl, .inl ?_⟩
 rw [decide_eq_true rfl]
 conv => whnf
 refine ⟨_, specIsDatabase_spec s db (by omega) hds, .inl rfl, .inl ?_⟩
 generalize hdd : isDb s db = dd
 cases dd with
 | false =>
  conv => whnf
  refine ⟨_, specIsDatabase_spec s db (by omega) hds, .inl rfl, .inl ?_⟩
  rw [hdd]
  conv => whnf
  rfl
 | true =>
 have F := unf_all hvs hqo hav hqv hdd hdb
 conv => whnf
 refine ⟨_, specAnswerOver_spec q (pViewFacts s vs db) hqs f2 F.pow, .inl rfl, .inl ?_⟩
 rw [wLists_ro]
 cases o with
 | none =>
  rw [F.none_ ho]
  conv => whnf
  rfl
 | some y =>
  obtain ⟨g1, g2⟩ := F.some_ y ho
  obtain ⟨a1, a2⟩ := over_size q (pViewFacts s vs db) F.pow
  obtain ⟨b1, b2⟩ := over_size y db g1
  have hq1 := hqo.1
  have hy1 : y.1.length ≤ 1048576 := by
   have : cQuery y ≤ 1048576 := hOs
   unfold cQuery at this
   omega
  conv => whnf
  refine ⟨_, specAnswerOver_spec y db hOs hds g1, .inl rfl, .inl ?_⟩
  rw [wLists_ro]
  conv => whnf
  refine ⟨_, implSameTuples_spec (overS q (pViewFacts s vs db)) (overS y db) (by omega) (fun z hz => by rw [a2 z hz]; omega) (by omega) (fun z hz => by rw [b2 z hz]; omega), .inl rfl, .inl ?_⟩
  rw [(sameT_iff _ _).2 g2]
  conv => whnf
  rfl
end Go.Proofs.YtcjdfeafcmfgpaaGreatD
