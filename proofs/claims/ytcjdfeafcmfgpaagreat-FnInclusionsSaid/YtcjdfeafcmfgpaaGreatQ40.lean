/- Contracts and plain laws of this seat; no condition. -/
import Derived.Test.YtcjdfeafcmfgpaaGreatQ39
set_option linter.unusedVariables false
set_option linter.unusedSimpArgs false
set_option maxRecDepth 100000
namespace Go.Proofs.YtcjdfeafcmfgpaaGreatD
open Go Go.Proofs
theorem addition_gen (s : List Int) (q : QueryT) (x : InclL) (a : AtomC) (hq : cQuery q ≤ 1048576) (hs : s.length ≤ 1099511627776) (hx : pIsInclusion s x = true) (hf : a.1 = x.1) (ha : isAtom s a = true) : Spec Tryz.prog 124 [vSchema s, vQuery q, vInclusion x, vAtom a] (wAdd (addP s q x a)) := by
 obtain ⟨_, _, h0, _⟩ := incl_ok hx
 obtain ⟨fr, P, t, Q⟩ := x
 simp only at h0 hf
 obtain ⟨to, rfl⟩ : ∃ to : Nat, t = (to : Int) := ⟨t.toNat, by omega⟩
 exact addition_spec s q fr P Q to a hq hs hx hf ha
theorem l14Add_gen (s : List Int) (q : QueryT) (x : InclL) (i : Nat) (hq : cQuery q ≤ 1048576) (hs : s.length ≤ 1099511627776) (hi : i < q.2.length) (hx : pIsInclusion s x = true) (hf : q.2[i].1 = x.1) (ha : allA s q.2) : Spec Tryz.prog 128 [vSchema s, vQuery q, vInclusion x, ci i] (addS s q x q.2[i].2) := by
 obtain ⟨_, _, h0, _⟩ := incl_ok hx
 obtain ⟨fr, P, t, Q⟩ := x
 simp only at h0 hf
 obtain ⟨to, rfl⟩ : ∃ to : Nat, t = (to : Int) := ⟨t.toNat, by omega⟩
 exact l14Add_spec s q fr P Q to i hq hs hi hx hf ha
theorem closed_wAdd (o : Option AtomC) : closed (wAdd o) := by
 cases o with
 | none => exact ⟨⟨trivial, trivial, trivial⟩, trivial, trivial⟩
 | some a => exact ⟨⟨trivial, closeds_rows (f := ciL) (fun x => ⟨trivial, trivial⟩) _, trivial⟩, trivial, trivial⟩
theorem both_fail {s : List Int} {ks : List FactK} {l : List InclL} (n : Nat) {x : QueryT} (h : chZ ks x = none) : bothGo s ks l n x = (([], []), 1) := by
 unfold bothGo; rw [h]
theorem both_done {s : List Int} {ks : List FactK} {l : List InclL} (n : Nat) {x y : QueryT} (h : chZ ks x = some y) (hm : missGo y.2 0 l = none) : bothGo s ks l n x = (y, 0) := by
 unfold bothGo; rw [h]; simp only; rw [hm]
theorem both_none {s : List Int} {ks : List FactK} {l : List InclL} (n : Nat) {x y : QueryT} {k i : Nat} (h : chZ ks x = some y) (hm : missGo y.2 0 l = some (k, i)) (ha : addP s y (l.getD k (0, [], 0, [])) (y.2.getD i (0, [])) = none) : bothGo s ks l n x = (y, 2) := by
 unfold bothGo; rw [h]; simp only; rw [hm]; simp only; rw [ha]
theorem both_full {s : List Int} {ks : List FactK} {l : List InclL} (n : Nat) {x y : QueryT} {k i : Nat} {a : AtomC} (h : chZ ks x = some y) (hm : missGo y.2 0 l = some (k, i)) (ha : addP s y (l.getD k (0, [], 0, [])) (y.2.getD i (0, [])) = some a) (h8 : y.2.length = 8) : bothGo s ks l n x = (y, 2) := by
 unfold bothGo; rw [h]; simp only; rw [hm]; simp only; rw [ha]; simp only; rw [if_pos h8]
theorem both_out {s : List Int} {ks : List FactK} {l : List InclL} {x y : QueryT} {k i : Nat} {a : AtomC} (h : chZ ks x = some y) (hm : missGo y.2 0 l = some (k, i)) (ha : addP s y (l.getD k (0, [], 0, [])) (y.2.getD i (0, [])) = some a) : bothGo s ks l 0 x = (y, 2) := by
 unfold bothGo; rw [h]; simp only; rw [hm]; simp only; rw [ha]; simp only; split <;> rfl
theorem both_next {s : List Int} {ks : List FactK} {l : List InclL} (n : Nat) {x y : QueryT} {k i : Nat} {a : AtomC} (h : chZ ks x = some y) (hm : missGo y.2 0 l = some (k, i)) (ha : addP s y (l.getD k (0, [], 0, [])) (y.2.getD i (0, [])) = some a) (h8 : y.2.length ≠ 8) : bothGo s ks l (n + 1) x = bothGo s ks l n (y.1, y.2 ++ [a]) := by
 conv => lhs; unfold bothGo
 rw [h]; simp only; rw [hm]; simp only; rw [ha]; simp only; rw [if_neg h8]
theorem chz_head {ks : List FactK} : ∀ (n : Nat) {q y : QueryT}, chz ks n q = some y → y.1.length = q.1.length
 | 0, q, y, h => by cases h
 | n + 1, q, y, h => by
  simp only [chz] at h
  cases hv : viol q ks with
  | none => rw [hv] at h; cases h; rfl
  | some r =>
   obtain ⟨k, i, j⟩ := r
   rw [hv] at h
   simp only at h
   cases he : eqP q (tA q i j) (tB q i j) with
   | none => rw [he] at h; cases h
   | some z =>
    rw [he] at h
    have h1 := chz_head n h
    have h2 : z.1.length = q.1.length := by
     unfold eqP at he
     split at he
     ·cases he; rfl
     ·split at he
      ·cases he
      ·split at he <;> cases he <;> simp [pReplaceTerm]
    omega
def okB8 (s : List Int) (x : QueryT) : Prop := x.1.length ≤ 3 ∧ allA s x.2 ∧ x.2.length ≤ 8
theorem allA_sum {s : List Int} : ∀ {l : List AtomC}, allA s l → sumB cAtom l ≤ 3 * l.length
 | [], _ => by simp [sumB]
 | a :: l, h => by
  have h1 := allA_sum (l := l) fun x hx => h x (by simp [hx])
  have h2 : cAtom a = a.2.length := rfl
  have h3 := (atom_fine (h a (by simp))).1
  simp only [sumB, List.length_cons]
  omega
theorem okB8_size {s : List Int} {x : QueryT} (h : okB8 s x) : cQuery x ≤ 1048576 := by
 obtain ⟨h1, h2, h3⟩ := h
 have := allA_sum h2
 show x.1.length + (x.2.length + sumB cAtom x.2) ≤ _
 omega
theorem okB8_chase {s : List Int} {ks : List FactK} {x y : QueryT} (h : okB8 s x) (hc : chZ ks x = some y) : okB8 s y := by
 obtain ⟨h1, h2, h3⟩ := h
 obtain ⟨a1, a2⟩ := chz_all (s := s) _ (allA_ok h2) h2 hc
 have a3 := chz_head _ hc
 exact ⟨by omega, a1, by omega⟩
theorem isQuery_allA {s : List Int} {q : QueryT} (h : isQuery s q = true) : okB8 s q := by
 have h1 := isQuery_small h
 simp only [isQuery, fineQ, Bool.and_eq_true] at h
 exact ⟨h1.1, List.all_eq_true.1 h.2.2.2.1, by have := h1.2.1; omega⟩
theorem nextW_20 (u : Nat → Bool) {v : Nat} : ∀ os : List (Option Int), (fillP u os v).2 ≤ 20 → ∀ t ∈ (fillP u os v).1, (∃ w : Nat, t = w ∧ w < 20) ∨ some t ∈ os
 | [], h, t, ht => by cases ht
 | some a :: r, h, t, ht => by
  simp only [fillP, List.mem_cons] at h ht
  rcases ht with rfl | ht
  ·exact .inr (by simp)
  ·exact (nextW_20 u r h t ht).imp id fun h => by simp [h]
 | none :: r, h, t, ht => by
  simp only [fillP, List.mem_cons] at h ht
  rcases ht with rfl | ht
  ·left
   have := fillP_ge u r (nextW u (20 - v) v + 1)
   exact ⟨_, rfl, by omega⟩
  ·exact (nextW_20 u r h t ht).imp id fun h => by simp [h]
theorem addP_atom {s : List Int} {q : QueryT} {x : InclL} {a b : AtomC} (hx : pIsInclusion s x = true) (hf : a.1 = x.1) (ha : isAtom s a = true) (h : addP s q x a = some b) : isAtom s b = true := by
 have hsch := incl_schema hx
 obtain ⟨_, _, h0, hto, hPQ, hP, hQ⟩ := incl_ok hx
 obtain ⟨a1, a2, a3⟩ := atom_fine ha
 unfold addP at h
 split at h
 ·rename_i h20
  cases h
  have hn3 := isSchema_le hsch (i := x.2.2.1.toNat)
  have hto' : x.2.2.1.toNat < s.length := by omega
  have hpos : 1 ≤ s.getD x.2.2.1.toNat 0 := by
   rw [getD_at' hto']
   have := List.all_eq_true.1 (Bool.and_eq_true _ _ ▸ hsch : (s.all fun x => inR x 1 3) = true ∧ _).1 _ (List.getElem_mem hto')
   simp only [inR, Bool.and_eq_true, decide_eq_true_eq] at this
   exact this.1
  have hlen : (addArgs q x a.2 (s.getD x.2.2.1.toNat 0).toNat).1.length = (s.getD x.2.2.1.toNat 0).toNat := by
   unfold addArgs; rw [fillP_len, slots_len]
  simp only [isAtom, takesS, Bool.and_eq_true, decide_eq_true_eq]
  refine ⟨⟨hsch, ?_, by rw [hlen]; omega⟩, List.all_eq_true.2 fun t ht => ?_⟩
  ·simp only [inR, Bool.and_eq_true, decide_eq_true_eq]; omega
  ·have hterm : -80 ≤ t ∧ t < 20 := by
    unfold addArgs at ht h20
    rcases nextW_20 _ _ h20 t ht with ⟨w, rfl, hw⟩ | hm
    ·omega
    ·simp only [slots, List.mem_map, List.mem_range] at hm
     obtain ⟨p, _, hp⟩ := hm
     refine srcTo_term (fun k hk => ?_) a3 x.2.2.2.length (by omega) hp
     obtain ⟨j, h1, h2⟩ := pl_nat hP hk
     refine ⟨j, by rw [getD_at' hk]; exact h1, ?_⟩
     rw [hf] at a2
     omega
   simp only [isTerm, inR, Bool.and_eq_true, decide_eq_true_eq]
   omega
 ·cases h
theorem okB8_add {s : List Int} {y : QueryT} {x : InclL} {a b : AtomC} (hy : okB8 s y) (h8 : y.2.length ≠ 8) (hx : pIsInclusion s x = true) (hf : a.1 = x.1) (ha : isAtom s a = true) (h : addP s y x a = some b) : okB8 s (y.1, y.2 ++ [b]) := by
 obtain ⟨h1, h2, h3⟩ := hy
 refine ⟨h1, fun c hc => ?_, by simp only [List.length_append, List.length_cons, List.length_nil]; omega⟩
 rcases List.mem_append.1 hc with hc | hc
 ·exact h2 c hc
 ·rw [List.mem_singleton.1 hc]; exact addP_atom hx hf ha h
theorem areIncls_at {s : List Int} {l : List InclL} (h : areIncls s l = true) {k : Nat} (hk : k < l.length) : pIsInclusion s l[k] = true := by
 simp only [areIncls, Bool.and_eq_true] at h
 exact List.all_eq_true.1 h.1 _ (List.getElem_mem hk)
theorem getD_incl {l : List InclL} {k : Nat} (hk : k < l.length) : l.getD k (0, [], 0, []) = l[k] := by simp [List.getD_eq_getElem?_getD, hk]
theorem miss_facts {s : List Int} {l : List InclL} {y : QueryT} {k i : Nat} (hl : areIncls s l = true) (hm : missGo y.2 0 l = some (k, i)) : ∃ (hk : k < l.length) (hi : i < y.2.length), y.2[i].1 = l[k].1 ∧ pIsInclusion s l[k] = true ∧ l.getD k (0, [], 0, []) = l[k] ∧ y.2.getD i (0, []) = y.2[i] := by
 obtain ⟨j, h1, h2, h3, h4, _⟩ := missGo_some hm
 have hkj : k = j := by omega
 subst hkj
 rw [getD_fact h3] at h4
 exact ⟨h2, h3, h4, areIncls_at hl h2, getD_incl h2, getD_fact h3⟩
theorem missGo_at {at0 : List AtomC} {l : List InclL} {n j : Nat} (hj : j < l.length) : missGo at0 n (l.drop j) = if 0 ≤ lackI at0 l[j] then some (n, (lackI at0 l[j]).toNat) else missGo at0 (n + 1) (l.drop (j + 1)) := by
 rw [List.drop_eq_getElem_cons hj]; rfl
theorem lackI_cases (at0 : List AtomC) (x : InclL) : lackI at0 x = -1 ∨ 0 ≤ lackI at0 x := by
 rcases firstI_get (fun k => !okK at0 x k) (ran 0 at0.length) with h | ⟨k, _, h, _⟩
 ·exact .inl h
 ·right
  have : lackI at0 x = k := h
  omega
theorem pBoth_ok {s : List Int} {q : QueryT} {ks : List FactK} {l : List InclL} (h : (isQuery s q && (pAreKeys s ks && areIncls s l)) = true) : pChaseBoth s q ks l = bothGo s ks l 40 q := by
 unfold pChaseBoth; rw [if_pos h]
theorem pBoth_no {s : List Int} {q : QueryT} {ks : List FactK} {l : List InclL} (h : (isQuery s q && (pAreKeys s ks && areIncls s l)) = false) : pChaseBoth s q ks l = (([], []), 1) := by
 unfold pChaseBoth; rw [if_neg (by rw [h]; simp)]
def wBoth (r : QueryT × Int) : V := .tup [wQuery r.1, ci r.2]
set_option maxHeartbeats 8000000 in
theorem implChaseBoth_gen (s : List Int) (q : QueryT) (ks : List FactK) (l : List InclL) (hs : cSchema s ≤ 1048576) (hq : cQuery q ≤ 1048576) (hk : cKeyS ks ≤ 1048576) (hl : cInclusionS l ≤ 1048576) : Spec Tryz.prog 27 [vSchema s, vQuery q, vKeyS ks, vInclusionS l] (wBoth (pChaseBoth s q ks l)) := by
 have hsl : s.length ≤ 1099511627776 := Nat.le_trans hs (by decide)
 refine Spec_of mx Γ_ok Tryz.func27 rfl ?_
 conv => whnf
 refine ⟨_, implIsQuery_spec s q hs hq, .inl rfl, .inl ?_⟩
 conv => whnf
 generalize hb1 : isQuery s q = b1
 cases b1 with
 | false =>
  conv => whnf
  rw [pBoth_no (by rw [hb1]; rfl)]
  exact .inr ⟨1, .inr ⟨2, rfl⟩⟩
 | true =>
 conv => whnf
 refine ⟨_, implAreKeys_gen s ks hs hk, .inl rfl, .inl ?_⟩
 conv => whnf
 generalize hb2 : pAreKeys s ks = b2
 cases b2 with
 | false =>
  conv => whnf
  rw [pBoth_no (by rw [hb1, hb2]; rfl)]
  exact .inr ⟨1, .inr ⟨2, rfl⟩⟩
 | true =>
 conv => whnf
 refine ⟨_, areInclusions_spec s l hsl hl, .inl rfl, .inl ?_⟩
 conv => whnf
 generalize hb3 : areIncls s l = b3
 cases b3 with
 | false =>
  conv => whnf
  rw [pBoth_no (by rw [hb1, hb2, hb3]; rfl)]
  exact .inr ⟨1, .inr ⟨2, rfl⟩⟩
 | true =>
 rw [pBoth_ok (by rw [hb1, hb2, hb3]; rfl)]
 conv => whnf
 refine ⟨[(2,0),(3,0),(4,0),(5,199),(5,299),(8,0),(10,0)], fun m st => ∃ (k : Nat) (e : Int) (x : QueryT) (vh vb : V), e = k ∧ m + k = 40 ∧ okB8 s x ∧ bothGo s ks l 40 q = bothGo s ks l m x ∧ vh = ints x.1 ∧ vb = vAtomS x.2 ∧
  st = ⟨102, [(2, vKeyS ks), (3, vInclusionS l), (4, .ptr 0 0), (5, .ptr 1 0), (5, .ptr 1 0), (8, .ptr 2 0), (10, ci e)], [some ⟨true, [ints s]⟩, some ⟨true, [vh, vb]⟩, some ⟨true, [cnil, cnil]⟩]⟩,
  40, ⟨0, 0, q, ints q.1, vAtomS q.2, rfl, rfl, isQuery_allA hb1, rfl, rfl, rfl, by kernel_rfl⟩, ?_⟩
 rintro m st ⟨k, _, x, _, _, rfl, hm, hx, hgo, rfl, rfl, rfl⟩
 rw [hgo]
 clear hgo
 have hxs := okB8_size hx
 conv => whnf
 refine ⟨_, chase_spec x ks hxs hk (allA_ok hx.2.1), .inl rfl, .inr ?_⟩
 cases hc : chZ ks x with
 | none =>
  rw [both_fail m hc]
  conv => whnf
  exact .inr ⟨1, .inr ⟨2, rfl⟩⟩
 | some y =>
 have hy := okB8_chase hx hc
 have hys := okB8_size hy
 have hys' := hys
 unfold cQuery cAtomS at hys'
 conv => whnf
 refine ⟨[(2,0),(3,0),(4,0),(5,0),(8,0),(10,0),(13,0),(14,0),(15,0)], fun m' st => ∃ (j : Nat) (e c d : Int), e = j ∧ m' + j = l.length + 1 ∧ ((d = -1 ∧ missGo y.2 0 l = missGo y.2 j (l.drop j)) ∨ ∃ k' i' : Nat, c = k' ∧ d = i' ∧ missGo y.2 0 l = some (k', i')) ∧
  st = ⟨102, [(2, vKeyS ks), (3, vInclusionS l), (4, .ptr 0 0), (5, .ptr 1 0), (8, .ptr 2 0), (10, ci k), (13, ci c), (14, ci d), (15, ci e)], [some ⟨true, [ints s]⟩, some ⟨true, [.own 3 1 0 y.1.length y.1.length none, .own 4 2 0 y.2.length y.2.length none]⟩, some ⟨true, [cnil, cnil]⟩, some ⟨false, rows ciL y.1⟩, some ⟨false, rows tAtom y.2⟩]⟩,
  l.length + 1, ⟨0, 0, -1, -1, rfl, rfl, .inl ⟨rfl, rfl⟩, by kernel_rfl⟩, ?_⟩
 rintro m' st ⟨j, _, c, d, rfl, hm', hcd, rfl⟩
 have hlb : l.length ≤ 1048576 := by unfold cInclusionS at hl; omega
 rcases hcd with ⟨rfl, hms⟩ | ⟨k', i', rfl, rfl, hms⟩
 ·rcases Nat.lt_or_ge j l.length with hj | hj
  ·obtain ⟨b1, b2, b3⟩ := incl_size hl hj
   conv => whnf
   rw [show decide ((j : Int) < (l.length : Int)) = true from decide_eq_true (by omega)]
   conv => whnf
   refine ⟨[4003, 4005, 4015, 0, 1, 3, 4, 5, 6, 2, 7, 8, 9], by kernel_rfl, ?_⟩
   conv => whnf
   refine ⟨_, _, takeN_all (by rw [rows_len ciL_len]), roVs_ci _, ?_⟩
   conv => whnf
   refine ⟨_, _, takeN_all (by rw [rows_len tAtom_len]), roVs_rows tAtom_ro _, ?_⟩
   conv => whnf
   refine ⟨_, rfl, ?_⟩
   conv => whnf
   refine ⟨by omega, rows_len rInclusion_len _, ?_⟩
   conv => whnf
   refine ⟨_, takeN_rp (k := j) rInclusion_len hj, ?_⟩
   conv => whnf
   refine ⟨_, asFacts_spec y hys, .inl rfl, .inl ?_⟩
   rw [show roV (.tr 2 y.2.length (rows rAtom y.2)) = vAtomS y.2 from congrArg (V.ro y.2.length) (roVs_rows rAtom_ro y.2)]
   conv => whnf
   refine ⟨_, lacking_spec y.2 l[j] (by show y.2.length + sumB cAtom y.2 ≤ _; omega) b3, .inl rfl, .inl ?_⟩
   conv => whnf
   refine ⟨m' - 1, by omega, j + 1, IntKind.i64.wrap ((j : Int) + 1), j, lackI y.2 l[j], wrap_id (by omega) (by omega), by omega, ?_, by kernel_rfl⟩
   rw [missGo_at hj] at hms
   rcases lackI_cases y.2 l[j] with h | h
   ·exact .inl ⟨h, by rw [hms, if_neg (by omega)]⟩
   ·exact .inr ⟨j, (lackI y.2 l[j]).toNat, rfl, (Int.toNat_of_nonneg h).symm, by rw [hms, if_pos h]⟩
  ·rw [List.drop_eq_nil_of_le hj] at hms
   rw [both_done m hc hms]
   conv => whnf
   rw [show decide ((j : Int) < (l.length : Int)) = false from decide_eq_false (by omega)]
   conv => whnf
   exact ⟨by rw [rows_len ciL_len], by rw [rows_len tAtom_len], rfl⟩
 ·obtain ⟨hkl, hil, hrel, hincl, hgk, hgi⟩ := miss_facts hb3 hms
  obtain ⟨c1, c2, c3⟩ := incl_size hl hkl
  have hat := hy.2.1 _ (List.getElem_mem hil)
  have hadd := addition_gen s y l[k'] y.2[i'] hys hsl hincl hrel hat
  have hnone := fun h : addP s y l[k'] y.2[i'] = none => both_none (s := s) (l := l) m hc hms (by rw [hgk, hgi]; exact h)
  have hfull := fun a (h : addP s y l[k'] y.2[i'] = some a) => both_full (s := s) (a := a) (l := l) m hc hms (by rw [hgk, hgi]; exact h)
  have hend := fun a (h : addP s y l[k'] y.2[i'] = some a) => both_out (s := s) (a := a) (l := l) hc hms (by rw [hgk, hgi]; exact h)
  have hnext := fun n a (h : addP s y l[k'] y.2[i'] = some a) => both_next (s := s) (a := a) (l := l) n hc hms (by rw [hgk, hgi]; exact h)
  have hokn := fun a h8 (h : addP s y l[k'] y.2[i'] = some a) => okB8_add (b := a) hy h8 hincl hrel hat h
  conv => whnf
  generalize decide ((j : Int) < (l.length : Int)) = bj
  cases bj
  all_goals
   conv => whnf
   refine ⟨[0, 1, 2, 3, 4, 5, 6, 7, 8, 9, 10, 11, 12, 13, 14, 1000, 15, 1000, 16, 17], by kernel_rfl, ?_⟩
   conv => whnf
   refine ⟨by omega, rows_len rInclusion_len _, ?_⟩
   conv => whnf
   refine ⟨_, takeN_rp (k := k') rInclusion_len hkl, ?_⟩
   conv => whnf
   refine ⟨by omega, ?_⟩
   conv => whnf
   refine ⟨_, takeN_own (k := i') (d := 0) (xs := y.2) tAtom_len (by show 0 + i' * 2 = i' * 2 + 0; omega) hil (Nat.le_refl _) rfl, ?_⟩
   conv => whnf
   refine ⟨_, _, takeN_all (by rw [rows_len ciL_len]), roVs_ci _, ?_⟩
   conv => whnf
   refine ⟨_, _, takeN_all (by rw [rows_len tAtom_len]), roVs_rows tAtom_ro _, ?_⟩
   conv => whnf
   refine ⟨_, _, _, _, rows_cell (v := intsT y.2[i'].2) tAtom_len (k := i') (d := 1) (by show 0 + i' * 2 + 1 = i' * 2 + 1; omega) hil rfl, roVs_ci _, ?_⟩
   conv => whnf
   refine ⟨_, hadd, .inr (closed_wAdd _), .inr ?_⟩
   generalize addP s y l[k'] y.2[i'] = o at hnone hfull hend hnext hokn
   cases o with
   | none =>
    rw [hnone rfl]
    conv => whnf
    exact ⟨by rw [rows_len ciL_len], by rw [rows_len tAtom_len], rfl⟩
   | some a =>
   conv => whnf
   by_cases h8 : y.2.length = 8
   ·rw [hfull a rfl h8, show ((y.2.length : Int) == 8) = true from by rw [beq_iff_eq]; omega]
    conv => whnf
    exact ⟨by rw [rows_len ciL_len], by rw [rows_len tAtom_len], rfl⟩
   rw [show ((y.2.length : Int) == 8) = false from by rw [beq_eq_false_iff_ne]; omega]
   conv => whnf
   rcases Nat.eq_zero_or_pos m with hm0 | hm0
   ·subst hm0
    rw [hend a rfl, show ((k : Int) == 40) = true from by rw [beq_iff_eq]; omega]
    conv => whnf
    exact ⟨by rw [rows_len ciL_len], by rw [rows_len tAtom_len], rfl⟩
   obtain ⟨m1, rfl⟩ : ∃ m1, m = m1 + 1 := ⟨m - 1, by omega⟩
   rw [hnext m1 a rfl h8, show ((k : Int) == 40) = false from by rw [beq_eq_false_iff_ne]; omega]
   conv => whnf
   refine ⟨by rw [rows_len ciL_len], ?_⟩
   conv => whnf
   refine ⟨_, rfl, .inr ⟨solid_tAtom a, ?_⟩⟩
   conv => whnf
   refine ⟨by omega, by rw [rows_len tAtom_len], _, snoc_rows tAtom _ a, ?_⟩
   conv => whnf
   refine ⟨m1, by omega, k + 1, IntKind.i64.wrap ((k : Int) + 1), (y.1, y.2 ++ [a]), .ro y.1.length (roVs ((rows ciL y.1).take (y.1.length * 1))), .ro (y.2.length + 1) (roVs ((rows tAtom (y.2 ++ [a])).take ((y.2.length + 1) * 2))), wrap_id (by omega) (by omega), by omega, hokn a h8 rfl, rfl, ?_, ?_, by kernel_rfl⟩
   ·rw [List.take_of_length_le (by rw [rows_len ciL_len]; exact Nat.le_refl _), roVs_ci]
    rfl
   ·rw [List.take_of_length_le (by rw [rows_len tAtom_len, List.length_append]; exact Nat.le_refl _), roVs_rows tAtom_ro]
    show V.ro (y.2.length + 1) _ = V.ro (y.2 ++ [a]).length _
    rw [List.length_append]
    rfl
theorem closed_wMiss (o : Option (Nat × Nat)) : closed (wMiss o) := by
 cases o with
 | none => exact ⟨trivial, trivial, trivial⟩
 | some p => exact ⟨trivial, trivial, trivial⟩
set_option maxHeartbeats 8000000 in
theorem specChaseBoth_gen (s : List Int) (q : QueryT) (ks : List FactK) (l : List InclL) (hs : cSchema s ≤ 1048576) (hq : cQuery q ≤ 1048576) (hk : cKeyS ks ≤ 1048576) (hl : cInclusionS l ≤ 1048576) : Spec Tryz.prog 28 [vSchema s, vQuery q, vKeyS ks, vInclusionS l] (wBoth (pChaseBoth s q ks l)) := by
 have hsl : s.length ≤ 1099511627776 := Nat.le_trans hs (by decide)
 refine Spec_of mx Γ_ok Tryz.func28 rfl ?_
 conv => whnf
 refine ⟨_, specIsQuery_spec s q hs hq, .inl rfl, .inl ?_⟩
 conv => whnf
 generalize hb1 : isQuery s q = b1
 cases b1 with
 | false =>
  conv => whnf
  rw [pBoth_no (by rw [hb1]; rfl)]
  exact .inr ⟨1, .inr ⟨2, rfl⟩⟩
 | true =>
 conv => whnf
 refine ⟨_, specAreKeys_gen s ks hs hk, .inl rfl, .inl ?_⟩
 conv => whnf
 generalize hb2 : pAreKeys s ks = b2
 cases b2 with
 | false =>
  conv => whnf
  rw [pBoth_no (by rw [hb1, hb2]; rfl)]
  exact .inr ⟨1, .inr ⟨2, rfl⟩⟩
 | true =>
 conv => whnf
 refine ⟨_, l14Are_spec s l hsl hl, .inl rfl, .inl ?_⟩
 conv => whnf
 generalize hb3 : areIncls s l = b3
 cases b3 with
 | false =>
  conv => whnf
  rw [pBoth_no (by rw [hb1, hb2, hb3]; rfl)]
  exact .inr ⟨1, .inr ⟨2, rfl⟩⟩
 | true =>
 rw [pBoth_ok (by rw [hb1, hb2, hb3]; rfl)]
 conv => whnf
 refine ⟨_, l4Copy_spec q hq, .inl rfl, .inl ?_⟩
 rw [wQuery_ro]
 conv => whnf
 refine ⟨[(2,0),(3,0),(4,0),(8,0),(10,199),(10,299),(11,0)], fun m st => ∃ (k : Nat) (e : Int) (x : QueryT) (vh vb : V), e = k ∧ m + k = 40 ∧ okB8 s x ∧ bothGo s ks l 40 q = bothGo s ks l m x ∧ vh = ints x.1 ∧ vb = vAtomS x.2 ∧
  st = ⟨76, [(2, vKeyS ks), (3, vInclusionS l), (4, .ptr 0 0), (8, .ptr 1 0), (10, .ptr 2 0), (10, .ptr 2 0), (11, ci e)], [some ⟨true, [ints s]⟩, some ⟨true, [cnil, cnil]⟩, some ⟨true, [vh, vb]⟩]⟩,
  40, ⟨0, 0, q, ints q.1, vAtomS q.2, rfl, rfl, isQuery_allA hb1, rfl, rfl, rfl, by kernel_rfl⟩, ?_⟩
 rintro m st ⟨k, _, x, _, _, rfl, hm, hx, hgo, rfl, rfl, rfl⟩
 rw [hgo]
 clear hgo
 have hxs := okB8_size hx
 conv => whnf
 refine ⟨_, l13Chase_spec x ks hxs hk (allA_ok hx.2.1), .inl rfl, .inr ?_⟩
 cases hc : chZ ks x with
 | none =>
  rw [both_fail m hc]
  conv => whnf
  exact .inr ⟨1, .inr ⟨2, rfl⟩⟩
 | some y =>
 have hy := okB8_chase hx hc
 have hys := okB8_size hy
 conv => whnf
 refine .inl ?_
 conv => whnf
 refine ⟨_, _, takeN_all (by rw [rows_len ciL_len]), roVs_ci _, ?_⟩
 conv => whnf
 refine ⟨_, _, takeN_all (by rw [rows_len tAtom_len]), roVs_rows tAtom_ro _, ?_⟩
 conv => whnf
 refine ⟨_, l14Missing_spec y l hys hl, .inr (closed_wMiss _), .inl ?_⟩
 cases hms : missGo y.2 0 l with
 | none =>
  rw [both_done m hc hms]
  conv => whnf
  exact ⟨by rw [rows_len ciL_len], by rw [rows_len tAtom_len], rfl⟩
 | some p =>
 obtain ⟨k', i'⟩ := p
 obtain ⟨hkl, hil, hrel, hincl, hgk, hgi⟩ := miss_facts hb3 hms
 obtain ⟨c1, c2, c3⟩ := incl_size hl hkl
 have hat := hy.2.1 _ (List.getElem_mem hil)
 have hadd := l14Add_gen s y l[k'] i' hys hsl hil hincl hrel hy.2.1
 have hnone := fun h : addP s y l[k'] y.2[i'] = none => both_none (s := s) (l := l) m hc hms (by rw [hgk, hgi]; exact h)
 have hfull := fun a (h : addP s y l[k'] y.2[i'] = some a) => both_full (s := s) (a := a) (l := l) m hc hms (by rw [hgk, hgi]; exact h)
 have hend := fun a (h : addP s y l[k'] y.2[i'] = some a) => both_out (s := s) (a := a) (l := l) hc hms (by rw [hgk, hgi]; exact h)
 have hnext := fun n a (h : addP s y l[k'] y.2[i'] = some a) => both_next (s := s) (a := a) (l := l) n hc hms (by rw [hgk, hgi]; exact h)
 have hokn := fun a h8 (h : addP s y l[k'] y.2[i'] = some a) => okB8_add (b := a) hy h8 hincl hrel hat h
 have hy8 := hy.2.2
 conv => whnf
 refine ⟨[0, 1, 2, 3, 4, 5, 6, 7, 8, 9, 10, 1000, 11, 1000, 12, 13], by kernel_rfl, ?_⟩
 conv => whnf
 refine ⟨by omega, rows_len rInclusion_len _, ?_⟩
 conv => whnf
 refine ⟨_, takeN_rp (k := k') rInclusion_len hkl, ?_⟩
 conv => whnf
 refine ⟨_, _, takeN_all (by rw [rows_len ciL_len]), roVs_ci _, ?_⟩
 conv => whnf
 refine ⟨_, _, takeN_all (by rw [rows_len tAtom_len]), roVs_rows tAtom_ro _, ?_⟩
 conv => whnf
 refine ⟨_, hadd, .inr ⟨closed_wQuery _, trivial, trivial⟩, .inr ?_⟩
 unfold addS
 unfold addP at hnone hfull hend hnext hokn
 generalize addArgs y l[k'] y.2[i'].2 (s.getD l[k'].2.2.1.toNat 0).toNat = X at hnone hfull hend hnext hokn ⊢
 obtain ⟨A, nx⟩ := X
 simp only at hnone hfull hend hnext hokn ⊢
 by_cases h20 : nx ≤ 20
 ·rw [if_pos h20] at hfull hend hnext hokn
  rw [decide_eq_true h20, Bool.true_and]
  by_cases h8 : y.2.length = 8
  ·rw [hfull _ rfl h8, show decide (y.2.length + 1 ≤ 8) = false from decide_eq_false (by omega)]
   conv => whnf
   exact ⟨by rw [rows_len ciL_len], by rw [rows_len tAtom_len], rfl⟩
  rw [show decide (y.2.length + 1 ≤ 8) = true from decide_eq_true (by omega)]
  conv => whnf
  rcases Nat.eq_zero_or_pos m with hm0 | hm0
  ·subst hm0
   rw [hend _ rfl, show decide ((k : Int) ≥ 40) = true from decide_eq_true (by omega)]
   conv => whnf
   exact ⟨by rw [rows_len ciL_len], by rw [rows_len tAtom_len], rfl⟩
  obtain ⟨m1, rfl⟩ : ∃ m1, m = m1 + 1 := ⟨m - 1, by omega⟩
  rw [hnext m1 _ rfl h8, show decide ((k : Int) ≥ 40) = false from decide_eq_false (by omega)]
  conv => whnf
  refine ⟨m1, by omega, k + 1, IntKind.i64.wrap ((k : Int) + 1), (y.1, y.2 ++ [(l[k'].2.2.1, A)]), .ro y.1.length (roVs ((rows ciL y.1).take (y.1.length * 1))), .ro (y.2 ++ [(l[k'].2.2.1, A)]).length (roVs ((rows tAtom (y.2 ++ [(l[k'].2.2.1, A)])).take ((y.2 ++ [(l[k'].2.2.1, A)]).length * 2))), wrap_id (by omega) (by omega), by omega, hokn _ h8 rfl, rfl, ?_, ?_, by kernel_rfl⟩
  ·rw [List.take_of_length_le (by rw [rows_len ciL_len]; exact Nat.le_refl _), roVs_ci]
   rfl
  ·rw [List.take_of_length_le (by rw [rows_len tAtom_len]; exact Nat.le_refl _), roVs_rows tAtom_ro]
   rfl
 ·rw [if_neg h20] at hnone
  rw [hnone rfl, decide_eq_false h20, Bool.false_and]
  conv => whnf
  exact ⟨by rw [rows_len ciL_len], by rw [rows_len tAtom_len], rfl⟩
end Go.Proofs.YtcjdfeafcmfgpaaGreatD
