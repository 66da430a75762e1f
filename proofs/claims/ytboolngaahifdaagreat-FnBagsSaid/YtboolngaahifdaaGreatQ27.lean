/- Contracts and plain laws of this seat; no condition. -/
import Derived.Test.YtboolngaahifdaaGreatQ17
import Derived.Test.YtboolngaahifdaaGreatQ26
set_option linter.unusedVariables false
set_option linter.unusedSimpArgs false
set_option maxRecDepth 100000
namespace Go.Proofs.YtboolngaahifdaaGreatD
open Go Go.Proofs Go.Shelf Go.Sort
theorem SpecG.mono {P : Program} {f : Nat} {vs : List V} {g : List (Option Obj)} {Post Post' : V → List (Option Obj) → Prop} (h : SpecG P f vs g Post) (hp : ∀ r g2, Post r g2 → Post' r g2) : SpecG P f vs g Post' := by
 refine ⟨h.1, fun E0 xs hin hv => (h.2 E0 xs hin hv).mono fun e w' he => ?_⟩
 cases e with
 | panicked chain => exact he.elim
 | outgrown => exact he.elim
 | returned x =>
  obtain ⟨r, g2, E2, h1, h2⟩ := he
  exact ⟨r, g2, E2, hp r g2 h1, h2⟩
theorem yI {α β : Type} (f : β → List V) (g : α → β) (xs : List α) : aB (fun x => f (g x)) xs = aB f (xs.map g) := by
 induction xs with
 | nil => rfl
 | cons x xs ih => simp [aB, ih]
abbrev M6 := { f : aG // f.2.length ≤ 1099511627776 }
theorem XN : ∀ (xs : List aG), (∀ x ∈ xs, x.2.length ≤ 1099511627776) → ∃ ys : List M6, ys.map (fun y => y.1) = xs
 | [], _ => ⟨[], rfl⟩
 | x :: xs, h => by
  obtain ⟨ys, hy⟩ := XN xs fun y hy => h y (by simp [hy])
  exact ⟨⟨x, h x (by simp)⟩ :: ys, by simp [hy]⟩
theorem DZ (x : aG) : ∀ c ∈ dM (cF x), fT c = true := by
 rw [dL]
 intro c hc
 simp only [vN, List.mem_cons, List.not_mem_nil, or_false] at hc
 rcases hc with rfl | rfl <;> rfl
theorem tW (xs : List aG) (hb : ∀ x ∈ xs, x.2.length ≤ 1099511627776) (hsz : xs.length ≤ 1099511627776) :
  SpecG Tryz.prog 172 [.own 0 2 0 xs.length xs.length none, .fn 147 []] [some ⟨false, aB cF xs⟩] fun r g2 => r = .tup [] ∧ ∃ ys : List aG, ys.Perm xs ∧ ys.Pairwise (fun a b => ¬ ML b a < 0) ∧ g2 = [some ⟨false, aB cF ys⟩] := by
 obtain ⟨zs, rfl⟩ := XN xs hb
 have := R6 a03 2 (by decide) Tryz.isAgg121 Tryz.sizeOf121 (fun x : M6 => cF x.1) (fun x => rfl) (fun x => DZ x.1) 147 (fun a b => ML a.1 b.1) (G4 (lt := fun a b => ltF a.1 b.1) ⟨fun a => GB.irr _, fun a b c => GB.tr _ _ _, fun a b => by
  rcases GB.tri a.1 b.1 with h | h | h
  ·exact .inl h
  ·exact .inr (.inl (Subtype.ext h))
  ·exact .inr (.inr h)⟩ fun a b => KL _ _) (fun x y => by rw [dL, dL]; exact oP x.1 y.1 x.2 y.2) ⟨_, _, Tryz.func172, rfl, rfl⟩ zs (by rw [List.length_map] at hsz; omega)
 rw [yI] at this
 rw [List.length_map]
 refine SpecG.mono this fun r g2 ⟨h1, ys, h2, h3, h4⟩ => ⟨h1, ys.map (·.1), h2.map _, ?_, ?_⟩
 ·rw [List.pairwise_map]; exact h3
 ·rw [h4, yI]
set_option maxHeartbeats 1000000 in
theorem DL (p : Option Addr) (cap : Nat) (fv : Value) (w : World) : Calls Tryz.prog 173 #[.slice p 0 cap, fv] w fun e w' => e = .returned (.slice p 0 cap) ∧ w' = w := by
 go_enter Tryz.func173, Tryz.ntmps173
 go_wp2
 go_ret
 first | exact ⟨rfl, rfl⟩ | rfl
theorem DM : M4 Tryz.prog 173 2 fun vs => .agg vs.toArray := by
 intro α _ enc hk h1 ef g blk off cap d w eg hcmp hH hblk hF hsz hcap
 obtain ⟨ea, eb, he'⟩ : ∃ ea eb : α → Value, enc = fun x => [ea x, eb x] := by
  refine ⟨fun x => (enc x).getD 0 (.bool false), fun x => (enc x).getD 1 (.bool false), ?_⟩
  funext x
  have := hk x
  show enc x = [(enc x).getD 0 (.bool false), (enc x).getD 1 (.bool false)]
  generalize enc x = l at this ⊢
  match l, this with
  | [a, b], _ => rfl
 clear hk
 subst he'
 exact GT ea eb ef g blk off cap d w eg hcmp (fun x => ⟨h1 x _ (by simp), h1 x _ (by simp)⟩) hH hblk hF hsz hcap
theorem sQ (xs : List aG) (hb : ∀ x ∈ xs, x.2.length ≤ 1099511627776) (hsz : xs.length ≤ 1099511627776) :
  SpecG Tryz.prog 173 [.own 0 2 0 xs.length xs.length none, .fn 174 []] [some ⟨false, aB cF xs⟩] fun r g2 => r = fP (kM eqF xs) ∧ g2 = [none] := by
 obtain ⟨zs, rfl⟩ := XN xs hb
 have := PK (P := Tryz.prog) (k := 2) (by decide) (mk := fun vs => .agg vs.toArray) (mv := fun vs => .agg vs) (fun E vs xs _ h => ⟨xs, rfl, h⟩) DM (fun x : M6 => cF x.1) (fun x => rfl) (fun x => DZ x.1) 174 (fun a b => eqF a.1 b.1) (fun x y => by rw [dL, dL]; exact DT x.1 y.1 x.2 y.2) ⟨_, _, Tryz.func173, rfl, rfl⟩ DL zs (by rw [List.length_map] at hsz; omega)
 rw [yI] at this
 rw [List.length_map]
 refine SpecG.mono this fun r g2 ⟨h1, h2⟩ => ⟨?_, h2⟩
 rw [h1, yI, zI eqF (fun y : M6 => y.1), fP, ← zI eqF (fun y : M6 => y.1), List.length_map]
end Go.Proofs.YtboolngaahifdaaGreatD
namespace Go.Proofs.YtboolngaahifdaaGreatD
open Go Go.Proofs
abbrev yY := List Int × List aG
def fzF (a : aG) : aG := (a.1, a.2.map fz)
def xK (q : yY) : Bool := d5 q.1 && decide (q.2.length ≤ 8) && q.2.all fun a => d5 a.2
def bK (q : yY) : List aG × List Int := if xK q then ((q.2.map fzF).foldl gH [], q.1.map fz) else ([], [])
def mE (q : yY) : V := .tup [fP (bK q).1, bE (bK q).2]
theorem rK {xs : List Int} (h : d5 xs = true) : xs.length ≤ 3 := by
  unfold d5 at h
  simp only [Bool.and_eq_true, decide_eq_true_eq] at h
  exact h.2
theorem rJ {xs : List Int} (h : d5 xs = true) : xs.all aU = true := by
  unfold d5 at h
  simp only [Bool.and_eq_true] at h
  exact h.1
theorem u3 {α : Type} (f : α → Nat) (n : Nat) : ∀ (xs : List α), (∀ x ∈ xs, f x ≤ n) → bS f xs ≤ n * xs.length
  | [], _ => by simp [bS]
  | x :: xs, h => by
    have h1 := u3 f n xs fun y hy => h y (by simp [hy])
    have h2 := h x (by simp)
    simp only [bS, List.length_cons, Nat.mul_add, Nat.mul_one]
    omega
theorem IG (f a : aG) : ∀ (l : List aG) (p : Bool), a ∈ i9 f p l → a = f ∨ a ∈ l
  | [], p, h => by cases p <;> simp [i9] at h; exact .inl h
  | x :: r, p, h => by
    have ih := IG f a r
    simp only [i9] at h
    split at h
    · rcases List.mem_append.1 h with h1 | h1
      · split at h1
        · cases h1
        · exact .inl (by simpa using h1)
      · rcases List.mem_cons.1 h1 with rfl | h1
        · exact .inr (by simp)
        · rcases ih true h1 with h2 | h2
          · exact .inl h2
          · exact .inr (by simp [h2])
    · rcases List.mem_cons.1 h with rfl | h1
      · exact .inr (by simp)
      · rcases ih p h1 with h2 | h2
        · exact .inl h2
        · exact .inr (by simp [h2])
theorem o9 : ∀ (fs db : List aG), (∀ x ∈ fs, x.2.length ≤ 3) → (∀ x ∈ db, x.2.length ≤ 3) → (∀ x ∈ fs.foldl gH db, x.2.length ≤ 3) ∧ (fs.foldl gH db).length ≤ fs.length + db.length
  | [], db, _, h => ⟨h, by simp⟩
  | f :: fs, db, hf, h => by
    have h1 : ∀ x ∈ gH db f, x.2.length ≤ 3 := fun x hx => by
      rcases IG f x db false hx with rfl | h2
      · exact hf _ (by simp)
      · exact h x h2
    obtain ⟨i1, i2⟩ := o9 fs (gH db f) (fun x hx => hf x (by simp [hx])) h1
    refine ⟨i1, ?_⟩
    have := rB f db false
    rw [List.foldl_cons]
    have e : (gH db f).length ≤ db.length + 1 := this
    simp only [List.length_cons]
    omega
set_option maxHeartbeats 4000000 in
theorem s4 (q : yY) (h : aC q ≤ 1048576) : bI Tryz.prog 45 [aP q] (mE q) := by
  unfold aC dW at h
  refine aF mx aJ Tryz.func45 rfl ?_
  unfold mE bK xK
  conv => whnf
  refine ⟨_, n9 q.1 (by omega), .inl rfl, .inl ?_⟩
  conv => whnf
  generalize ht : d5 q.1 = b1
  cases b1 with
  | false =>
    conv => whnf
    exact ⟨rfl, rfl, rfl⟩
  | true =>
    conv => whnf
    generalize hc2 : decide ((q.2.length : Int) > 8) = c2
    cases c2 with
    | true =>
      have hl : ¬ q.2.length ≤ 8 := by have := of_decide_eq_true hc2; omega
      conv => whnf
      simp only [decide_eq_false hl, Bool.and_false, Bool.false_and, Bool.false_eq_true, if_false]
      exact ⟨rfl, rfl, rfl⟩
    | false =>
      have hl : q.2.length ≤ 8 := by have := of_decide_eq_false hc2; omega
      simp only [decide_eq_true hl, Bool.and_true, Bool.true_and]
      conv => whnf
      refine ⟨[(1,0),(2,0),(3,0),(4,0),(5,0)], fun m s => ∃ (k : Nat) (e : Int) (db : List aG) (n : Nat) (r : List V), e = k ∧ m + k = q.2.length ∧ db = ((q.2.take k).map fzF).foldl gH [] ∧ n = db.length ∧ r = aB cF db ∧ q.2.all (fun a => d5 a.2) = (q.2.drop k).all (fun a => d5 a.2) ∧ (∀ x ∈ (q.2.take k), x.2.length ≤ 3) ∧
        s = ⟨56, [(1, .ptr 0 0), (2, cG), (3, cG), (4, .own 1 2 0 n n none), (5, ci e)], [some ⟨true, aO q⟩, some ⟨false, r⟩]⟩, q.2.length, ⟨0, 0, [], 0, _, rfl, rfl, rfl, rfl, rfl, rfl, by simp, rfl⟩, ?_⟩
      rintro m s ⟨k, _, db, n, _, rfl, hm, hdb, hn, rfl, hall, hsh, rfl⟩
      conv => whnf
      split <;> rename_i h1
      all_goals simp only [decide_eq_true_eq, decide_eq_false_iff_not] at h1
      · conv => whnf
        have hk : k < q.2.length := by omega
        have hb := bH (f := b9) hk
        have hcb : b9 q.2[k] = q.2[k].2.length := rfl
        obtain ⟨s1, s2⟩ := o9 ((q.2.take k).map fzF) [] (fun x hx => by
          obtain ⟨y, hy, rfl⟩ := List.mem_map.1 hx
          simpa [fzF] using hsh y hy) (by simp)
        rw [← hdb] at s1 s2
        have hcnt : d6 db ≤ 1048576 := by
          have h3 := u3 eF 3 db s1
          have h4 : db.length ≤ k := by rw [List.length_map, List.length_take] at s2; simp at s2; omega
          show db.length + bS eF db ≤ 1048576
          omega
        rw [kN hk] at hall
        refine ⟨by omega, a6 aA _, ?_⟩
        conv => whnf
        refine ⟨_, aR (k := k) (d := 1) (m := 1) (r := [aW q.2[k].2]) aA hk (by omega) rfl, ?_⟩
        conv => whnf
        refine ⟨_, n9 q.2[k].2 (by omega), .inl rfl, .inl ?_⟩
        conv => whnf
        generalize ht2 : d5 q.2[k].2 = b2 at hall
        cases b2 with
        | false =>
          conv => whnf
          rw [hall]
          exact ⟨rfl, rfl, rfl⟩
        | true =>
          conv => whnf
          rw [Bool.true_and] at hall
          refine ⟨List.range 17, by kernel_rfl, ?_⟩
          conv => whnf
          refine ⟨by omega, a6 aA _, ?_⟩
          conv => whnf
          refine ⟨_, aR (k := k) (d := 0) (m := 1) (r := [ci q.2[k].1]) aA hk (by omega) rfl, ?_⟩
          conv => whnf
          refine ⟨by omega, a6 aA _, ?_⟩
          conv => whnf
          refine ⟨_, aR (k := k) (d := 1) (m := 1) (r := [aW q.2[k].2]) aA hk (by omega) rfl, ?_⟩
          conv => whnf
          refine ⟨_, vL q.2[k].2 (by omega) (rJ ht2), .inl rfl, .inl ?_⟩
          conv => whnf
          subst hn
          refine ⟨_, _, aN (by rw [a6 aT]), bF dL _, ?_⟩
          conv => whnf
          rw [cK]
          refine ⟨_, wA db (fzF q.2[k]) hcnt (by simp only [fzF, List.length_map]; omega), .inr (fK _), .inr ?_⟩
          conv => whnf
          refine ⟨m - 1, by omega, k + 1, _, gH db (fzF q.2[k]), _, _, a8 (by omega) (by omega), by omega, ?_, rfl, rfl, hall, ?_, rfl⟩
          · rw [hdb, List.take_succ_eq_append_getElem hk, List.map_append, List.foldl_append]
            rfl
          · intro x hx
            rw [List.take_succ_eq_append_getElem hk] at hx
            rcases List.mem_append.1 hx with hx | hx
            · exact hsh x hx
            · have : x = q.2[k] := by simpa using hx
              subst this
              exact rK ht2
      · conv => whnf
        have hkk : k = q.2.length := by omega
        rw [bG (by omega), List.all_nil] at hall
        rw [hkk, List.take_length] at hdb
        refine ⟨_, vL q.1 (by omega) (rJ ht), .inl rfl, .inr ?_⟩
        conv => whnf
        rw [hall, hn]
        refine ⟨by rw [a6 aT], by rw [a6 a7], ?_⟩
        rw [hdb]
        rfl
theorem J4 (xs : List Int) : d5 xs = (decide (xs.length ≤ 3) && xs.all aU) := by unfold d5; rw [Bool.and_comm]
set_option maxHeartbeats 4000000 in
theorem rW (q : yY) (h : aC q ≤ 1048576) : bI Tryz.prog 104 [aP q] (mE q) := by
  unfold aC dW at h
  refine aF mx aJ Tryz.func104 rfl ?_
  conv => whnf
  have hok : (d5 q.1 && decide (q.2.length ≤ 8)) = (decide ((q.2.length : Int) ≤ 8) && (decide ((q.1.length : Int) ≤ 3) && q.1.all aU)) := by
    have e1 : decide ((q.2.length : Int) ≤ 8) = decide (q.2.length ≤ 8) := by rw [decide_eq_decide]; omega
    have e2 : decide ((q.1.length : Int) ≤ 3) = decide (q.1.length ≤ 3) := by rw [decide_eq_decide]; omega
    rw [e1, e2, ← J4, Bool.and_comm]
  generalize decide ((q.2.length : Int) ≤ 8) = c1 at hok
  cases c1
  rotate_left
  conv => whnf
  generalize decide ((q.1.length : Int) ≤ 3) = c2 at hok
  cases c2
  rotate_left
  conv => whnf
  refine ⟨_, lS q.1 (by omega), .inl rfl, .inl ?_⟩
  generalize q.1.all aU = c3 at hok
  all_goals simp only [Bool.false_and, Bool.true_and] at hok
  all_goals conv => whnf
  all_goals refine ⟨[(1,0),(2,0),(3,0),(4,0),(26,0),(27,0),(28,0)], fun m s => ∃ (k : Nat) (e : Int) (ok : Bool), e = k ∧ m + k = q.2.length ∧ ok = (d5 q.1 && decide (q.2.length ≤ 8) && (q.2.take k).all fun a => d5 a.2) ∧
        s = ⟨74, [(1, .ptr 0 0), (2, cG), (3, cG), (4, cb ok), (26, cE q.2), (27, ci q.2.length), (28, ci e)], [some ⟨true, aO q⟩]⟩, q.2.length, ⟨0, 0, _, rfl, rfl, by rw [hok, List.take_zero, List.all_nil, Bool.and_true], rfl⟩, ?_⟩
  all_goals
   (rintro m s ⟨k, _, ok, rfl, hm, hok2, rfl⟩
    conv => whnf
    split <;> rename_i h1
    all_goals simp only [decide_eq_true_eq, decide_eq_false_iff_not] at h1
    · conv => whnf
      have hk : k < q.2.length := by omega
      have hb := bH (f := b9) hk
      have hcb : b9 q.2[k] = q.2[k].2.length := rfl
      have hstep : (q.2.take (k + 1)).all (fun a => d5 a.2) = ((q.2.take k).all (fun a => d5 a.2) && (decide ((q.2[k].2.length : Int) ≤ 3) && q.2[k].2.all aU)) := by
        have e2 : decide ((q.2[k].2.length : Int) ≤ 3) = decide (q.2[k].2.length ≤ 3) := by rw [decide_eq_decide]; omega
        rw [List.take_succ_eq_append_getElem hk, List.all_append, e2, ← J4]; simp
      refine ⟨by omega, a6 aA _, ?_⟩
      conv => whnf
      refine ⟨_, aD (k := k) aA hk, ?_⟩
      conv => whnf
      cases ok with
      | false =>
        conv => whnf
        refine ⟨m - 1, by omega, k + 1, _, false, a8 (by omega) (by omega), by omega, ?_, rfl⟩
        rw [hstep, ← Bool.and_assoc, ← hok2]; rfl
      | true =>
        conv => whnf
        generalize decide ((q.2[k].2.length : Int) ≤ 3) = d1 at hstep
        cases d1 with
        | false =>
          conv => whnf
          refine ⟨m - 1, by omega, k + 1, _, false, a8 (by omega) (by omega), by omega, ?_, rfl⟩
          rw [hstep, ← Bool.and_assoc, ← hok2]; rfl
        | true =>
          conv => whnf
          refine ⟨_, lS q.2[k].2 (by omega), .inl rfl, .inl ?_⟩
          generalize q.2[k].2.all aU = d2 at hstep
          conv => whnf
          refine ⟨m - 1, by omega, k + 1, _, d2, a8 (by omega) (by omega), by omega, ?_, rfl⟩
          rw [hstep, ← Bool.and_assoc, ← hok2]; rfl
    · conv => whnf
      have hkk : k = q.2.length := by omega
      rw [hkk, List.take_length] at hok2
      have hfr : xK q = ok := hok2.symm
      unfold mE bK
      rw [hfr]
      cases ok with
      | false =>
        conv => whnf
        exact ⟨rfl, rfl, rfl⟩
      | true =>
        have hall : q.2.all (fun a => d5 a.2) = true := by
          unfold xK at hfr
          simp only [Bool.and_eq_true] at hfr
          exact hfr.2
        have hlen : q.2.length ≤ 8 := by
          unfold xK at hfr
          simp only [Bool.and_eq_true, decide_eq_true_eq] at hfr
          exact hfr.1.2
        have hhd : d5 q.1 = true := by
          unfold xK at hfr
          simp only [Bool.and_eq_true] at hfr
          exact hfr.1.1
        conv => whnf
        refine ⟨[(1,0),(2,0),(3,0),(7,0),(51,0),(52,0),(53,0)], fun m s => ∃ (k : Nat) (e : Int) (n : Nat) (r : List V), e = k ∧ m + k = q.2.length ∧ n = k ∧ r = aB cF ((q.2.take k).map fzF) ∧
          s = ⟨74, [(1, .ptr 0 0), (2, cG), (3, cG), (7, .own 1 2 0 n n none), (51, cE q.2), (52, ci q.2.length), (53, ci e)], [some ⟨true, aO q⟩, some ⟨false, r⟩]⟩, q.2.length, ⟨0, 0, 0, _, rfl, rfl, rfl, rfl, rfl⟩, ?_⟩
        rintro m s ⟨k, _, n, _, rfl, hm, rfl, rfl, rfl⟩
        conv => whnf
        split <;> rename_i h1
        all_goals simp only [decide_eq_true_eq, decide_eq_false_iff_not] at h1
        · conv => whnf
          have hk : n < q.2.length := by omega
          have hb := bH (f := b9) hk
          have hcb : b9 q.2[n] = q.2[n].2.length := rfl
          have ht : d5 q.2[n].2 = true := List.all_eq_true.1 hall _ (List.getElem_mem hk)
          refine ⟨by omega, a6 aA _, ?_⟩
          conv => whnf
          refine ⟨_, aD (k := n) aA hk, ?_⟩
          conv => whnf
          refine ⟨List.range 10, by kernel_rfl, ?_⟩
          conv => whnf
          refine ⟨_, t6 q.2[n].2 (by omega) (rJ ht), .inl rfl, .inr ?_⟩
          conv => whnf
          refine ⟨by rw [a6 a7], ?_⟩
          conv => whnf
          refine ⟨_, rfl, .inr ⟨iC (fzF q.2[n]), ?_⟩⟩
          conv => whnf
          refine ⟨by omega, by rw [a6 aT, List.length_map, List.length_take]; congr 1; omega, _, bQ cF _ (fzF q.2[n]), ?_⟩
          conv => whnf
          refine ⟨m - 1, by omega, n + 1, _, _, _, a8 (by omega) (by omega), by omega, rfl, ?_, rfl⟩
          rw [List.take_succ_eq_append_getElem hk, List.map_append, List.map_singleton]
        · conv => whnf
          have hkk : n = q.2.length := by omega
          subst hkk
          rw [List.take_length]
          refine .inr (.inr ⟨[1], [], ?_⟩)
          conv => whnf
          have hsh : ∀ x ∈ q.2.map fzF, x.2.length ≤ 1099511627776 := fun x hx => by
            obtain ⟨y, hy, rfl⟩ := List.mem_map.1 hx
            have := rK (List.all_eq_true.1 hall _ hy)
            simp only [fzF, List.length_map]; omega
          have hs := tW (q.2.map fzF) hsh (by rw [List.length_map]; omega)
          rw [List.length_map] at hs
          refine ⟨_, hs, fun r g2 hP => ?_⟩
          obtain ⟨rfl, ys, hp, hsrt, rfl⟩ := hP
          have hyl : q.2.length = ys.length := by rw [hp.length_eq, List.length_map]
          refine .inl ?_
          conv => whnf
          refine ⟨[1001, 0, 2, 3, 1, 4, 5, 6, 1000, 1000], by kernel_rfl, ?_⟩
          conv => whnf
          refine .inr (.inr ⟨[1], eC (by kernel_rfl), rfl, ?_⟩)
          conv => whnf
          have hys : ∀ x ∈ ys, x.2.length ≤ 1099511627776 := fun x hx => hsh x (hp.mem_iff.1 hx)
          have hcs := sQ ys hys (by omega)
          rw [← hyl] at hcs
          refine ⟨_, hcs, fun r g2 hP => ?_⟩
          obtain ⟨rfl, rfl⟩ := hP
          refine .inr ?_
          conv => whnf
          refine .inl ?_
          conv => whnf
          refine ⟨_, t6 q.1 (by omega) (rJ hhd), .inl rfl, .inr ?_⟩
          conv => whnf
          refine ⟨by rw [a6 aT], by rw [a6 a7], ?_⟩
          show one [_, _] = V.tup [fP ((q.2.map fzF).foldl gH []), bE (q.1.map fz)]
          rw [← J0 (q.2.map fzF) ys hp hsrt]
          rfl)
theorem kU (x0 : yY) (h0 : aC x0 ≤ 1048576) : d6 (bK x0).1 ≤ 1048576 ∧ (bK x0).2.length ≤ 1048576 := by
  unfold bK
  split
  · rename_i hf
    unfold xK at hf
    simp only [Bool.and_eq_true, decide_eq_true_eq] at hf
    obtain ⟨⟨h1, h2⟩, h3⟩ := hf
    obtain ⟨s1, s2⟩ := o9 (x0.2.map fzF) [] (fun x hx => by
      obtain ⟨y, hy, rfl⟩ := List.mem_map.1 hx
      have := rK (List.all_eq_true.1 h3 _ hy)
      simpa [fzF] using this) (by simp)
    have h4 := u3 eF 3 _ s1
    have h5 := rK h1
    rw [List.length_map, List.length_nil] at s2
    refine ⟨?_, ?_⟩
    · show ((x0.2.map fzF).foldl gH []).length + bS eF ((x0.2.map fzF).foldl gH []) ≤ _
      omega
    · show (x0.1.map fz).length ≤ _
      rw [List.length_map]; omega
  · exact ⟨by show (0 : Nat) + 0 ≤ _; omega, by show (0 : Nat) ≤ _; omega⟩
def iZ (m k : Int) : Bool := D3 .i64 (R2 .i64 m k) 1 == 1
def twX (v m : Int) (p : Nat) (x : Int) : Int := bif decide (x = v) && iZ m p then 99 else x
def twL (v m : Int) (xs : List Int) : List Int := xs.mapIdx (twX v m)
def twF (v m : Int) (f : aG) : aG := (f.1, twL v m f.2)
def rU (v m : Int) (xs : List Int) : Bool := (xs.mapIdx fun p x => !iZ m p || decide (x = v)).all id
def twA (db : List aG) (v : Int) : List aG := db.flatMap fun f => (List.range 8).map fun m => twF v (m : Nat) f
def twS (db : List aG) (v : Int) : List aG := (twA db v).foldl gH db
def dbM (v : Int) (f : aG) : List aG := ((List.range (2 ^ f.2.length)).drop 1).flatMap fun m => if rU v (m : Nat) f.2 then [twF v (m : Nat) f] else []
def dbA (db : List aG) (v : Int) : List aG := db ++ db.flatMap (dbM v)
theorem RP : ∀ b0 b1 b2 : Bool, iZ ((b0.toNat + 2 * b1.toNat + 4 * b2.toNat : Nat) : Int) (0 : Nat) = b0 ∧ iZ ((b0.toNat + 2 * b1.toNat + 4 * b2.toNat : Nat) : Int) (1 : Nat) = b1 ∧ iZ ((b0.toNat + 2 * b1.toNat + 4 * b2.toNat : Nat) : Int) (2 : Nat) = b2 := by decide
theorem kX {v m : Int} {p : Nat} {x : Int} (h : (decide (x = v) && iZ m p) = false) : twX v m p x = x := by unfold twX; rw [h]; rfl
theorem AP {v m n : Int} {p : Nat} {x : Int} (h : (decide (x = v) && iZ m p) = (decide (x = v) && iZ n p)) : twX v m p x = twX v n p x := by unfold twX; rw [h]
theorem a0A (v : Int) (m : Nat) : ∀ (xs : List Int), xs.length ≤ 3 → ∃ n : Nat, n < 2 ^ xs.length ∧ rU v n xs = true ∧ twL v n xs = twL v m xs
 | [], _ => ⟨0, by decide, rfl, rfl⟩
 | [a], _ => by
  obtain ⟨h0, _, _⟩ := RP (decide (a = v) && iZ m (0 : Nat)) false false
  generalize hb : (decide (a = v) && iZ m (0 : Nat)) = b at h0
  refine ⟨b.toNat + 2 * false.toNat + 4 * false.toNat, ?_, ?_, ?_⟩
  ·show _ < 2 ^ 1
   cases b <;> decide
  ·show ((!iZ _ (0 : Nat) || decide (a = v)) && true) = true
   rw [h0, ← hb]
   cases decide (a = v) <;> simp
  ·show [twX _ _ 0 a] = [twX _ _ 0 a]
   rw [AP (n := m) (p := 0) (x := a)]
   rw [h0, ← hb]; cases decide (a = v) <;> simp
 | [a, b], _ => by
  obtain ⟨h0, h1, _⟩ := RP (decide (a = v) && iZ m (0 : Nat)) (decide (b = v) && iZ m (1 : Nat)) false
  generalize hb0 : (decide (a = v) && iZ m (0 : Nat)) = b0 at h0 h1
  generalize hb1 : (decide (b = v) && iZ m (1 : Nat)) = b1 at h0 h1
  refine ⟨b0.toNat + 2 * b1.toNat + 4 * false.toNat, ?_, ?_, ?_⟩
  ·show _ < 2 ^ 2
   cases b0 <;> cases b1 <;> decide
  ·show ((!iZ _ (0 : Nat) || decide (a = v)) && ((!iZ _ (1 : Nat) || decide (b = v)) && true)) = true
   rw [h0, h1, ← hb0, ← hb1]
   cases decide (a = v) <;> cases decide (b = v) <;> simp
  ·show [twX _ _ 0 a, twX _ _ 1 b] = [twX _ _ 0 a, twX _ _ 1 b]
   rw [AP (n := m) (p := 0) (x := a), AP (n := m) (p := 1) (x := b)]
   ·rw [h1, ← hb1]; cases decide (b = v) <;> simp
   ·rw [h0, ← hb0]; cases decide (a = v) <;> simp
 | [a, b, c], _ => by
  obtain ⟨h0, h1, h2⟩ := RP (decide (a = v) && iZ m (0 : Nat)) (decide (b = v) && iZ m (1 : Nat)) (decide (c = v) && iZ m (2 : Nat))
  generalize hb0 : (decide (a = v) && iZ m (0 : Nat)) = b0 at h0 h1 h2
  generalize hb1 : (decide (b = v) && iZ m (1 : Nat)) = b1 at h0 h1 h2
  generalize hb2 : (decide (c = v) && iZ m (2 : Nat)) = b2 at h0 h1 h2
  refine ⟨b0.toNat + 2 * b1.toNat + 4 * b2.toNat, ?_, ?_, ?_⟩
  ·show _ < 2 ^ 3
   cases b0 <;> cases b1 <;> cases b2 <;> decide
  ·show ((!iZ _ (0 : Nat) || decide (a = v)) && ((!iZ _ (1 : Nat) || decide (b = v)) && ((!iZ _ (2 : Nat) || decide (c = v)) && true))) = true
   rw [h0, h1, h2, ← hb0, ← hb1, ← hb2]
   cases decide (a = v) <;> cases decide (b = v) <;> cases decide (c = v) <;> simp
  ·show [twX _ _ 0 a, twX _ _ 1 b, twX _ _ 2 c] = [twX _ _ 0 a, twX _ _ 1 b, twX _ _ 2 c]
   rw [AP (n := m) (p := 0) (x := a), AP (n := m) (p := 1) (x := b), AP (n := m) (p := 2) (x := c)]
   ·rw [h2, ← hb2]; cases decide (c = v) <;> simp
   ·rw [h1, ← hb1]; cases decide (b = v) <;> simp
   ·rw [h0, ← hb0]; cases decide (a = v) <;> simp
 | a :: b :: c :: d :: r, h => by simp at h
theorem Z7 (v : Int) (xs : List Int) (h : xs.length ≤ 3) : twL v ((0 : Nat) : Int) xs = xs := by
 obtain ⟨h0, h1, h2⟩ := RP false false false
 have e : ((false.toNat + 2 * false.toNat + 4 * false.toNat : Nat) : Int) = ((0 : Nat) : Int) := rfl
 rw [e] at h0 h1 h2
 match xs, h with
 | [], _ => rfl
 | [a], _ =>
  show [twX _ _ 0 a] = _
  rw [kX (p := 0) (x := a) (by rw [h0, Bool.and_false])]
 | [a, b], _ =>
  show [twX _ _ 0 a, twX _ _ 1 b] = _
  rw [kX (p := 0) (x := a) (by rw [h0, Bool.and_false]), kX (p := 1) (x := b) (by rw [h1, Bool.and_false])]
 | [a, b, c], _ =>
  show [twX _ _ 0 a, twX _ _ 1 b, twX _ _ 2 c] = _
  rw [kX (p := 0) (x := a) (by rw [h0, Bool.and_false]), kX (p := 1) (x := b) (by rw [h1, Bool.and_false]), kX (p := 2) (x := c) (by rw [h2, Bool.and_false])]
theorem SS {v : Int} {f x : aG} : x ∈ dbM v f ↔ ∃ m : Nat, 1 ≤ m ∧ m < 2 ^ f.2.length ∧ rU v m f.2 = true ∧ x = twF v m f := by
 have hr : ∀ m : Nat, m ∈ (List.range (2 ^ f.2.length)).drop 1 ↔ 1 ≤ m ∧ m < 2 ^ f.2.length := fun m => by
  rw [List.mem_iff_getElem?]
  constructor
  ·rintro ⟨i, hi⟩
   rw [List.getElem?_drop] at hi
   obtain ⟨h1, h2⟩ := List.getElem?_eq_some_iff.1 hi
   rw [List.getElem_range] at h2
   rw [List.length_range] at h1
   omega
  ·rintro ⟨h1, h2⟩
   refine ⟨m - 1, ?_⟩
   rw [List.getElem?_drop, show 1 + (m - 1) = m from by omega, List.getElem?_range h2]
 unfold dbM
 simp only [List.mem_flatMap, hr]
 constructor
 ·rintro ⟨m, ⟨h1, h2⟩, h3⟩
  split at h3
  ·rename_i h4
   exact ⟨m, h1, h2, h4, List.mem_singleton.1 h3⟩
  ·cases h3
 ·rintro ⟨m, h1, h2, h3, rfl⟩
  exact ⟨m, ⟨h1, h2⟩, by rw [if_pos h3]; simp⟩
theorem a2O {n : Nat} (h : n ≤ 3) : 2 ^ n ≤ 8 := Nat.pow_le_pow_right (n := 2) (by decide) h
theorem a18 {db : List aG} (hs : fR ltF db) (hl : ∀ f ∈ db, f.2.length ≤ 3) (v : Int) : (dbA db v).foldl gH [] = twS db v := by
 obtain ⟨a1, a2⟩ := wJ (dbA db v) [] List.Pairwise.nil
 obtain ⟨b1, b2⟩ := wJ (twA db v) db hs
 refine lX GB a1 b1 fun x => ?_
 rw [a2, show (x ∈ twS db v ↔ x ∈ twA db v ∨ x ∈ db) from b2 x]
 have e1 : x ∈ dbA db v ↔ x ∈ db ∨ ∃ f ∈ db, x ∈ dbM v f := by unfold dbA; rw [List.mem_append, List.mem_flatMap]
 have e2 : x ∈ twA db v ↔ ∃ f ∈ db, ∃ m : Nat, m < 8 ∧ x = twF v m f := by
  unfold twA
  simp only [List.mem_flatMap, List.mem_map, List.mem_range]
  constructor
  ·rintro ⟨f, hf, m, hm, rfl⟩; exact ⟨f, hf, m, hm, rfl⟩
  ·rintro ⟨f, hf, m, hm, rfl⟩; exact ⟨f, hf, m, hm, rfl⟩
 rw [e1, e2]
 constructor
 ·rintro ((h | ⟨f, hf, h⟩) | h)
  ·exact .inr h
  ·obtain ⟨m, _, h2, _, rfl⟩ := SS.1 h
   have := a2O (hl f hf)
   exact .inl ⟨f, hf, m, by omega, rfl⟩
  ·cases h
 ·rintro (⟨f, hf, m, hm, rfl⟩ | h)
  ·obtain ⟨n, h1, h2, h3⟩ := a0A v m f.2 (hl f hf)
   have e : twF v m f = twF v n f := Prod.ext rfl h3.symm
   left
   by_cases hn : n = 0
   ·subst hn
    rw [e, show twF v ((0 : Nat) : Int) f = f from Prod.ext rfl (Z7 v f.2 (hl f hf))]
    exact .inl hf
   ·exact .inr ⟨f, hf, SS.2 ⟨n, by omega, h1, h2, e⟩⟩
  ·exact .inl (.inl h)
theorem a17 {db : List aG} (hs : fR ltF db) {v : Int} (h : ∀ f ∈ db, ∀ x ∈ f.2, x ≠ v) : twS db v = db := by
 obtain ⟨b1, b2⟩ := wJ (twA db v) db hs
 refine lX GB b1 hs fun x => (b2 x).trans ⟨?_, .inr⟩
 rintro (hx | hx)
 ·unfold twA at hx
  simp only [List.mem_flatMap, List.mem_map] at hx
  obtain ⟨f, hf, m, _, rfl⟩ := hx
  have e : twF v m f = f := Prod.ext rfl (by
   show twL v m f.2 = f.2
   refine List.ext_getElem (by simp [twL]) fun k h1 h2 => ?_
   simp only [twL, List.getElem_mapIdx]
   exact kX (by rw [decide_eq_false (h f hf _ (List.getElem_mem h2)), Bool.false_and]))
  rw [e]
  exact hf
 ·exact hx
theorem LY (v m : Int) (f : aG) : (twF v m f).2.length = f.2.length := by simp [twF, twL]
theorem TU {db : List aG} (v : Int) : (twA db v).length = 8 * db.length := by
 unfold twA
 induction db with
 | nil => rfl
 | cons f db ih => rw [List.flatMap_cons, List.length_append, ih, List.length_cons]; simp; omega
end Go.Proofs.YtboolngaahifdaaGreatD
