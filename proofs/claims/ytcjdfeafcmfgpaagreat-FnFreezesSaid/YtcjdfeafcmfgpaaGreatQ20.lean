/- Part 20 of the proof of the statement FnFreezes: contracts of functions and plain laws; no condition. -/
import Derived.Test.YtcjdfeafcmfgpaaGreatQ18
import Derived.Test.YtcjdfeafcmfgpaaGreatQ19
import Derived.Test.YtcjdfeafcmfgpaaGreatQ12
import Derived.Test.YtcjdfeafcmfgpaaGreatQ14
import Derived.Test.YtcjdfeafcmfgpaaGreatQ9
import Derived.WalkKit
import Derived.WalkSpells
set_option linter.unusedVariables false
set_option linter.unusedSimpArgs false
set_option maxRecDepth 100000
namespace Go.Proofs.YtcjdfeafcmfgpaaGreatD
open Go Go.Proofs
def val (v : Int → Int) (t : Int) : Int := if isVar t then v t else -1 - t
def valA (v : Int → Int) (a : FactC) : FactC := (a.1, a.2.map (val v))
def Sat (v : Int → Int) (db body : List FactC) : Prop := ∀ a ∈ body, valA v a ∈ db
def Under (b : Bnd) (v : Int → Int) : Prop := ∀ (k : Nat) (u : Int), b k = some u → v (k : Int) = u
def fnOf (b : Bnd) (t : Int) : Int := ba b t.toNat
def ExtB (b b2 : Bnd) : Prop := ∀ (k : Nat) (u : Int), b k = some u → b2 k = some u
theorem term_rng {t : Int} (h : isTerm t = true) : -80 ≤ t ∧ t ≤ 19 := by simpa [isTerm, inR] using h
theorem var_iff {t : Int} (h : isTerm t = true) : isVar t = true ↔ 0 ≤ t := by
  have := term_rng h
  simp only [isVar, inR, Bool.and_eq_true, decide_eq_true_eq]
  omega
theorem val_neg {v : Int → Int} {t : Int} (h : t < 0) : val v t = -1 - t := by
  unfold val
  rw [if_neg (by simp [isVar, inR]; omega)]
theorem val_pos {v : Int → Int} {t : Int} (ht : isTerm t = true) (h : ¬ t < 0) : val v t = v t := by
  unfold val
  rw [if_pos ((var_iff ht).2 (by omega))]
theorem bindGo_ext : ∀ (ts vs : List Int) (b b2 : Bnd), bindGo ts vs b = (b2, true) → ExtB b b2
  | [], vs, b, b2, h => by
    have : b = b2 := by cases vs <;> simpa [bindGo] using h
    subst this
    exact fun _ _ h => h
  | t :: ts, [], b, b2, h => by
    have : b = b2 := by simpa [bindGo] using h
    subst this
    exact fun _ _ h => h
  | t :: ts, x :: vs, b, b2, h => by
    simp only [bindGo] at h
    split at h
    · split at h
      · exact bindGo_ext ts vs b b2 h
      · cases h
    · split at h
      · rename_i hb
        have ih := bindGo_ext ts vs _ b2 h
        intro k u hk
        refine ih k u ?_
        simp only [bset]
        split
        · rename_i he; subst he; rw [hb] at hk; cases hk
        · exact hk
      · split at h
        · exact bindGo_ext ts vs b b2 h
        · cases h
theorem bindGo_sound : ∀ (ts vs : List Int) (b b2 : Bnd), ts.length = vs.length → ts.all isTerm = true → bindGo ts vs b = (b2, true) → ts.map (val (fnOf b2)) = vs ∧ ∀ t ∈ ts, 0 ≤ t → (b2 t.toNat).isSome = true
  | [], vs, b, b2, hl, _, h => by
    have : vs = [] := List.length_eq_zero_iff.1 (by simpa using hl.symm)
    subst this
    exact ⟨rfl, fun t ht => by cases ht⟩
  | t :: ts, [], b, b2, hl, _, h => by simp at hl
  | t :: ts, x :: vs, b, b2, hl, ha, h => by
    have hl' : ts.length = vs.length := by simpa using hl
    simp only [List.all_cons, Bool.and_eq_true] at ha
    simp only [bindGo] at h
    split at h
    · rename_i hneg
      split at h
      · rename_i he
        obtain ⟨i1, i2⟩ := bindGo_sound ts vs b b2 hl' ha.2 h
        refine ⟨by rw [List.map_cons, i1, val_neg hneg, he], fun u hu h0 => ?_⟩
        rcases List.mem_cons.1 hu with rfl | hu
        · omega
        · exact i2 u hu h0
      · cases h
    · rename_i hneg
      have key : ∀ b1 : Bnd, b1 t.toNat = some x → bindGo ts vs b1 = (b2, true) → (t :: ts).map (val (fnOf b2)) = x :: vs ∧ ∀ u ∈ t :: ts, 0 ≤ u → (b2 u.toNat).isSome = true := by
        intro b1 hb1 hb
        obtain ⟨i1, i2⟩ := bindGo_sound ts vs b1 b2 hl' ha.2 hb
        have h2 := bindGo_ext ts vs b1 b2 hb _ _ hb1
        refine ⟨?_, fun u hu h0 => ?_⟩
        · rw [List.map_cons, i1, val_pos ha.1 hneg]
          unfold fnOf ba
          rw [h2]
          rfl
        · rcases List.mem_cons.1 hu with rfl | hu
          · rw [h2]; rfl
          · exact i2 u hu h0
      split at h
      · rename_i hb
        exact key _ (by simp [bset]) h
      · rename_i u hb
        split at h
        · rename_i he
          subst he
          exact key b hb h
        · cases h
theorem bindGo_complete {v : Int → Int} : ∀ (ts vs : List Int) (b : Bnd), Under b v → ts.all isTerm = true → ts.map (val v) = vs → (bindGo ts vs b).2 = true ∧ Under (bindGo ts vs b).1 v
  | [], vs, b, hu, _, h => by
    subst h
    exact ⟨rfl, hu⟩
  | t :: ts, vs, b, hu, ha, h => by
    subst h
    simp only [List.all_cons, Bool.and_eq_true] at ha
    simp only [List.map_cons, bindGo]
    split
    · rename_i hneg
      rw [if_pos (val_neg hneg).symm]
      exact bindGo_complete ts _ b hu ha.2 rfl
    · rename_i hneg
      have hr := term_rng ha.1
      have ht : ((t.toNat : Nat) : Int) = t := by omega
      rw [val_pos ha.1 hneg]
      cases hb : b t.toNat with
      | none =>
        refine bindGo_complete ts _ _ (fun k u hk => ?_) ha.2 rfl
        simp only [bset] at hk
        split at hk
        · rename_i he
          subst he
          cases hk
          rw [ht]
        · exact hu k u hk
      | some u =>
        have := hu _ _ hb
        rw [ht] at this
        simp only
        rw [if_pos this.symm]
        exact bindGo_complete ts _ b hu ha.2 rfl
theorem val_ext {b b2 : Bnd} (h : ExtB b b2) {t : Int} (hb : 0 ≤ t → (b t.toNat).isSome = true) : val (fnOf b2) t = val (fnOf b) t := by
  unfold val
  cases hv : isVar t with
  | false => rfl
  | true =>
    have h0 : 0 ≤ t := by
      simp only [isVar, inR, Bool.and_eq_true, decide_eq_true_eq] at hv
      exact hv.1
    obtain ⟨u, hu⟩ := Option.isSome_iff_exists.1 (hb h0)
    simp only [if_true]
    unfold fnOf ba
    rw [hu, h _ _ hu]
theorem visitL_sound (db : List FactC) : ∀ (body : List FactC) (b b2 : Bnd), (∀ a ∈ body, a.2.all isTerm = true) → b2 ∈ visitL db body b → ExtB b b2 ∧ Sat (fnOf b2) db body ∧ ∀ a ∈ body, ∀ t ∈ a.2, 0 ≤ t → (b2 t.toNat).isSome = true
  | [], b, b2, _, h => by
    have : b2 = b := by simpa [visitL] using h
    subst this
    exact ⟨fun _ _ h => h, (fun a ha => by cases ha), (fun a ha => by cases ha)⟩
  | a :: r, b, b2, ht, h => by
    simp only [visitL, List.mem_flatMap] at h
    obtain ⟨f, hf, h⟩ := h
    split at h
    · rename_i hm
      obtain ⟨i1, i2, i3⟩ := visitL_sound db r _ b2 (fun c hc => ht c (by simp [hc])) h
      unfold mch at hm h i1
      by_cases hc : a.1 = f.1 ∧ a.2.length = f.2.length
      · rw [if_pos hc] at hm i1
        have hb : bindGo a.2 f.2 b = ((bindGo a.2 f.2 b).1, true) := Prod.ext rfl hm
        have e1 := bindGo_ext _ _ _ _ hb
        obtain ⟨s1, s2⟩ := bindGo_sound _ _ _ _ hc.2 (ht a (by simp)) hb
        refine ⟨fun k u hk => i1 k u (e1 k u hk), fun c hcm => ?_, fun c hcm t hct h0 => ?_⟩
        · rcases List.mem_cons.1 hcm with rfl | hcm
          · have : valA (fnOf b2) c = f := by
              refine Prod.ext hc.1 ?_
              show c.2.map (val (fnOf b2)) = f.2
              rw [← s1]
              exact List.map_congr_left fun t ht' => val_ext i1 (s2 t ht')
            rw [this]
            exact hf
          · exact i2 c hcm
        · rcases List.mem_cons.1 hcm with rfl | hcm
          · obtain ⟨u, hu⟩ := Option.isSome_iff_exists.1 (s2 t hct h0)
            rw [i1 _ _ hu]
            rfl
          · exact i3 c hcm t hct h0
      · rw [if_neg hc] at hm
        cases hm
    · cases h
theorem visitL_complete {v : Int → Int} (db : List FactC) : ∀ (body : List FactC) (b : Bnd), (∀ a ∈ body, a.2.all isTerm = true) → Under b v → Sat v db body → ∃ b2 ∈ visitL db body b, Under b2 v
  | [], b, _, hu, _ => ⟨b, by simp [visitL], hu⟩
  | a :: r, b, ht, hu, hs => by
    obtain ⟨c1, c2⟩ := bindGo_complete a.2 (a.2.map (val v)) b hu (ht a (by simp)) rfl
    have hm : mch b a (valA v a) = bindGo a.2 (a.2.map (val v)) b := by
      unfold mch valA
      rw [if_pos ⟨rfl, by simp⟩]
    obtain ⟨b2, h1, h2⟩ := visitL_complete db r (bindGo a.2 (a.2.map (val v)) b).1 (fun c hc => ht c (by simp [hc])) c2 (fun c hc => hs c (by simp [hc]))
    refine ⟨b2, ?_, h2⟩
    simp only [visitL, List.mem_flatMap]
    refine ⟨valA v a, hs a (by simp), ?_⟩
    rw [hm, if_pos c1]
    exact h1
theorem under_val {b : Bnd} {v : Int → Int} (hu : Under b v) {t : Int} (hb : isVar t = true → (b t.toNat).isSome = true) : val (fnOf b) t = val v t := by
  unfold val
  cases hv : isVar t with
  | false => rfl
  | true =>
    obtain ⟨u, h⟩ := Option.isSome_iff_exists.1 (hb hv)
    have h0 : 0 ≤ t := by
      simp only [isVar, inR, Bool.and_eq_true, decide_eq_true_eq] at hv
      exact hv.1
    have := hu _ _ h
    simp only [if_true]
    unfold fnOf ba
    rw [h]
    have ht : ((t.toNat : Nat) : Int) = t := by omega
    rw [ht] at this
    exact this.symm
end Go.Proofs.YtcjdfeafcmfgpaaGreatD
set_option linter.unusedVariables false
set_option linter.unusedSimpArgs false
set_option maxRecDepth 100000
namespace Go.Proofs.YtcjdfeafcmfgpaaGreatD
open Go Go.Proofs
theorem valOf_val (b : Bnd) {t : Int} (ht : isTerm t = true) : valOf b t = val (fnOf b) t := by
  have hr := term_rng ht
  unfold valOf val fnOf
  cases hv : isVar t with
  | true => rfl
  | false =>
    have h0 : ¬ 0 ≤ t := fun h => by rw [(var_iff ht).2 h] at hv; cases hv
    simp only [Bool.false_eq_true, if_false]
    unfold constOf
    rw [if_pos (by simp [inR]; omega)]
theorem head_bound {s : List Int} {q : QueryE} {db : List FactC} (h : isQuery s q = true) {b : Bnd} (hb : b ∈ visitL db q.2 bNone) : ∀ t ∈ q.1, isVar t = true → (b t.toNat).isSome = true := by
  intro t ht hv
  obtain ⟨t1, t2, t3⟩ := isQuery_terms h
  simp only [isQuery, fineQ, Bool.and_eq_true] at h
  have hs := List.all_eq_true.1 h.2.2.2.2 t ht
  have hoc : occurs q t = true := by simpa [safeV, hv] using hs
  obtain ⟨a, ha, hx⟩ := List.any_eq_true.1 hoc
  obtain ⟨u, hu, he⟩ := List.any_eq_true.1 hx
  have hut : u = t := by
    have := he
    simp [eqV] at this
    first | exact this.symm | exact this
  subst hut
  exact (visitL_ok db q.2 bNone b hb).2 a ha u hu ((var_iff (List.all_eq_true.1 t1 u ht)).1 hv)
theorem under_none (v : Int → Int) : Under bNone v := fun k u h => by cases h
theorem ans_iff {s : List Int} {q : QueryE} {db : List FactC} (hq : isQuery s q = true) (hd : isDb s db = true) (x : List Int) : x ∈ answersS s q db ↔ ∃ v : Int → Int, Sat v db q.2 ∧ x = q.1.map (val v) := by
  obtain ⟨t1, t2, t3⟩ := isQuery_terms hq
  unfold answersS
  rw [hq, hd, Bool.and_self, if_pos rfl, (sortL_ok _).2 x]
  simp only [List.mem_map]
  constructor
  · rintro ⟨w, hw, rfl⟩
    obtain ⟨b, hb, rfl⟩ := (rawP_ok q db).1 w hw
    refine ⟨fnOf b, (visitL_sound db q.2 bNone b t2 hb).2.1, ?_⟩
    rw [safe_bound hq hb]
    exact List.map_congr_left fun t ht => valOf_val b (List.all_eq_true.1 t1 t ht)
  · rintro ⟨v, hv, rfl⟩
    obtain ⟨b, hb, hu⟩ := visitL_complete db q.2 bNone t2 (under_none v) hv
    refine ⟨sV b, (sortL_ok _).2 _ |>.2 (List.mem_map.2 ⟨b, hb, rfl⟩), ?_⟩
    rw [safe_bound hq hb]
    refine List.map_congr_left fun t ht => ?_
    rw [valOf_val b (List.all_eq_true.1 t1 t ht)]
    exact under_val hu (head_bound hq hb t ht)
end Go.Proofs.YtcjdfeafcmfgpaaGreatD
set_option linter.unusedVariables false
set_option linter.unusedSimpArgs false
set_option maxRecDepth 100000
namespace Go.Proofs.YtcjdfeafcmfgpaaGreatD
open Go Go.Proofs
end Go.Proofs.YtcjdfeafcmfgpaaGreatD
set_option linter.unusedVariables false
set_option linter.unusedSimpArgs false
set_option maxRecDepth 100000
namespace Go.Proofs.YtcjdfeafcmfgpaaGreatD
open Go Go.Proofs
end Go.Proofs.YtcjdfeafcmfgpaaGreatD
set_option linter.unusedVariables false
set_option linter.unusedSimpArgs false
set_option maxRecDepth 100000
namespace Go.Proofs.YtcjdfeafcmfgpaaGreatD
open Go Go.Proofs
end Go.Proofs.YtcjdfeafcmfgpaaGreatD
set_option linter.unusedVariables false
set_option linter.unusedSimpArgs false
set_option maxRecDepth 100000
namespace Go.Proofs.YtcjdfeafcmfgpaaGreatD
open Go Go.Proofs
end Go.Proofs.YtcjdfeafcmfgpaaGreatD
set_option linter.unusedVariables false
set_option linter.unusedSimpArgs false
set_option maxRecDepth 100000
namespace Go.Proofs.YtcjdfeafcmfgpaaGreatD
open Go Go.Proofs
end Go.Proofs.YtcjdfeafcmfgpaaGreatD
set_option linter.unusedVariables false
set_option linter.unusedSimpArgs false
set_option maxRecDepth 100000
namespace Go.Proofs.YtcjdfeafcmfgpaaGreatD
open Go Go.Proofs
end Go.Proofs.YtcjdfeafcmfgpaaGreatD
set_option linter.unusedVariables false
set_option linter.unusedSimpArgs false
set_option maxRecDepth 100000
namespace Go.Proofs.YtcjdfeafcmfgpaaGreatD
open Go Go.Proofs
def app (h : Int → Int) (t : Int) : Int := if isVar t then h t else t
end Go.Proofs.YtcjdfeafcmfgpaaGreatD
set_option linter.unusedVariables false
set_option linter.unusedSimpArgs false
set_option maxRecDepth 100000
namespace Go.Proofs.YtcjdfeafcmfgpaaGreatD
open Go Go.Proofs
end Go.Proofs.YtcjdfeafcmfgpaaGreatD
set_option linter.unusedVariables false
set_option linter.unusedSimpArgs false
namespace Go.Proofs.YtcjdfeafcmfgpaaGreatD
open Go Go.Proofs Go.RowKit Go.Shelf Go.Sort Go.Lib
set_option maxHeartbeats 4000000 in
set_option maxRecDepth 1000000 in
theorem compact_walkK {α : Type} [Inhabited α] (ea eb : α → Value) (ef : α → α → Bool) (g blk off cap : Nat) (d : Array α) (w : World)
    (eg : ∀ args w, (callFunc g args).run Tryz.prog w = .ok (.enter g args) w) (hcmp : EqLays Tryz.prog g (fun x => .agg #[ea x, eb x]) (fun x => [ea x, eb x]) 2 ef w blk off d.size) (h1 : ∀ x, (ea x).oneCell' = true ∧ (eb x).oneCell' = true) (hH : HoldsK (fun x => [ea x, eb x]) 2 w blk off d) (hblk : blk < w.heap.size) (hF : ∀ c e, w.heap[blk]? = some (.cells c e (0, 0)) → off + d.size * 2 ≤ c.size) (hsz : d.size < 4611686018427387904) (hcap : d.size ≤ cap) :
    Calls Tryz.prog 165 #[.slice (some ⟨blk, off, none⟩) d.size cap, .func (.func g) #[] #[]] w fun e w' =>
      ∃ m : Nat, CompOut (fun x => [ea x, eb x]) 2 ef d w w' blk off m ∧ e = .returned (.slice (some ⟨blk, off, none⟩) m cap) := by
  have mixed : Tryz.prog.follows .mixedOrders = true := by kernel_rfl
  have hS0 : SWK (fun x => [ea x, eb x]) 2 w blk off d w := SWK.start hH
  have same : ∀ W, SWK (fun x => [ea x, eb x]) 2 w blk off d W → (∀ j, j < d.size → keepsB ef d j = true) → CompOut (fun x => [ea x, eb x]) 2 ef d w W blk off d.size := fun W hW hall => CompOut.all hblk hF hW hall
  have cut : ∀ (dk : Array α) (m : Nat) W l, SWK (fun x => [ea x, eb x]) 2 w blk off dk W → CInv ef d d.size m dk → CompOut (fun x => [ea x, eb x]) 2 ef d w (W.setCells blk (off + m * 2) l) blk off m := fun dk m W l hW hI => CompOut.cut hblk hF hW hI l
  have HT : Aside _ := cut
  have HS : Aside _ := same
  have HC : Aside _ := hcmp
  have HH : Aside _ := hH
  have S0 : Aside _ := hS0
  have H1 : Aside _ := h1
  have HF : Aside _ := hF
  clear same cut hcmp hH hS0 h1 hF
  by_cases h2 : d.size < 2
  · go_enter Tryz.func165, Tryz.ntmps165
    go_wp2
    go_ret
    have := HS.out w S0.out (fun j hj => by
      rcases Nat.eq_zero_or_pos j with h | h
      · subst h; exact keepsB_lt_one d 0 Nat.one_pos
      · omega)
    first | exact this | exact ⟨_, this, rfl⟩
  · go_enter Tryz.func165, Tryz.ntmps165
    go_wp2
    go_loopg [5] d.size (fun g5 s5 wr => ∃ k : Nat, 1 ≤ k ∧ k ≤ d.size ∧ d.size - k ≤ g5 ∧ s5 = .int .i64 k ∧ SWK (fun x => [ea x, eb x]) 2 w blk off d wr ∧ ∀ j, j < k → keepsB ef d j = true)
    case atStart => exact ⟨1, Nat.le_refl _, by omega, by omega, rfl, S0.out, keepsB_lt_one d⟩
    case round =>
      obtain ⟨k, hk1, hkd, hg, rfl, hW, hall⟩ := hrel
      by_cases hlt : k < d.size
      · obtain ⟨kp, rfl⟩ : ∃ kp, k = kp + 1 := ⟨k - 1, by omega⟩
        obtain ⟨xj, hxj⟩ : ∃ x, d[kp + 1]! = x := ⟨_, rfl⟩
        obtain ⟨xp, hxp⟩ : ∃ x, d[kp]! = x := ⟨_, rfl⟩
        have hHc : ∀ n' os', HoldsK (fun x => [ea x, eb x]) 2 (grow (wr.drewN n') os') blk off d := fun n' os' => (SWK_grown hW n' os').holds hblk HH.out rfl
        have lj0 : ∀ n' os', (grow (wr.drewN n') os').cell? ⟨blk, off + (kp + 1) * 2, none⟩ = some (ea xj) := fun n' os' => by
          rw [← hxj]; exact ((hHc n' os').cell (i := kp + 1) (c := 0) hlt (by omega)).1
        have lj1 : ∀ n' os', (grow (wr.drewN n') os').cell? ⟨blk, off + (kp + 1) * 2 + 1, none⟩ = some (eb xj) := fun n' os' => by
          rw [← hxj]; exact ((hHc n' os').cell (i := kp + 1) (c := 1) hlt (by omega)).1
        have lp0 : ∀ n' os', (grow (wr.drewN n') os').cell? ⟨blk, off + kp * 2, none⟩ = some (ea xp) := fun n' os' => by
          rw [← hxp]; exact ((hHc n' os').cell (i := kp) (c := 0) (by omega) (by omega)).1
        have lp1 : ∀ n' os', (grow (wr.drewN n') os').cell? ⟨blk, off + kp * 2 + 1, none⟩ = some (eb xp) := fun n' os' => by
          rw [← hxp]; exact ((hHc n' os').cell (i := kp) (c := 1) (by omega) (by omega)).1
        have hcg : ∀ n' os', Calls Tryz.prog g #[.agg #[ea xj, eb xj], .agg #[ea xp, eb xp]] (grow (wr.drewN n') os') fun e w' => e = .returned (.bool (ef xj xp)) ∧ ∃ q os'', w' = grow ((grow (wr.drewN n') os').drewN q) os'' := fun n' os' =>
          HC.out d _ rfl (SWK_grown hW n' os') xj xp
        have hwp : IntKind.i64.wrap (kp : Int) = (kp : Int) := by rw [IntKind.wrap_i64]; omega
        have jz : (kp : Int) + 1 < (d.size : Int) := by omega
        have jz1 : (kp : Int) < (d.size : Int) := by omega
        have p0 : (0 : Int) ≤ (kp : Int) + 1 := by omega
        have e0 : ((kp : Int) + 1).toNat = kp + 1 := by omega
        have HW : Aside _ := hW
        have HA : Aside _ := hall
        have HX : Aside (d[kp + 1]! = xj ∧ d[kp]! = xp) := ⟨hxj, hxp⟩
        clear hW hall hHc hxj hxp
        cases hef : ef xj xp
        · rw [hef] at hcg
          go_wp2_with fail
          go_quiet_grown (first | (go_at_fn g; refine Calls.grown_of (hcg _ _)))
          go_wp2
          go_roundg (d.size - (kp + 1 + 1))
          case measure => omega
          case rel =>
            refine ⟨kp + 1 + 1, by omega, by omega, Nat.le_refl _, by go_num, SWK_grown HW.out _ _, fun j hj => ?_⟩
            by_cases e : j = kp + 1
            · subst e
              exact keepsB_pos (by rw [Nat.add_sub_cancel, HX.out.1, HX.out.2]; exact hef)
            · exact HA.out j (by omega)
        · rw [hef] at hcg
          go_wp2_with fail
          go_quiet_grown (first | (go_at_fn g; refine Calls.grown_of (hcg _ _)))
          go_wp2
          clear lj0 lj1 lp0 lp1 hcg
          go_loopg [5, 7] d.size (fun g5 s5 s7 wr2 => ∃ (kk k2 : Nat) (dk : Array α), s5 = .int .i64 kk ∧ s7 = .int .i64 k2 ∧ 1 ≤ k2 ∧ kp + 1 + k2 ≤ d.size ∧ d.size - (kp + 1 + k2) ≤ g5 ∧ SWK (fun x => [ea x, eb x]) 2 w blk off dk wr2 ∧ CInv ef d (kp + 1 + k2) kk dk)
          case atStart => exact ⟨kp + 1, 1, d, by go_num, rfl, Nat.le_refl _, by omega, by omega, SWK_grown HW.out _ _, CInv.start HA.out (keepsB_neg (by omega) (by rw [Nat.add_sub_cancel, HX.out.1, HX.out.2]; exact hef))⟩
          case round =>
            obtain ⟨kk, k2, dk, rfl, rfl, hk2, hle, hg2, hW2, hI⟩ := hrel
            have hkk := hI.lt
            have hds := hI.size
            by_cases hlt2 : kp + 1 + k2 < d.size
            · obtain ⟨kq, rfl⟩ : ∃ kq, k2 = kq + 1 := ⟨k2 - 1, by omega⟩
              obtain ⟨u, hu⟩ : ∃ x, d[kp + 1 + (kq + 1)]! = x := ⟨_, rfl⟩
              obtain ⟨v, hv⟩ : ∃ x, d[kp + 1 + kq]! = x := ⟨_, rfl⟩
              have eu : dk[kp + 1 + (kq + 1)]! = u := by rw [hI.high _ (by omega)]; exact hu
              have ev : dk[kp + 1 + kq]! = v := by rw [hI.high _ (by omega)]; exact hv
              have hHc : ∀ n' os', HoldsK (fun x => [ea x, eb x]) 2 (grow (wr.drewN n') os') blk off dk := fun n' os' => (SWK_grown hW2 n' os').holds hblk HH.out hds
              have lj0 : ∀ n' os', (grow (wr.drewN n') os').cell? ⟨blk, off + (kp + 1) * 2 + (kq + 1) * 2, none⟩ = some (ea u) := fun n' os' => by
                rw [← eu, Nat.add_assoc, ← Nat.add_mul]; exact ((hHc n' os').cell (i := kp + 1 + (kq + 1)) (c := 0) (by omega) (by omega)).1
              have lj1 : ∀ n' os', (grow (wr.drewN n') os').cell? ⟨blk, off + (kp + 1) * 2 + (kq + 1) * 2 + 1, none⟩ = some (eb u) := fun n' os' => by
                rw [← eu, Nat.add_assoc off, ← Nat.add_mul]; exact ((hHc n' os').cell (i := kp + 1 + (kq + 1)) (c := 1) (by omega) (by omega)).1
              have lp0 : ∀ n' os', (grow (wr.drewN n') os').cell? ⟨blk, off + (kp + 1) * 2 + kq * 2, none⟩ = some (ea v) := fun n' os' => by
                rw [← ev, Nat.add_assoc, ← Nat.add_mul]; exact ((hHc n' os').cell (i := kp + 1 + kq) (c := 0) (by omega) (by omega)).1
              have lp1 : ∀ n' os', (grow (wr.drewN n') os').cell? ⟨blk, off + (kp + 1) * 2 + kq * 2 + 1, none⟩ = some (eb v) := fun n' os' => by
                rw [← ev, Nat.add_assoc off, ← Nat.add_mul]; exact ((hHc n' os').cell (i := kp + 1 + kq) (c := 1) (by omega) (by omega)).1
              have hcg : ∀ n' os', Calls Tryz.prog g #[.agg #[ea u, eb u], .agg #[ea v, eb v]] (grow (wr.drewN n') os') fun e w' => e = .returned (.bool (ef u v)) ∧ ∃ q os'', w' = grow ((grow (wr.drewN n') os').drewN q) os'' := fun n' os' =>
                HC.out dk _ hds (SWK_grown hW2 n' os') u v
              have kc0 : ∀ n' os', (grow (wr.drewN n') os').cell? ⟨blk, off + kk * 2, none⟩ = some (ea dk[kk]!) := fun n' os' => ((hHc n' os').cell (i := kk) (c := 0) (by omega) (by omega)).1
              have kc1 : ∀ n' os', (grow (wr.drewN n') os').cell? ⟨blk, off + kk * 2 + 1, none⟩ = some (eb dk[kk]!) := fun n' os' => ((hHc n' os').cell (i := kk) (c := 1) (by omega) (by omega)).1
              have kf0 : ∀ n' os', (grow (wr.drewN n') os').frozen? ⟨blk, off + kk * 2, none⟩ = false := fun n' os' => ((hHc n' os').cell (i := kk) (c := 0) (by omega) (by omega)).2
              have kf1 : ∀ n' os', (grow (wr.drewN n') os').frozen? ⟨blk, off + kk * 2 + 1, none⟩ = false := fun n' os' => ((hHc n' os').cell (i := kk) (c := 1) (by omega) (by omega)).2
              have sa : ∀ (a : Addr) (m : Mode) (w : World), Sem.run Tryz.prog (store a (ea u) m) w = stored Tryz.prog w a (ea u) m := fun a m w => run_store Tryz.prog w a _ m (H1.out u).1
              have sb : ∀ (a : Addr) (m : Mode) (w : World), Sem.run Tryz.prog (store a (eb u) m) w = stored Tryz.prog w a (eb u) m := fun a m w => run_store Tryz.prog w a _ m (H1.out u).2
              generalize dk[kk]! = old at kc0 kc1
              have hwq : IntKind.i64.wrap (kq : Int) = (kq : Int) := by rw [IntKind.wrap_i64]; omega
              have j0 : (kq : Int) + 1 < (d.size - (kp + 1) : Nat) := by omega
              have j1 : (kq : Int) < (d.size - (kp + 1) : Nat) := by omega
              have j2 : (kk : Int) < (d.size : Int) := by omega
              have q0 : (0 : Int) ≤ (kq : Int) + 1 := by omega
              have e0' : ((kq : Int) + 1).toNat = kq + 1 := by omega
              have HW2 : Aside _ := hW2
              have HI : Aside _ := hI
              have HX2 : Aside (d[kp + 1 + (kq + 1)]! = u ∧ d[kp + 1 + kq]! = v) := ⟨hu, hv⟩
              clear hW2 hI hHc hu hv eu ev
              cases hef2 : ef u v
              · rw [hef2] at hcg
                go_wp2_with fail
                go_quiet_grown (first | (go_at_fn g; refine Calls.grown_of (hcg _ _)))
                go_wp2
                go_roundg (d.size - (kp + 1 + (kq + 1 + 1)))
                case measure => omega
                case rel => exact ⟨kk + 1, kq + 1 + 1, dk.setIfInBounds kk u, by go_num, by go_num, by omega, by omega, Nat.le_refl _, SWK_store (SWK_grown HW2.out nq osq) (fun _ => rfl) hblk (by omega) u, by
                  have := HI.out.keep hlt2 (keepsB_pos (by rw [show kp + 1 + (kq + 1) - 1 = kp + 1 + kq from by omega, HX2.out.1, HX2.out.2]; exact hef2))
                  rwa [HX2.out.1] at this⟩
              · rw [hef2] at hcg
                clear sa sb kc0 kc1 kf0 kf1
                go_wp2_with fail
                go_quiet_grown (first | (go_at_fn g; refine Calls.grown_of (hcg _ _)))
                go_wp2
                go_roundg (d.size - (kp + 1 + (kq + 1 + 1)))
                case measure => omega
                case rel => exact ⟨kk, kq + 1 + 1, dk, rfl, by go_num, by omega, by omega, Nat.le_refl _, SWK_grown HW2.out _ _, HI.out.skip (keepsB_neg (by omega) (by rw [show kp + 1 + (kq + 1) - 1 = kp + 1 + kq from by omega, HX2.out.1, HX2.out.2]; exact hef2))⟩
            · have hend : kp + 1 + k2 = d.size := by omega
              have hHc := hW2.holds hblk HH.out hds
              obtain ⟨l, hcl⟩ := run_clear_cells (P := Tryz.prog) wr 33 151 (.agg #[.int .i64 0, .slice none 0 0]) [.int .i64 0, .slice none 0 0] (by kernel_rfl) (fun w => by go_simp) rfl (by decide) (by simp [Value.oneCell']) blk (off + kk * 2) (d.size - kk) (cap - kk) (by omega)
                (fun j hj => by
                  have hj' : j < (d.size - kk) * 2 := hj
                  have := (hHc (kk * 2 + j) (by rw [size_flatK]; omega)).1
                  rw [Nat.add_assoc, this]; rfl)
                (fun j hj => by
                  have hj' : j < (d.size - kk) * 2 := hj
                  rw [Nat.add_assoc]; exact (hHc (kk * 2 + j) (by rw [size_flatK]; omega)).2)
              clear hHc
              have HW2 : Aside _ := hW2
              have HI : Aside _ := hI
              clear hW2 hI
              go_wp2
              go_ret
              have := HT.out dk kk wr l HW2.out (by have := HI.out; rwa [hend] at this)
              first | exact this | exact ⟨_, this, rfl⟩
      · have : k = d.size := by omega
        subst this
        have HW : Aside _ := hW
        have HA : Aside _ := hall
        clear hW hall
        go_wp2
        go_ret
        have := HS.out _ HW.out HA.out
        first | exact this | exact ⟨_, this, rfl⟩
end Go.Proofs.YtcjdfeafcmfgpaaGreatD
