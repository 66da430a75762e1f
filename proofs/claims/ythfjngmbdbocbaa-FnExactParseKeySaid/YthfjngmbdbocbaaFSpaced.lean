/- Places as text. -/
import Derived.Test.YthfjngmbdbocbaaFFmt
set_option linter.unusedVariables false
set_option linter.unusedSimpArgs false
set_option maxRecDepth 100000
namespace Go.Proofs.YthfjngmbdbocbaaD
open Go Go.Proofs

def in02 (x : Int) : Bool := inR x 0 2
def places3 (ps : List Int) : Bool := ps.all in02 && inR ps.length 1 3
theorem arePlaces_spec (ps : List Int) (h : ps.length ≤ 1099511627776) : Spec Try.prog 132 [ints ps] (cb (places3 ps)) := by
  refine Spec_of mx Γ_ok Try.func132 rfl ?_
  conv => whnf
  refine ⟨[(0,0),(2,0),(5,0),(6,0),(7,0)], fun m s => ∃ (k : Nat) (e : Int), e = k ∧ m + k = ps.length ∧ ps.all in02 = (ps.drop k).all in02 ∧
    s = ⟨18, [(0, ints ps), (2, cb false), (5, ints ps), (6, ci ps.length), (7, ci e)], []⟩, ps.length, ⟨0, 0, rfl, rfl, rfl, rfl⟩, ?_⟩
  rintro m s ⟨k, _, rfl, hm, hall, rfl⟩
  conv => whnf
  split <;> rename_i h3
  all_goals simp only [decide_eq_true_eq, decide_eq_false_iff_not] at h3
  · conv => whnf
    have hk : k < ps.length := by omega
    rw [drop_all hk] at hall
    refine ⟨by omega, rows_len ciL_len _, ?_⟩
    conv => whnf
    refine ⟨_, takeN_rp (k := k) ciL_len hk, ?_⟩
    conv => whnf
    refine ⟨_, within_spec _ _ _, .inl rfl, .inl ?_⟩
    conv => whnf
    generalize hb1 : (!inR ps[k] 0 2) = b1
    cases b1 with
    | true =>
      conv => whnf
      simp only [Bool.not_eq_true'] at hb1
      show cb false = _
      unfold places3
      rw [hall, show in02 ps[k] = false from hb1]
      rfl
    | false =>
      conv => whnf
      simp only [Bool.not_eq_false'] at hb1
      refine ⟨m - 1, by omega, k + 1, _, wrap_id (by omega) (by omega), by omega, ?_, rfl⟩
      rw [hall, show in02 ps[k] = true from hb1, Bool.true_and]
  · conv => whnf
    rw [drop_end (by omega)] at hall
    refine ⟨_, within_spec _ _ _, .inl rfl, .inl ?_⟩
    conv => whnf
    unfold places3
    rw [hall]
    rfl
def strL (b : ByteArray) : List V := [.sc (.string b)]
theorem strL_len (b : ByteArray) : (strL b).length = 1 := rfl
theorem strL_ro (b : ByteArray) : roVs (strL b) = strL b := rfl
def glueL (sep : ByteArray) : List ByteArray → Nat → ByteArray → ByteArray
  | [], _, acc => acc
  | s :: ss, k, acc => glueL sep ss (k + 1) ((if decide ((k : Int) > 0) then acc ++ sep else acc) ++ s)
theorem glued_spec (ss : List ByteArray) (sep : ByteArray) (hn : ss.length ≤ 3) (h1 : ∀ s ∈ ss, s.size ≤ 1) (h2 : sep.size ≤ 1) : Spec Try.prog 147 [.ro ss.length (rows strL ss), str sep] (str (glueL sep ss 0 ByteArray.empty)) := by
  refine Spec_of mx Γ_ok Try.func147 rfl ?_
  conv => whnf
  refine ⟨[(1,0),(4,0),(5,0),(8,0),(9,0),(10,0)], fun m s => ∃ (k : Nat) (e : Int) (b : ByteArray), e = k ∧ m + k = ss.length ∧ glueL sep ss 0 ByteArray.empty = glueL sep (ss.drop k) k b ∧ b.size ≤ 2 * k ∧
    s = ⟨25, [(1, str sep), (4, str ByteArray.empty), (5, str b), (8, .ro ss.length (rows strL ss)), (9, ci ss.length), (10, ci e)], []⟩, ss.length, ⟨0, 0, ByteArray.empty, rfl, rfl, rfl, by show 0 ≤ _; omega, rfl⟩, ?_⟩
  rintro m s ⟨k, _, b, rfl, hm, hall, hbs, rfl⟩
  conv => whnf
  split <;> rename_i h3
  all_goals simp only [decide_eq_true_eq, decide_eq_false_iff_not] at h3
  · conv => whnf
    have hk : k < ss.length := by omega
    have hs := h1 ss[k] (List.getElem_mem hk)
    rw [List.drop_eq_getElem_cons hk, glueL] at hall
    refine ⟨by omega, rows_len strL_len _, ?_⟩
    conv => whnf
    refine ⟨_, takeN_rp (k := k) strL_len hk, ?_⟩
    conv => whnf
    generalize hb1 : decide ((k : Int) > 0) = b1
    rw [hb1] at hall
    cases b1 with
    | true =>
      conv => whnf
      refine ⟨by omega, ?_⟩
      conv => whnf
      refine ⟨by rw [ByteArray.size_append]; omega, ?_⟩
      conv => whnf
      refine ⟨m - 1, by omega, k + 1, _, _, wrap_id (by omega) (by omega), by omega, hall, ?_, rfl⟩
      rw [if_pos rfl, ByteArray.size_append, ByteArray.size_append]
      omega
    | false =>
      conv => whnf
      refine ⟨by omega, ?_⟩
      conv => whnf
      refine ⟨m - 1, by omega, k + 1, _, _, wrap_id (by omega) (by omega), by omega, hall, ?_, rfl⟩
      rw [if_neg (by simp), ByteArray.size_append]
      omega
  · conv => whnf
    rw [hall, drop_end (by omega)]
    rfl
def sp : ByteArray := ⟨#[32]⟩
def spc (ps : List Int) : ByteArray := glueL sp (ps.map dig) 0 ByteArray.empty
theorem spaced_spec (ps : List Int) (hl : ps.length ≤ 3) (hp : ∀ x ∈ ps, 0 ≤ x ∧ x ≤ 9) : Spec Try.prog 133 [ints ps] (str (spc ps)) := by
  refine Spec_of mx Γ_ok Try.func133 rfl ?_
  conv => whnf
  refine ⟨[(2,0),(3,0),(7,0),(8,0),(9,0)], fun m s => ∃ (k : Nat) (e : Int) (n : Nat) (r : List V), e = k ∧ m + k = ps.length ∧ n = ((ps.take k).map dig).length ∧ r = rows strL ((ps.take k).map dig) ∧
    s = ⟨21, [(2, str ByteArray.empty), (3, .own 0 1 0 n n none), (7, ints ps), (8, ci ps.length), (9, ci e)], [some ⟨false, r⟩]⟩, ps.length, ⟨0, 0, 0, _, rfl, rfl, rfl, rfl, rfl⟩, ?_⟩
  rintro m s ⟨k, _, n, _, rfl, hm, hn, rfl, rfl⟩
  conv => whnf
  split <;> rename_i h3
  all_goals simp only [decide_eq_true_eq, decide_eq_false_iff_not] at h3
  · conv => whnf
    have hk : k < ps.length := by omega
    have hx := hp ps[k] (List.getElem_mem hk)
    have hnk : n = k := by rw [hn, List.length_map, List.length_take]; omega
    refine ⟨by omega, rows_len ciL_len _, ?_⟩
    conv => whnf
    refine ⟨_, takeN_rp (k := k) ciL_len hk, ?_⟩
    conv => whnf
    refine ⟨_, implFormatInt_spec ps[k] hx.1 hx.2, .inl rfl, .inl ?_⟩
    conv => whnf
    refine ⟨_, rfl, .inl ⟨flat1 rfl, ?_⟩⟩
    conv => whnf
    refine ⟨by omega, by rw [rows_len strL_len, hn], _, (rows_append strL [dig ps[k]] _).symm, ?_⟩
    conv => whnf
    refine ⟨m - 1, by omega, k + 1, _, _, _, wrap_id (by omega) (by omega), by omega, ?_, ?_, rfl⟩
    · rw [List.take_succ_eq_append_getElem hk, List.map_append, List.length_append, ← hn]
      rfl
    · rw [List.take_succ_eq_append_getElem hk, List.map_append]
      rfl
  · conv => whnf
    rw [List.take_of_length_le (by omega)] at hn ⊢
    refine .inl ?_
    conv => whnf
    refine ⟨_, _, takeN_all (by rw [rows_len strL_len, hn]), roVs_rows strL_ro _, ?_⟩
    conv => whnf
    subst hn
    refine ⟨_, glued_spec (ps.map dig) sp (by rw [List.length_map]; exact hl) (fun s hs => ?_) (by decide), .inr trivial, .inl ?_⟩
    · obtain ⟨x, _, rfl⟩ := List.mem_map.1 hs
      exact Nat.le_of_eq (dig_size x)
    conv => whnf
    rfl
def accK (b : ByteArray) (ps : List Int) : ByteArray := ps.foldl (fun a p => (a ++ sp) ++ dig p) b
theorem accK_app (a : ByteArray) : ∀ (ps : List Int) (b : ByteArray), a ++ accK b ps = accK (a ++ b) ps
  | [], b => rfl
  | p :: ps, b => by
    show a ++ accK ((b ++ sp) ++ dig p) ps = accK (((a ++ b) ++ sp) ++ dig p) ps
    rw [accK_app a ps]
    congr 1
    simp only [ByteArray.append_assoc]
theorem glue_acc : ∀ (ps : List Int) (k : Nat) (b : ByteArray), 0 < k → glueL sp (ps.map dig) k b = accK b ps
  | [], k, b, _ => rfl
  | p :: ps, k, b, h => by
    rw [List.map_cons, glueL, decide_eq_true (by omega), if_pos rfl, glue_acc ps (k + 1) _ (by omega)]
    rfl
theorem spc_acc (b : ByteArray) {ps : List Int} (h : 0 < ps.length) : (b ++ sp) ++ spc ps = accK b ps := by
  cases ps with
  | nil => exact absurd h (Nat.lt_irrefl 0)
  | cons p ps =>
    rw [spc, List.map_cons, glueL, glue_acc ps _ _ (by omega), accK_app]
    show accK ((b ++ sp) ++ (ByteArray.empty ++ dig p)) ps = accK ((b ++ sp) ++ dig p) ps
    rw [ByteArray.empty_append]
theorem accK_size : ∀ (ps : List Int) (b : ByteArray), (accK b ps).size = b.size + 2 * ps.length
  | [], b => rfl
  | p :: ps, b => by
    show (accK ((b ++ sp) ++ dig p) ps).size = _
    rw [accK_size ps, ByteArray.size_append, ByteArray.size_append, dig_size, show sp.size = 1 from rfl, List.length_cons]
    omega
theorem spc_size {ps : List Int} (h : 0 < ps.length) : (spc ps).size ≤ 2 * ps.length := by
  have h1 := congrArg ByteArray.size (spc_acc ByteArray.empty h)
  rw [accK_size, ByteArray.size_append, ByteArray.size_append, show ByteArray.empty.size = 0 from rfl, show sp.size = 1 from rfl] at h1
  omega
end Go.Proofs.YthfjngmbdbocbaaD
