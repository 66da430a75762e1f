/- What a key's text is cut into, and the key that a text stands for. -/
import Derived.Test.YthfjngmbdbocbaaFPCut
import Derived.Test.YthfjngmbdbocbaaFPInt3
import Derived.Test.YthfjngmbdbocbaaFFormatKey
import Derived.Test.YthfjngmbdbocbaaFIsKey
set_option linter.unusedVariables false
set_option linter.unusedSimpArgs false
set_option maxRecDepth 100000
namespace Go.Proofs.YthfjngmbdbocbaaD
open Go Go.Proofs

theorem key_rng {xs : List Int} {r : Int} {ps : List Int} (h : isKey xs r ps = true) : (0 ≤ r ∧ r ≤ 3) ∧ (1 ≤ ps.length ∧ ps.length ≤ 3) ∧ ∀ x ∈ ps, 0 ≤ x ∧ x ≤ 2 := by
  unfold isKey at h
  simp only [Bool.and_eq_true] at h
  obtain ⟨⟨⟨hs, hr⟩, hl⟩, ha⟩ := h
  have hr := inR_iff hr
  have hl := inR_iff hl
  have hsl : xs.length ≤ 4 := by
    unfold isSchema at hs
    simp only [Bool.and_eq_true] at hs
    have := inR_iff hs.2
    omega
  refine ⟨⟨hr.1, by omega⟩, ⟨by omega, by omega⟩, fun x hx => ?_⟩
  obtain ⟨i, hi, rfl⟩ := List.getElem_of_mem hx
  have h1 := List.all_eq_true.1 ha i (by simpa using hi)
  unfold keyAt at h1
  rw [getD_at hi] at h1
  simp only [Bool.and_eq_true] at h1
  have h2 := inR_iff h1.1
  obtain ⟨q, rfl⟩ : ∃ q : Nat, r = q := ⟨r.toNat, by omega⟩
  have hq : q < xs.length := by omega
  rw [Int.toNat_natCast, getD_at hq] at h2
  have h3 := schema_at hs hq
  omega
def cJ (s : ByteArray) : Nat → Nat → Nat → List ByteArray → List ByteArray
  | 0, _, start, out => out ++ [s.extract start s.size]
  | m + 1, i, start, out => bif (s.extract i (i + 1)).data.toList == [32] then cJ s m (i + 1) (i + 1) (out ++ [s.extract start i]) else cJ s m (i + 1) start out
theorem cJ_eq (s : ByteArray) : ∀ (m i start : Nat) (out : List ByteArray), cI s m i start out = cJ s m i start out
  | 0, _, _, _ => rfl
  | m + 1, i, start, out => by
    rw [cI, cJ, ByteArray.toList_eq, ByteArray.toList_eq, cJ_eq s m, cJ_eq s m]
def parts (r : Int) (ps : List Int) : List ByteArray := ⟨#[107, 101, 121]⟩ :: (⟨#[114]⟩ ++ dig r) :: ps.map dig
def CutOk (r : Int) (ps : List Int) : Prop := cutS (pFormatKey (r, ps)) = parts r ps ∧ cJ (pFormatKey (r, ps)) (pFormatKey (r, ps)).size 0 0 [] = parts r ps
instance (r : Int) (ps : List Int) : Decidable (CutOk r ps) := by unfold CutOk; exact inferInstance
theorem cut_all : ∀ r ∈ [(0 : Int), 1, 2, 3], ∀ a ∈ [(0 : Int), 1, 2], CutOk r [a] ∧ ∀ b ∈ [(0 : Int), 1, 2], CutOk r [a, b] ∧ ∀ c ∈ [(0 : Int), 1, 2], CutOk r [a, b, c] := by decide +kernel
theorem mem3 {x : Int} (h : 0 ≤ x ∧ x ≤ 2) : x ∈ [(0 : Int), 1, 2] := by
  have : x = 0 ∨ x = 1 ∨ x = 2 := by omega
  simpa using this
theorem cut_key {r : Int} {ps : List Int} (h : (0 ≤ r ∧ r ≤ 3) ∧ (1 ≤ ps.length ∧ ps.length ≤ 3) ∧ ∀ x ∈ ps, 0 ≤ x ∧ x ≤ 2) : cutS (pFormatKey (r, ps)) = parts r ps ∧ cutI (pFormatKey (r, ps)) = parts r ps := by
  obtain ⟨hr, hl, hp⟩ := h
  have hrm : r ∈ [(0 : Int), 1, 2, 3] := by
    have : r = 0 ∨ r = 1 ∨ r = 2 ∨ r = 3 := by omega
    simpa using this
  have key : CutOk r ps := by
    match ps, hl, hp with
    | [], hl, _ => simp at hl
    | [a], _, hp => exact (cut_all r hrm a (mem3 (hp a (by simp)))).1
    | [a, b], _, hp => exact ((cut_all r hrm a (mem3 (hp a (by simp)))).2 b (mem3 (hp b (by simp)))).1
    | [a, b, c], _, hp => exact ((cut_all r hrm a (mem3 (hp a (by simp)))).2 b (mem3 (hp b (by simp)))).2 c (mem3 (hp c (by simp)))
    | a :: b :: c :: d :: t, hl, _ => exact absurd hl.2 (by simp)
  refine ⟨key.1, ?_⟩
  unfold cutI
  rw [cJ_eq]
  exact key.2
def KeyOf (xs : List Int) (s : ByteArray) (k : Int × List Int) : Prop := isKey xs k.1 k.2 = true ∧ pFormatKey k = s
open Classical in
noncomputable def pParseKey (xs : List Int) (s : ByteArray) : (Int × List Int) × Bool := if h : ∃ k, KeyOf xs s k then (h.choose, true) else ((0, []), false)
theorem pk_none {xs : List Int} {s : ByteArray} (h : ∀ k, ¬ KeyOf xs s k) : pParseKey xs s = ((0, []), false) := by
  unfold pParseKey
  rw [dif_neg (fun ⟨k, hk⟩ => h k hk)]
theorem pk_false {xs : List Int} {s : ByteArray} {k : Int × List Int} (hu : ∀ k', KeyOf xs s k' → k = k') (h : ¬ KeyOf xs s k) : pParseKey xs s = ((0, []), false) :=
  pk_none fun k' hk => h (by rw [hu k' hk]; exact hk)
theorem pk_true {xs : List Int} {s : ByteArray} {k : Int × List Int} (hu : ∀ k', KeyOf xs s k' → k = k') (h : KeyOf xs s k) : pParseKey xs s = (k, true) := by
  unfold pParseKey
  have hx : ∃ k, KeyOf xs s k := ⟨k, h⟩
  rw [dif_pos hx, ← hu _ hx.choose_spec]
theorem pk_len (xs : List Int) (s : ByteArray) : (pParseKey xs s).1.2.length ≤ 3 := by
  unfold pParseKey
  split
  · rename_i h
    exact (key_rng h.choose_spec.1).2.1.2
  · exact Nat.zero_le _
theorem small_ParseKey (x0 : List Int) (x1 : ByteArray) (h0 : cSchema x0 ≤ 1048576) : cKey (pParseKey x0 x1).1 ≤ 1048576 := by
  have := pk_len x0 x1
  show (pParseKey x0 x1).1.2.length ≤ _
  omega
theorem parts_1 {r : Int} {ps : List Int} {l : List ByteArray} (h : l = parts r ps) (h1 : 1 < l.length) : l[1].size = 2 ∧ l[1].extract 1 l[1].size = dig r := by
  subst h
  refine ⟨rfl, ?_⟩
  show (⟨#[114, UInt8.ofNat (48 + r).toNat]⟩ : ByteArray).extract 1 2 = _
  rfl
theorem parts_at {r : Int} {ps : List Int} {l : List ByteArray} (h : l = parts r ps) {i j : Nat} (hi : i < l.length) (hj : i = j + 2) : ∃ hq : j < ps.length, l[i] = dig ps[j] := by
  subst h
  subst hj
  simp only [parts, List.length_cons, List.length_map] at hi
  exact ⟨by omega, by simp [parts]⟩
/-- What parts a text has that stands for a key. -/
def Parts (xs : List Int) (s : ByteArray) (l : List ByteArray) : Prop := ∀ k : Int × List Int, KeyOf xs s k → l = parts k.1 k.2 ∧ (0 ≤ k.1 ∧ k.1 ≤ 9) ∧ (1 ≤ k.2.length) ∧ ∀ x ∈ k.2, 0 ≤ x ∧ x ≤ 9
theorem parts_S (xs : List Int) (s : ByteArray) : Parts xs s (cutS s) := by
  rintro ⟨r, ps⟩ ⟨h1, h2⟩
  have h := key_rng h1
  refine ⟨?_, ⟨h.1.1, by have := h.1.2; show r ≤ 9; omega⟩, h.2.1.1, fun x hx => by have := h.2.2 x hx; omega⟩
  rw [← h2]
  exact (cut_key h).1
theorem parts_I (xs : List Int) (s : ByteArray) : Parts xs s (cutI s) := by
  rintro ⟨r, ps⟩ ⟨h1, h2⟩
  have h := key_rng h1
  refine ⟨?_, ⟨h.1.1, by have := h.1.2; show r ≤ 9; omega⟩, h.2.1.1, fun x hx => by have := h.2.2 x hx; omega⟩
  rw [← h2]
  exact (cut_key h).2
end Go.Proofs.YthfjngmbdbocbaaD
