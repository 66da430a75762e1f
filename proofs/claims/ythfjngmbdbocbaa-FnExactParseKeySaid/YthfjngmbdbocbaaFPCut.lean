/- Texts cut at blanks, twice. -/
import Derived.Test.YthfjngmbdbocbaaFPInt2
set_option linter.unusedVariables false
set_option linter.unusedSimpArgs false
set_option maxRecDepth 100000
namespace Go.Proofs.YthfjngmbdbocbaaD
open Go Go.Proofs

def strsT (l : List ByteArray) : V := .tr 1 l.length (rows strL l)
def strs (l : List ByteArray) : V := .ro l.length (rows strL l)
theorem strs_ro (l : List ByteArray) : roV (strsT l) = strs l := by
  show V.ro _ (roVs (rows strL l)) = _
  rw [roVs_rows strL_ro]
  rfl
def cS (s : ByteArray) : Nat → Nat → ByteArray → List ByteArray → List ByteArray
  | 0, _, part, out => out ++ [part]
  | m + 1, i, part, out => bif byteAt s i == 32 then cS s m (i + 1) ByteArray.empty (out ++ [part]) else cS s m (i + 1) (part ++ s.extract i (i + 1)) out
def cutS (s : ByteArray) : List ByteArray := cS s s.size 0 ByteArray.empty []
def cI (s : ByteArray) : Nat → Nat → Nat → List ByteArray → List ByteArray
  | 0, _, start, out => out ++ [s.extract start s.size]
  | m + 1, i, start, out => bif (s.extract i (i + 1)).toList == (⟨#[32]⟩ : ByteArray).toList then cI s m (i + 1) (i + 1) (out ++ [s.extract start i]) else cI s m (i + 1) start out
def cutI (s : ByteArray) : List ByteArray := cI s s.size 0 0 []
theorem ext_size (s : ByteArray) (a b : Nat) : (s.extract a b).size ≤ s.size ∧ (s.extract a b).size ≤ b - a := by
  rw [ByteArray.size_extract]
  omega
theorem cS_ok (s : ByteArray) (B : Nat) : ∀ (m i : Nat) (part : ByteArray) (out : List ByteArray), part.size + m ≤ B → (∀ w ∈ out, w.size ≤ B) → (∀ w ∈ cS s m i part out, w.size ≤ B) ∧ (cS s m i part out).length ≤ out.length + m + 1
  | 0, i, part, out, h, ho => by
    refine ⟨fun w hw => ?_, by simp [cS]⟩
    rcases List.mem_append.1 hw with hw | hw
    · exact ho w hw
    · rw [List.mem_singleton.1 hw]; omega
  | m + 1, i, part, out, h, ho => by
    rw [cS]
    cases byteAt s i == 32 with
    | true =>
      obtain ⟨h1, h2⟩ := cS_ok s B m (i + 1) ByteArray.empty (out ++ [part]) (by rw [show ByteArray.empty.size = 0 from rfl]; omega) fun w hw => by
        rcases List.mem_append.1 hw with hw | hw
        · exact ho w hw
        · rw [List.mem_singleton.1 hw]; omega
      refine ⟨h1, ?_⟩
      rw [List.length_append] at h2
      simp only [List.length_cons, List.length_nil] at h2
      show (cS s m (i + 1) ByteArray.empty (out ++ [part])).length ≤ _
      omega
    | false =>
      have h3 := (ext_size s i (i + 1)).2
      obtain ⟨h1, h2⟩ := cS_ok s B m (i + 1) (part ++ s.extract i (i + 1)) out (by rw [ByteArray.size_append]; omega) ho
      refine ⟨h1, ?_⟩
      show (cS s m (i + 1) (part ++ s.extract i (i + 1)) out).length ≤ _
      omega
theorem cI_ok (s : ByteArray) : ∀ (m i start : Nat) (out : List ByteArray), (∀ w ∈ out, w.size ≤ s.size) → (∀ w ∈ cI s m i start out, w.size ≤ s.size) ∧ (cI s m i start out).length ≤ out.length + m + 1
  | 0, i, start, out, ho => by
    refine ⟨fun w hw => ?_, by simp [cI]⟩
    rcases List.mem_append.1 hw with hw | hw
    · exact ho w hw
    · rw [List.mem_singleton.1 hw]; exact (ext_size s _ _).1
  | m + 1, i, start, out, ho => by
    rw [cI]
    cases (s.extract i (i + 1)).toList == (⟨#[32]⟩ : ByteArray).toList with
    | true =>
      obtain ⟨h1, h2⟩ := cI_ok s m (i + 1) (i + 1) (out ++ [s.extract start i]) fun w hw => by
        rcases List.mem_append.1 hw with hw | hw
        · exact ho w hw
        · rw [List.mem_singleton.1 hw]; exact (ext_size s _ _).1
      refine ⟨h1, ?_⟩
      rw [List.length_append] at h2
      simp only [List.length_cons, List.length_nil] at h2
      show (cI s m (i + 1) (i + 1) (out ++ [s.extract start i])).length ≤ _
      omega
    | false =>
      obtain ⟨h1, h2⟩ := cI_ok s m (i + 1) start out ho
      refine ⟨h1, ?_⟩
      show (cI s m (i + 1) start out).length ≤ _
      omega
theorem cutS_ok (s : ByteArray) : (∀ w ∈ cutS s, w.size ≤ s.size) ∧ (cutS s).length ≤ s.size + 1 := by
  have := cS_ok s s.size s.size 0 ByteArray.empty [] (by rw [show ByteArray.empty.size = 0 from rfl]; omega) (fun w hw => by cases hw)
  refine ⟨this.1, ?_⟩
  have h2 := this.2
  simp only [List.length_nil] at h2
  unfold cutS
  omega
theorem cutI_ok (s : ByteArray) : (∀ w ∈ cutI s, w.size ≤ s.size) ∧ (cutI s).length ≤ s.size + 1 := by
  have := cI_ok s s.size 0 0 [] (fun w hw => by cases hw)
  refine ⟨this.1, ?_⟩
  have h2 := this.2
  simp only [List.length_nil] at h2
  unfold cutI
  omega
theorem snoc_str (xs : List ByteArray) (b : ByteArray) : rows strL xs ++ [V.sc (.string b)] = rows strL (xs ++ [b]) := (rows_append strL [b] xs).symm
set_option maxHeartbeats 2000000 in
theorem l2Cut_spec (s : ByteArray) (hs : s.size ≤ 1099511627) : Spec Try.prog 75 [str s, .sc (.int .u8 32)] (strsT (cutS s)) := by
  refine Spec_of mx Γ_ok Try.func75 rfl ?_
  conv => whnf
  refine ⟨[(0,0),(1,0),(4,0),(5,0),(6,0),(7,0)], fun m st => ∃ (i n : Nat) (e : Int) (part : ByteArray) (out : List ByteArray) (r : List V), e = i ∧ n = out.length ∧ m + i = s.size ∧ part.size ≤ i ∧ n ≤ i ∧ cutS s = cS s m i part out ∧ r = rows strL out ∧
    st = ⟨35, [(0, str s), (1, .sc (.int .u8 32)), (4, cnil), (5, .own 0 1 0 n n none), (6, str part), (7, ci e)], [some ⟨false, r⟩]⟩, s.size, ⟨0, 0, 0, ByteArray.empty, [], _, rfl, rfl, rfl, Nat.le_refl _, Nat.le_refl _, rfl, rfl, rfl⟩, ?_⟩
  rintro m st ⟨i, n, _, part, out, _, rfl, hn, hm, hp, hni, hall, rfl, rfl⟩
  conv => whnf
  have hw : IntKind.i64.wrap ((i : Int) + 1) = ((i + 1 : Nat) : Int) := wrap_id (by omega) (by omega)
  generalize hb1 : decide ((i : Int) < (s.size : Int)) = b1
  cases b1 with
  | true =>
    simp only [decide_eq_true_eq] at hb1
    obtain ⟨m, rfl⟩ : ∃ m', m = m' + 1 := ⟨m - 1, by omega⟩
    rw [cS] at hall
    conv => whnf
    refine ⟨⟨_, rfl, rfl⟩, ⟨by omega, by omega⟩, ?_⟩
    rw [getB]
    conv => whnf
    generalize hb2 : (byteAt s i == 32) = b2
    rw [hb2] at hall
    cases b2 with
    | true =>
      conv => whnf
      refine ⟨_, rfl, .inl ⟨flat1 rfl, ?_⟩⟩
      conv => whnf
      refine ⟨by omega, by rw [rows_len strL_len, hn], _, snoc_str out part, ?_⟩
      conv => whnf
      refine ⟨m, by omega, i + 1, n + 1, _, _, _, _, hw, by rw [List.length_append, hn]; rfl, by omega, Nat.zero_le _, by omega, hall, rfl, rfl⟩
    | false =>
      conv => whnf
      refine ⟨⟨_, rfl, rfl⟩, ⟨by omega, by rw [hw]; omega, by rw [hw]; omega⟩, ?_⟩
      rw [hw]
      conv => whnf
      have h3 := (ext_size s i (i + 1)).2
      refine ⟨by show part.size + (s.extract i (i + 1)).size ≤ _; omega, ?_⟩
      conv => whnf
      refine ⟨m, by omega, i + 1, n, _, _, _, _, hw, hn, by omega, by rw [ByteArray.size_append]; omega, by omega, hall, rfl, rfl⟩
  | false =>
    simp only [decide_eq_false_iff_not] at hb1
    obtain rfl : m = 0 := by omega
    rw [cS] at hall
    conv => whnf
    refine ⟨_, rfl, .inl ⟨flat1 rfl, ?_⟩⟩
    conv => whnf
    refine ⟨by omega, by rw [rows_len strL_len, hn], _, snoc_str out part, ?_⟩
    conv => whnf
    refine ⟨by rw [rows_len strL_len, List.length_append, hn]; rfl, ?_⟩
    unfold strsT
    rw [hall, List.length_append, ← hn]
    rfl
set_option maxHeartbeats 2000000 in
theorem cut_spec (s : ByteArray) (hs : s.size ≤ 1099511627) : Spec Try.prog 80 [str s, str ⟨#[32]⟩] (strsT (cutI s)) := by
  refine Spec_of mx Γ_ok Try.func80 rfl ?_
  conv => whnf
  refine ⟨[(0,0),(1,0),(4,0),(5,0),(6,0),(7,0)], fun m st => ∃ (i start n : Nat) (e es : Int) (out : List ByteArray) (r : List V), e = i ∧ es = start ∧ n = out.length ∧ m + i = s.size ∧ start ≤ i ∧ n ≤ i ∧ cutI s = cI s m i start out ∧ r = rows strL out ∧
    st = ⟨45, [(0, str s), (1, str ⟨#[32]⟩), (4, cnil), (5, .own 0 1 0 n n none), (6, ci es), (7, ci e)], [some ⟨false, r⟩]⟩, s.size, ⟨0, 0, 0, 0, 0, [], _, rfl, rfl, rfl, rfl, Nat.le_refl _, Nat.le_refl _, rfl, rfl, rfl⟩, ?_⟩
  rintro m st ⟨i, start, n, _, _, out, _, rfl, rfl, hn, hm, hsi, hni, hall, rfl, rfl⟩
  conv => whnf
  have hw : IntKind.i64.wrap ((i : Int) + ((⟨#[32]⟩ : ByteArray).size : Nat)) = ((i + 1 : Nat) : Int) := wrap_id (x := ((i + 1 : Nat) : Int)) (by omega) (by omega)
  have hw1 : IntKind.i64.wrap ((i : Int) + 1) = ((i + 1 : Nat) : Int) := wrap_id (by omega) (by omega)
  rw [hw]
  generalize hb1 : decide (((i + 1 : Nat) : Int) ≤ (s.size : Int)) = b1
  cases b1 with
  | true =>
    simp only [decide_eq_true_eq] at hb1
    obtain ⟨m, rfl⟩ : ∃ m', m = m' + 1 := ⟨m - 1, by omega⟩
    rw [cI] at hall
    conv => whnf
    refine ⟨⟨_, rfl, rfl⟩, ⟨by omega, by rw [hw]; omega, by rw [hw]; omega⟩, ?_⟩
    rw [hw]
    conv => whnf
    generalize hb2 : ((s.extract (i : Int).toNat ((i + 1 : Nat) : Int).toNat).toList == (⟨#[32]⟩ : ByteArray).toList) = b2
    rw [show ((s.extract i (i + 1)).toList == (⟨#[32]⟩ : ByteArray).toList) = b2 from hb2] at hall
    cases b2 with
    | true =>
      conv => whnf
      refine ⟨⟨_, rfl, rfl⟩, ⟨by omega, by omega, by omega⟩, ?_⟩
      conv => whnf
      refine ⟨_, rfl, .inl ⟨flat1 rfl, ?_⟩⟩
      conv => whnf
      refine ⟨by omega, by rw [rows_len strL_len, hn], _, snoc_str out _, ?_⟩
      conv => whnf
      refine ⟨m, by omega, i + 1, i + 1, n + 1, _, _, _, _, hw, hw, by rw [List.length_append, hn]; rfl, by omega, Nat.le_refl _, by omega, hall, rfl, rfl⟩
    | false =>
      conv => whnf
      refine ⟨m, by omega, i + 1, start, n, _, _, _, _, hw1, rfl, hn, by omega, by omega, by omega, hall, rfl, rfl⟩
  | false =>
    simp only [decide_eq_false_iff_not] at hb1
    obtain rfl : m = 0 := by omega
    rw [cI] at hall
    conv => whnf
    refine ⟨⟨_, rfl, rfl⟩, ⟨by omega, by omega, by omega⟩, ?_⟩
    conv => whnf
    refine ⟨_, rfl, .inl ⟨flat1 rfl, ?_⟩⟩
    conv => whnf
    refine ⟨by omega, by rw [rows_len strL_len, hn], _, snoc_str out _, ?_⟩
    conv => whnf
    refine ⟨by rw [rows_len strL_len, List.length_append, hn]; rfl, ?_⟩
    unfold strsT
    rw [hall, List.length_append, ← hn]
    rfl
end Go.Proofs.YthfjngmbdbocbaaD
