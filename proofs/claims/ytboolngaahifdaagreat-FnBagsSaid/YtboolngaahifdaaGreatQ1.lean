/- Contracts and plain laws of this seat; no condition. -/
import Derived.Calls
import Derived.Below
import Derived.Laws.Cells
import Derived.Laws.Sem
import Derived.Laws.World
import Derived.Deep.Slices
set_option linter.unusedVariables false
set_option linter.unusedSimpArgs false
namespace Go.Proofs.YtboolngaahifdaaGreatD
open Go
inductive V where
 | sc (v : Value)
 | ro (n : Nat) (cs : List V)
 | tr (sz n : Nat) (cs : List V)
 | own (i sz off n lo : Nat) (hi : Option Nat)
 | sub (i j : Nat)
 | ptr (i off : Nat)
 | rp (cs : List V)
 | bp (cs : List V)
 | sp (i j off : Nat)
 | mref (i : Nat)
 | agg (cs : List V)
 | tup (cs : List V)
 | fn (f : Nat) (cs : List V)
 | any
structure Obj where
 box : Bool
 cs : List V
structure St where
 N : Nat
 t : List (Nat × V)
 g : List (Option Obj)
def lk : List (Nat × V) → Nat → V
 | [], _ => .any
 | (k, v) :: r, n => bif Nat.beq k n then v else lk r n
def up : List (Nat × V) → Nat → V → List (Nat × V)
 | [], n, v => [(n, v)]
 | (k, u) :: r, n, v => bif Nat.beq k n then (n, v) :: r else bif Nat.blt n k then (n, v) :: (k, u) :: r else (k, u) :: up r n v
def aX : List (Option Obj) → Nat → Option Obj
 | [], _ => none
 | o :: _, 0 => o
 | _ :: r, n + 1 => aX r n
def kD : List (Option Obj) → Nat → Option Obj → List (Option Obj)
 | [], _, _ => []
 | _ :: r, 0, x => x :: r
 | o :: r, n + 1, x => o :: kD r n x
def St.ob (s : St) (i : Nat) : Option Obj := aX s.g i
def St.put (s : St) (i : Nat) (o : Option Obj) : St := { s with g := kD s.g i o }
def St.add (s : St) (o : Obj) : St := { s with g := s.g ++ [some o] }
def PL : Value → V
 | .agg cs => bif cs.toList.all Value.oneCell' then .agg (cs.toList.map .sc) else .any
 | .tuple _ => .any
 | v => .sc v
def ev (s : St) : Operand → V
 | .tmp t => lk s.t t
 | .const v => PL v
 | .global _ => .any
 | .func f => .fn f []
structure TI where
 agg : Bool
 size : Nat
 bytes : Nat
 zero : List Value
 elem : Option Nat
 fields : List Nat
 fsz : List Nat
 kind : Option IntKind
 str : Bool
 boo : Bool
 fty : List Nat
abbrev Tab := Nat → Option TI
def kL (s : St) : V → Option (List V)
 | .agg cs => some cs
 | .sc v => some [.sc v]
 | .ro n cs => some [.ro n cs]
 | .rp cs => some [.rp cs]
 | .fn f cs => some [.fn f cs]
 | .own i sz off n lo hi => some [.own i sz off n lo hi]
 | .sub i j => some [.sub i j]
 | .ptr i off => some [.ptr i off]
 | .sp i j off => some [.sp i j off]
 | .mref i => some [.mref i]
 | _ => none
def eU : V → Bool
 | .any => false
 | .agg _ => false
 | .tup _ => false
 | .bp _ => false
 | _ => true
def dP (cs : List V) (off n : Nat) : Option (List V) := bif Nat.ble (off + n) cs.length then some ((cs.drop off).take n) else none
def a1A (i j : Nat) : V → V
 | .tr _ _ _ => .sub i j
 | .bp _ => .any
 | v => v
def u7 (i : Nat) : Nat → List V → List V
 | _, [] => []
 | j, c :: cs => a1A i j c :: u7 i (j + 1) cs
def y8 (agg : Bool) (r : List V) : V := match agg, r with
 | true, r => .agg r
 | false, [v] => v
 | false, _ => .any
def kI : List (Int × Int) → List V
 | [] => []
 | (k, v) :: r => .sc (.int .i64 k) :: .sc (.int .i64 v) :: kI r
def eG : List V → Bool
 | [.bp _] => true
 | _ => false
def tA : List (Int × Int) → Int → Option Int
 | [], _ => none
 | (k, v) :: r, x => bif k == x then some v else tA r x
def wO : List (Int × Int) → Int → Int → List (Int × Int)
 | [], x, y => [(x, y)]
 | (k, v) :: r, x, y => bif k == x then (k, y) :: r else (k, v) :: wO r x y
def XW (ti : TI) : Bool := !ti.agg && (match ti.fsz with
 | [1] => true
 | _ => false)
def vM : V → Bool
 | .tr .. => false
 | .bp _ => false
 | _ => true
mutual
def roV : V → V
 | .tr _ n cs => .ro n (dM cs)
 | .ro n cs => .ro n (dM cs)
 | .rp cs => .rp (dM cs)
 | .bp cs => .rp (dM cs)
 | .agg cs => .agg (dM cs)
 | .tup cs => .tup (dM cs)
 | .fn f cs => .fn f (dM cs)
 | v => v
def dM : List V → List V
 | [] => []
 | c :: cs => roV c :: dM cs
end
mutual
def pD : V → Prop
 | .ro _ cs => cs = []
 | .rp _ => False
 | .bp cs => f7 cs
 | .tr _ _ cs => f7 cs
 | .agg cs => f7 cs
 | .tup cs => f7 cs
 | .fn _ cs => f7 cs
 | _ => True
def f7 : List V → Prop
 | [] => True
 | c :: cs => pD c ∧ f7 cs
end
mutual
def rD : V → Bool
 | .sc _ => true
 | .ro _ _ => true
 | .rp _ => true
 | .agg cs => jN cs
 | .fn _ cs => jN cs
 | _ => false
def jN : List V → Bool
 | [] => true
 | c :: cs => rD c && jN cs
end
def KT (v : Value) (p q : Prop) : Prop := match v with
 | .slice none 0 0 => p ∨ q
 | _ => p
theorem lI {v : Value} {p q : Prop} (h : KT v p q) : p ∨ (v = .slice none 0 0 ∧ q) := by
 unfold KT at h
 split at h
 ·exact h.imp id fun h => ⟨rfl, h⟩
 ·exact .inl h
theorem qF {v : Value} {p q p' q' : Prop} (h : KT v p q) (hp : p → p') (hq : q → q') : KT v p' q' := by
 unfold KT at h ⊢
 split at h
 ·exact h.imp hp hq
 ·exact hp h
def fT : V → Bool
 | .sc _ => true
 | .ro _ _ => true
 | _ => false
def dY : List Nat → Nat → Bool
 | [], _ => false
 | k :: r, i => bif Nat.beq k i then true else dY r i
mutual
def inD (D : List Nat) : V → Bool
 | .own i .. => dY D i
 | .sub i _ => dY D i
 | .ptr i _ => dY D i
 | .sp i _ _ => dY D i
 | .mref i => dY D i
 | .agg cs => GW D cs
 | .tup cs => GW D cs
 | .fn _ cs => GW D cs
 | _ => true
def GW (D : List Nat) : List V → Bool
 | [] => true
 | c :: cs => inD D c && GW D cs
end
def x9 (D : List Nat) : Nat → List (Option Obj) → Bool
 | _, [] => true
 | i, some ⟨true, cs⟩ :: r => (!(dY D i) || GW D cs) && x9 D (i + 1) r
 | i, _ :: r => x9 D (i + 1) r
def eR (D : List Nat) : Nat → List (Option Obj) → List (Option Obj)
 | _, [] => []
 | i, o :: r => (bif dY D i then none else o) :: eR D (i + 1) r
def lA (g : List (Option Obj)) : Nat → V → V
 | 0, _ => .any
 | _ + 1, .sc v => .sc v
 | _ + 1, .ro n cs => .ro n cs
 | _ + 1, .rp cs => .rp cs
 | d + 1, .fn f cs => .fn f (cs.map (lA g d))
 | d + 1, .ptr i off => match aX g i with
  | some ⟨true, cs⟩ => bif eG cs then .any else .rp ((cs.drop off).map (lA g d))
  | _ => .any
 | _, _ => .any
mutual
def rZ (s : St) : V → (V → Prop) → Prop
 | .sc v, K => KT v (K (.sc v)) (K (.ro 0 []))
 | .ro n cs, K => K (.ro n cs)
 | .own i sz off n _ _, K => match s.ob i with
  | some ⟨false, cs⟩ => ∃ r r', dP cs off (n * sz) = some r ∧ dM r = r' ∧ K (.ro n r')
  | _ => False
 | .sub i j, K => match s.ob i with
  | some ⟨false, cs⟩ => ∃ sz n r r', cs[j]? = some (.tr sz n r) ∧ dM r = r' ∧ K (.ro n r')
  | _ => False
 | .ptr i off, K => match s.ob i with
  | some ⟨true, cs⟩ => bif cs.all fT then ∃ r, cs.drop off = r ∧ K (.rp r) else ∃ d r, lA s.g d (.ptr i off) = r ∧ K r
  | some ⟨false, cs⟩ => bif Nat.beq cs.length 0 then False else ∃ r, dM (cs.drop off) = r ∧ K (.rp r)
  | _ => False
 | .rp cs, K => K (.rp cs)
 | .agg cs, K => oB s cs fun xs => K (.agg xs)
 | .fn f cs, K => oB s cs fun xs => K (.fn f xs)
 | _, _ => False
def oB (s : St) : List V → (List V → Prop) → Prop
 | [], K => K []
 | c :: cs, K => rZ s c fun x => oB s cs fun xs => K (x :: xs)
end
mutual
def nl : V → Nat
 | .agg cs => nls cs
 | .tup cs => nls cs
 | .fn _ cs => nls cs
 | _ => 1
def nls : List V → Nat
 | [] => 0
 | c :: cs => nl c + nls cs
end
mutual
def C3 (k : Nat) : V → V
 | .tr sz n _ => .own k sz 0 n n none
 | .bp _ => .ptr k 0
 | .agg cs => .agg (rV k cs)
 | .tup cs => .tup (rV k cs)
 | .fn f cs => .fn f (rV k cs)
 | v => v
def rV (k : Nat) : List V → List V
 | [] => []
 | c :: cs => C3 k c :: rV (k + nl c) cs
end
mutual
def pG : V → List (Option Obj)
 | .tr _ _ cs => [some ⟨false, cs⟩]
 | .bp cs => [some ⟨false, cs⟩]
 | .agg cs => k9 cs
 | .tup cs => k9 cs
 | .fn _ cs => k9 cs
 | _ => [none]
def k9 : List V → List (Option Obj)
 | [] => []
 | c :: cs => pG c ++ k9 cs
end
def OU : IntKind → IntKind → Bool
 | .i8, .i8 | .i16, .i16 | .i32, .i32 | .i64, .i64 | .u8, .u8 | .u16, .u16 | .u32, .u32 | .u64, .u64 => true
 | _, _ => false
def D3 (k : IntKind) (a b : Int) : Int := k.wrap (BitVec.ofInt k.bits a &&& BitVec.ofInt k.bits b).toNat
def orI (k : IntKind) (a b : Int) : Int := k.wrap (BitVec.ofInt k.bits a ||| BitVec.ofInt k.bits b).toNat
def a33 (k : IntKind) (a b : Int) : Int := k.wrap (BitVec.ofInt k.bits a ^^^ BitVec.ofInt k.bits b).toNat
def R2 (k : IntKind) (a b : Int) : Int := a.fdiv (2 ^ min b.toNat k.bits)
def a30 (k : IntKind) (a b : Int) : Int := k.wrap (a * 2 ^ min b.toNat k.bits)
def shB : BinOp → Bool
 | .shr => true
 | .shl => true
 | _ => false
def U5 (op : BinOp) (k : IntKind) (a b : Int) (K : V → Prop) : Prop :=
 match op with
 | .add => K (.sc (.int k (k.wrap (a + b))))
 | .sub => K (.sc (.int k (k.wrap (a - b))))
 | .mul => K (.sc (.int k (k.wrap (a * b))))
 | .quo => b ≠ 0 ∧ K (.sc (.int k (k.wrap (a.tdiv b))))
 | .rem => b ≠ 0 ∧ K (.sc (.int k (a.tmod b)))
 | .eql => K (.sc (.bool (a == b)))
 | .neq => K (.sc (.bool (a != b)))
 | .lss => K (.sc (.bool (decide (a < b))))
 | .leq => K (.sc (.bool (decide (a ≤ b))))
 | .gtr => K (.sc (.bool (decide (a > b))))
 | .geq => K (.sc (.bool (decide (a ≥ b))))
 | .and => K (.sc (.int k (D3 k a b)))
 | .or => K (.sc (.int k (orI k a b)))
 | .xor => K (.sc (.int k (a33 k a b)))
 | .shr => 0 ≤ b ∧ K (.sc (.int k (R2 k a b)))
 | .shl => 0 ≤ b ∧ K (.sc (.int k (a30 k a b)))
 | _ => False
def U6 (op : BinOp) (a b : ByteArray) (K : V → Prop) : Prop :=
 match op with
 | .add => (a.size + b.size ≤ 9223372036854775807) ∧ K (.sc (.string (a ++ b)))
 | .eql => K (.sc (.bool (a.toList == b.toList)))
 | .neq => K (.sc (.bool (!(a.toList == b.toList))))
 | _ => False
def QH (op : BinOp) (e : Option Nat) (same : Bool) (K : V → Prop) : Prop :=
 match op, e with
 | .eql, some _ => K (.sc (.bool same))
 | .neq, some _ => K (.sc (.bool (!same)))
 | _, _ => False
def GY (s : St) : V → Option Nat
 | .ro n _ => some n
 | .own _ _ _ n _ _ => some n
 | .sub i j => match s.ob i with
  | some ⟨false, cs⟩ => match cs[j]? with
   | some (.tr _ n _) => some n
   | _ => none
  | _ => none
 | .sc (.slice _ n _) => some n
 | .sc (.string s) => some s.size
 | _ => none
def l9 (s : St) : V → (V → St → Prop) → Prop
 | .sc v, K => KT v (K (.sc v) s) (∃ sz, K (.tr sz 0 []) s)
 | .ro n cs, K => K (.ro n cs) s
 | .own i sz 0 n _ _, K => match s.ob i with
  | some ⟨false, cs⟩ => cs.length = n * sz ∧ K (.tr sz n cs) (s.put i none)
  | _ => False
 | .sub i j, K => match s.ob i with
  | some ⟨false, cs⟩ => ∃ sz n r, cs[j]? = some (.tr sz n r) ∧ K (.tr sz n r) (s.put i (some ⟨false, cs.set j .any⟩))
  | _ => False
 | _, _ => False
def jT : St → List V → (List V → St → Prop) → Prop
 | s, [], K => K [] s
 | s, c :: cs, K => l9 s c fun x s1 => jT s1 cs fun xs s2 => K (x :: xs) s2
def LU (s : St) (sz : Nat) : V → (Nat → List V → St → Prop) → Prop
 | .ro m cs, K => cs.length = m * sz ∧ (∀ c ∈ cs, eU c = true) ∧ K m cs s
 | .sc (.slice none 0 0), K => K 0 [] s
 | .own j sz' off m _ _, K => match s.ob j with
  | some ⟨false, cs⟩ => bif Nat.beq sz' sz then (∃ r, dP cs off (m * sz) = some r ∧ ((∀ c ∈ r, fT c = true) ∧ K m r s ∨ (∀ c ∈ r, eU c = true) ∧ K m r (s.put j none))) else False
  | _ => False
 | .sub i j, K => match s.ob i with
  | some ⟨false, cs⟩ => ∃ m r, cs[j]? = some (.tr sz m r) ∧ (∀ c ∈ r, fT c = true) ∧ K m r s
  | _ => False
 | _, _ => False
abbrev bM := List (Nat × Option Nat)
def gG : bM → Nat → Bool
 | [], _ => true
 | (k, none) :: r, i => !(Nat.beq k i) && gG r i
 | (_, some _) :: r, i => gG r i
def tK : bM → Nat → Bool
 | [], _ => true
 | (k, _) :: r, i => !(Nat.beq k i) && tK r i
def wY : bM → Nat → Nat → Prop
 | [], _, _ => True
 | (_, none) :: r, i, j => wY r i j
 | (k, some l) :: r, i, j => match Nat.beq k i with
  | true => l ≠ j ∧ wY r i j
  | false => wY r i j
mutual
def kQ (s : St) (X : bM) : V → (V → bM → Prop) → Prop
 | .sc v, K => KT v (K (.sc v) X) (∃ sz, K (.tr sz 0 []) X)
 | .ro n cs, K => K (.ro n cs) X
 | .rp cs, K => K (.rp cs) X
 | .own i sz 0 n _ _, K => match s.ob i with
  | some ⟨false, cs⟩ => bif tK X i then cs.length = n * sz ∧ K (.tr sz n cs) ((i, none) :: X) else False
  | _ => False
 | .ptr i 0, K => match s.ob i with
  | some ⟨false, cs⟩ => bif tK X i then cs ≠ [] ∧ K (.bp cs) ((i, none) :: X) else False
  | _ => False
 | .sub i j, K => match s.ob i with
  | some ⟨false, cs⟩ => bif gG X i then wY X i j ∧ ∃ sz n r, cs[j]? = some (.tr sz n r) ∧ K (.tr sz n r) ((i, some j) :: X) else False
  | _ => False
 | .agg cs, K => o4 s X cs fun us X => K (.agg us) X
 | .fn f cs, K => o4 s X cs fun us X => K (.fn f us) X
 | _, _ => False
def o4 (s : St) (X : bM) : List V → (List V → bM → Prop) → Prop
 | [], K => K [] X
 | c :: cs, K => kQ s X c fun u X => o4 s X cs fun us X => K (u :: us) X
end
mutual
def eN (s : St) : V → V → (St → Prop) → Prop
 | .own i _ _ _ _ _, u, K => match u with
  | .tr _ _ cs => K (s.put i (some ⟨false, cs⟩))
  | .any => K (s.put i none)
  | _ => False
 | .ptr i _, u, K => match u with
  | .bp cs => K (s.put i (some ⟨false, cs⟩))
  | .any => K (s.put i none)
  | _ => False
 | .sub i j, u, K => match u with
  | .tr sz n r => match s.ob i with
   | some ⟨false, cs⟩ => ∃ cs', cs.set j (.tr sz n r) = cs' ∧ K (s.put i (some ⟨false, cs'⟩))
   | _ => False
  | .any => match s.ob i with
   | some ⟨false, cs⟩ => K (s.put i (some ⟨false, cs.set j .any⟩))
   | _ => False
  | _ => False
 | .agg cs, u, K => match u with
  | .agg us => pB s cs us K
  | _ => False
 | .fn _ cs, u, K => match u with
  | .fn _ us => pB s cs us K
  | _ => False
 | .sc _, u, K => match u with
  | .sc _ => K s
  | .tr _ _ _ => K s
  | _ => False
 | .ro _ _, u, K => match u with
  | .ro _ _ => K s
  | _ => False
 | .rp _, u, K => match u with
  | .rp _ => K s
  | _ => False
 | _, _, _ => False
def pB (s : St) : List V → List V → (St → Prop) → Prop
 | [], [], K => K s
 | c :: cs, u :: us, K => eN s c u fun s => pB s cs us K
 | _, _, _ => False
end
mutual
def kB (X : bM) : V → Bool
 | .sub i _ => gG X i
 | .sp i _ _ => gG X i
 | .agg cs => pI X cs
 | .tup cs => pI X cs
 | .fn _ cs => pI X cs
 | _ => true
def pI (X : bM) : List V → Bool
 | [] => true
 | c :: cs => kB X c && pI X cs
end
def wH (X : bM) : List (Nat × V) → Bool
 | [] => true
 | (_, v) :: r => kB X v && wH X r
def eH (X : bM) : List (Option Obj) → Bool
 | [] => true
 | some ⟨true, cs⟩ :: r => pI X cs && eH X r
 | _ :: r => eH X r
def e7 (cs : List V) (off : Nat) : List V → List V
 | [v] => cs.set off v
 | vs => cs.take off ++ vs ++ cs.drop (off + vs.length)
def mO (s : St) (place : Nat → Option (Nat × Nat)) (cells : List V) : List (Nat × V) → Option (List V)
 | [] => some cells
 | (i, v) :: rest => match place i, kL s v with
  | some (off, sz), some vs => bif Nat.beq vs.length sz && Nat.ble (off + vs.length) cells.length then mO s place (e7 cells off vs) rest else none
  | _, _ => none
def lL (s : St) : List (Nat × Operand) → List (Nat × V)
 | [] => []
 | (i, x) :: r => (i, ev s x) :: lL s r
def LA (f z : List Nat) (i : Nat) : Option (Nat × Nat) := match f[i]?, z[i]? with
 | some a, some b => some (a, b)
 | _, _ => none
def nth (l : List Nat) (i : Nat) : Option Nat := l[i]?
def o7 : Nat → List V → List V
 | 0, _ => []
 | n + 1, z => z ++ o7 n z
end Go.Proofs.YtboolngaahifdaaGreatD
namespace Go.Proofs.YtboolngaahifdaaGreatD
open Go
structure CallRel where
 r : Nat → List V → V → List V → Prop
 g : Nat → List V → List (Option Obj) → (V → List (Option Obj) → Prop) → Prop
 ex : Nat → Bool
 hid : Nat → Bool
 cut : Nat → Bool
 giv : Bool
 gvr : Nat → Bool
def cH (j : Nat) : List Nat → Nat → Option Nat
 | [], _ => none
 | k :: r, i => bif Nat.beq k i then some j else cH (j + 1) r i
mutual
def AD (π : List Nat) : V → V
 | .own i sz off n _ _ => match cH 0 π i with
  | some k => .own k sz off n n none
  | none => .any
 | .sub i j => match cH 0 π i with
  | some k => .sub k j
  | none => .any
 | .ptr i off => match cH 0 π i with
  | some k => .ptr k off
  | none => .any
 | .sp i j off => match cH 0 π i with
  | some k => .sp k j off
  | none => .any
 | .mref i => match cH 0 π i with
  | some k => .mref k
  | none => .any
 | .agg cs => .agg (qK π cs)
 | .tup cs => .tup (qK π cs)
 | .fn f cs => .fn f (qK π cs)
 | v => v
def qK (π : List Nat) : List V → List V
 | [] => []
 | c :: cs => AD π c :: qK π cs
end
def wL (π : List Nat) : Option Obj → Option Obj
 | some ⟨true, cs⟩ => some ⟨true, qK π cs⟩
 | x => x
def UP (j : Nat) : Option Nat → Bool
 | some k => Nat.beq k j
 | none => false
def jU (π : List Nat) (s : St) : Nat → List Nat → List (Option Obj)
 | _, [] => []
 | j, i :: r => (bif UP j (cH 0 π i) then wL π (s.ob i) else none) :: jU π s (j + 1) r
def EN (π : List Nat) (t : List (Nat × V)) : List Nat → List (Nat × V)
 | [] => []
 | k :: r => (k, AD π (lk t k)) :: EN π t r
def l5 (π : List Nat) (ks : List Nat) (s : St) : St := ⟨s.N, EN π s.t ks, jU π s 0 π⟩
mutual
def a2C (σ : Nat → Nat) : V → V
 | .own i sz off n lo hi => .own (σ i) sz off n lo hi
 | .sub i j => .sub (σ i) j
 | .ptr i off => .ptr (σ i) off
 | .sp i j off => .sp (σ i) j off
 | .mref i => .mref (σ i)
 | .agg cs => .agg (oU σ cs)
 | .tup cs => .tup (oU σ cs)
 | .fn f cs => .fn f (oU σ cs)
 | v => v
def oU (σ : Nat → Nat) : List V → List V
 | [] => []
 | c :: cs => a2C σ c :: oU σ cs
end
def KN (σ : Nat → Nat) : Option Obj → Option Obj
 | some ⟨true, cs⟩ => some ⟨true, oU σ cs⟩
 | x => x
def UV (σ : Nat → Nat) : List (Option Obj) → List (Option Obj)
 | [] => []
 | x :: r => KN σ x :: UV σ r
def bk : List Nat → Nat → Nat → Nat
 | [], N, k => N + k
 | i :: _, _, 0 => i
 | _ :: r, N, k + 1 => bk r N k
def rF : List Nat → List (Option Obj) → List (Option Obj) → List (Option Obj)
 | [], g2, g => g ++ g2
 | _ :: _, [], g => g
 | i :: r, x :: g2, g => rF r g2 (kD g i x)
def eE (π : List Nat) (g g2 : List (Option Obj)) : List (Option Obj) := rF π (UV (bk π g.length) g2) g
def wh : List Nat → bM
 | [] => []
 | i :: r => (i, none) :: wh r
def pJ (X : bM) : List (Nat × V) → List (Nat × V)
 | [] => []
 | (k, v) :: r => (k, bif kB X v then v else .any) :: pJ X r
def FO (X : bM) : List (Nat × V) → (List (Nat × V) → Prop) → Prop
 | [], K => K []
 | (k, v) :: r, K => bif kB X v then FO X r fun r => K ((k, v) :: r) else FO X r fun r => K ((k, .any) :: r)
theorem AG (X : bM) : ∀ (t : List (Nat × V)) (K : List (Nat × V) → Prop), FO X t K = K (pJ X t)
 | [], K => rfl
 | (k, v) :: r, K => by
  simp only [FO, pJ]
  cases kB X v with
  | true => simp only [cond_true]; exact AG X r _
  | false => simp only [cond_false]; exact AG X r _
def CI : List (Option Obj) → Bool
 | [] => true
 | some _ :: r => CI r
 | none :: _ => false
def u9 (H : Nat → Bool) : List Nat → List (Option Obj) → Bool
 | [], [] => true
 | i :: π, some ⟨b, _⟩ :: r => (!b || H i) && u9 H π r
 | _, _ => false
def SI (π : List Nat) (v : V) : Bool := inD π v && !(rD v)
def gD (π D : List Nat) : List V → Bool
 | [] => true
 | v :: vs => (SI π v || inD D v) && gD π D vs
def X7 (s : St) (π : List Nat) (v : V) (K : V → Prop) : Prop := bif SI π v then K (AD π v) else rZ s v K
def w5 (s : St) (π : List Nat) : List V → (List V → Prop) → Prop
 | [], K => K []
 | v :: vs, K => X7 s π v fun u => w5 s π vs fun us => K (u :: us)
def E9 (spec : CallRel) (π D : List Nat) (s : St) (f : Nat) (args : List V) (K : V → St → Prop) : Prop :=
 bif gD π D args && x9 D 0 s.g && CI (jU π { s with g := eR D 0 s.g } 0 π) && eH (wh π) s.g then
  w5 s π args fun as => ∃ Post, spec.g f as (jU π { s with g := eR D 0 s.g } 0 π) Post ∧ ∀ r g2, Post r g2 →
   K (roV r) { s with g := eE π (eR D 0 s.g) g2 } ∨ K (C3 (eE π (eR D 0 s.g) g2).length r) { s with g := eE π (eR D 0 s.g) g2 ++ pG r }
 else False
def K5 (spec : CallRel) (s : St) (f : Nat) (args : List V) (K : V → St → Prop) : Prop :=
 ∃ π D : List Nat, FO (wh π) s.t fun t => E9 spec π D ⟨s.N, t, s.g⟩ f args K
def EA (spec : CallRel) (s : St) (f : Nat) (args : List V) (K : V → St → Prop) : Prop :=
 ∃ π : List Nat, (∀ k, kB (wh π) (lk s.t k) = true) ∧ u9 spec.hid π (jU π s 0 π) = true ∧ E9 spec π [] s f args K
def pR (spec : CallRel) (s : St) (f : Nat) (args : List V) (K : V → St → Prop) : Prop :=
 oB s args fun as => ∃ r, spec.r f as r [] ∧ (jN args = true ∨ pD r) ∧ (K (roV r) s ∨ K (C3 s.g.length r) { s with g := s.g ++ pG r })
def KG (spec : CallRel) (s : St) (f : Nat) (args : List V) (K : V → St → Prop) : Prop :=
 o4 s [] args fun as X => bif wH X s.t && eH X s.g then ∃ r o os, spec.r f as r (o :: os) ∧ pB s args (o :: os) fun s => (K (roV r) s ∨ K (C3 s.g.length r) { s with g := s.g ++ pG r }) else False
def wC (spec : CallRel) (s : St) (f : Nat) (args : List V) (K : V → St → Prop) : Prop :=
 o4 s [] args fun as X => (∀ k, kB X (lk s.t k) = true) ∧ eH X s.g = true ∧ ∃ r o os, spec.r f as r (o :: os) ∧ pB s args (o :: os) fun s => (K (roV r) s ∨ K (C3 s.g.length r) { s with g := s.g ++ pG r })
def qX (spec : CallRel) (l : Bool) (s : St) (f : Nat) (args : List V) (K : V → St → Prop) : Prop :=
 match (jN args && !(spec.ex f)) || !l with
 | true => pR spec s f args K
 | false => pR spec s f args K ∨ KG spec s f args K ∨ K5 spec s f args K
def WX (spec : CallRel) (s : St) (f : Nat) (args : List V) (K : V → St → Prop) : Prop :=
 ∃ D : List Nat, (GW D args && x9 D 0 s.g) = true ∧ oB s args fun as => ∃ r, spec.r f as r [] ∧ ∃ g, eR D 0 s.g = g ∧ (K (roV r) { s with g := g } ∨ K (C3 s.g.length r) { s with g := g ++ pG r })
def DF (spec : CallRel) (l : Bool) (s : St) (f : Nat) (args : List V) (K : V → St → Prop) : Prop :=
 match (jN args && !(spec.ex f)) || !l with
 | true => pR spec s f args K
 | false => pR spec s f args K ∨ KG spec s f args K ∨ WX spec s f args K ∨ K5 spec s f args K
def eY (s : St) (d : Nat) : Option Operand → Option Int
 | none => some d
 | some x => match ev s x with
  | .sc (.int _ l) => some l
  | _ => none
def TJ : V → V → Bool
 | .own i _ 0 _ _ _, .own j _ _ _ _ _ => Nat.beq i j
 | _, _ => false
def IV (s : St) (z : Nat) : V → V → (V → St → Prop) → Prop
 | .own i sz 0 n _ _, .own _ sz' off m _ _, K => match s.ob i with
  | some ⟨false, cs⟩ => bif Nat.beq sz z && Nat.beq sz' z then ((n + m ≤ 1099511627776 ∧ n * sz ≤ off ∧ n * sz ≤ cs.length) ∧ ∃ r, dP cs off (m * sz) = some r ∧ (∀ c ∈ r, eU c = true) ∧ ∃ cs', cs.take (n * sz) ++ r = cs' ∧ K (.own s.g.length sz 0 (n + m) (n + m) none) ((s.put i none).add ⟨false, cs'⟩)) else False
  | _ => False
 | _, _, _ => False
def WO (s : St) (z i sz off n : Nat) (d : Int) (K : V → St → Prop) : Prop := match off, s.ob i with
 | 0, some ⟨false, cs⟩ => bif Nat.beq sz z then ((0 ≤ d ∧ d ≤ n) ∧ cs.length = n * sz ∧ ∃ cs', cs.drop (d.toNat * sz) = cs' ∧ K (.own s.g.length sz 0 (n - d.toNat) (n - d.toNat) none) ((s.put i none).add ⟨false, cs'⟩)) else False
 | _, _ => False
def isN : Option Operand → Bool
 | none => true
 | some _ => false
def JP (bs : List Int) : ByteArray := bs.foldl (fun r n => r.push (UInt8.ofNat n.toNat)) ByteArray.empty
def HP (Γ : Tab) (ti : TI) : Option (Nat × TI) := match ti.agg, ti.fields, ti.fsz with
 | true, [], [n, e] => (Γ e).map fun te => (n, te)
 | _, _, _ => none
def cM (Γ : Tab) (spec : CallRel) (l : Bool) (o : Oper) (s : St) (K : V → St → Prop) : Prop :=
 match o.op with
 | .move x | .assign x => K (ev s x) s
 | .pick c a b => match ev s c with
  | .sc (.bool t) => match t with
   | true => K (ev s a) s
   | false => K (ev s b) s
  | _ => False
 | .binOp op t x y _ => match ev s x, ev s y with
  | .sc (.int k a), .sc (.int k' b) => bif OU k k' || shB op then U5 op k a b (fun v => K v s) else False
  | .sc (.string a), .sc (.string b) => U6 op a b (fun v => K v s)
  | .sc (.bool a), .sc (.bool b) => match op, (Γ t).map (·.boo) with
   | .eql, some true => K (.sc (.bool (a == b))) s
   | .neq, some true => K (.sc (.bool (a != b))) s
   | _, _ => False
  | .ro _ cs, .sc (.slice none 0 0) => cs ≠ [] ∧ QH op ((Γ t).bind (·.elem)) false (fun v => K v s)
  | .sc (.slice none 0 0), .sc (.slice none 0 0) => QH op ((Γ t).bind (·.elem)) true (fun v => K v s)
  | _, _ => False
 | .unOp .not _ x => match ev s x with
  | .sc (.bool t) => K (.sc (.bool (!t))) s
  | _ => False
 | .unOp .neg _ x => match ev s x with
  | .sc (.int k a) => K (.sc (.int k (k.wrap (0 - a)))) s
  | _ => False
 | .extract t ix => match ev s t with
  | .tup vs => match vs[ix]? with
   | some v => K v s
   | none => False
  | _ => False
 | .field t x f => match ev s x, (Γ t).bind fun ti => nth ti.fields f, (Γ t).bind fun ti => (nth ti.fty f).bind Γ with
  | .agg cs, some d, some te => bif te.agg then False else match cs[d]? with
   | some c => K c s
   | none => False
  | _, _, _ => False
 | .alloc t => match Γ t with
  | some ti => K (.ptr s.g.length 0) (s.add ⟨true, ti.zero.map .sc⟩)
  | none => False
 | .box _ x => match kL s (ev s x) with
  | some cs => K (.ptr s.g.length 0) (s.add ⟨true, cs⟩)
  | none => False
 | .nilCheck x => match ev s x with
  | .ptr i off => match s.ob i with
   | some _ => K (.ptr i off) s
   | none => False
  | .rp cs => K (.rp cs) s
  | _ => False
 | .load t x => match ev s x, Γ t with
  | .ptr i off, some ti => match s.ob i with
   | some ⟨true, cs⟩ => bif eG cs then False else match dP cs off ti.size with
    | some r => K (y8 ti.agg r) s
    | none => False
   | some ⟨false, cs⟩ => bif Nat.beq ti.size 0 then False else ∃ r, dP cs off ti.size = some r ∧ K (y8 ti.agg (u7 i off r)) s
   | none => False
  | .rp cs, some ti => ∃ r, dP cs 0 ti.size = some r ∧ K (y8 ti.agg r) s
  | .sp i j off, some ti => match s.ob i with
   | some ⟨false, cs⟩ => bif Nat.beq ti.size 0 then False else ∃ sz n r q, cs[j]? = some (.tr sz n r) ∧ dP r off ti.size = some q ∧ (∀ c ∈ q, fT c = true) ∧ K (y8 ti.agg q) s
   | _ => False
  | _, _ => False
 | .store t x y => match ev s x, kL s (ev s y), Γ t with
  | .ptr i off, some vs, some ti => bif Nat.beq vs.length ti.size then (match s.ob i with
   | some ⟨true, cs⟩ => bif !(eG cs) && (vs.all eU && Nat.ble (off + ti.size) cs.length) then K .any (s.put i (some ⟨true, e7 cs off vs⟩)) else False
   | some ⟨false, cs⟩ => bif Nat.beq ti.size 0 then False else match vs.all fT with
    | true => ∃ r, dP cs off ti.size = some r ∧ ∃ cs', e7 cs off vs = cs' ∧ K .any (s.put i (some ⟨false, cs'⟩))
    | false => bif l && (wH [(i, none)] s.t && eH [(i, none)] s.g) then (∃ r, dP cs off ti.size = some r ∧ jT s vs fun us s1 => match s1.ob i with
     | some ⟨false, cs1⟩ => off + ti.size ≤ cs1.length ∧ ∃ cs', e7 cs1 off us = cs' ∧ K .any (s1.put i (some ⟨false, cs'⟩))
     | _ => False) else False
   | none => False) else False
  | .sp i j off, some vs, some ti => bif Nat.beq vs.length ti.size && vs.all fT && !(Nat.beq ti.size 0) then (match s.ob i with
   | some ⟨false, cs⟩ => ∃ sz n r q, cs[j]? = some (.tr sz n r) ∧ dP r off ti.size = some q ∧ ∃ cs', cs.set j (.tr sz n (e7 r off vs)) = cs' ∧ K .any (s.put i (some ⟨false, cs'⟩))
   | _ => False) else False
  | _, _, _ => False
 | .fieldAddr t x f => match ev s x, (Γ t).bind fun ti => nth ti.fields f with
  | .ptr i off, some d => match s.ob i with
   | some _ => K (.ptr i (off + d)) s
   | none => False
  | .rp cs, some d => K (.rp (cs.drop d)) s
  | .sp i j off, some d => K (.sp i j (off + d)) s
  | _, _ => False
 | .indexAddr t x ix => match ev s x, ev s ix, (Γ t).bind fun ti => ti.elem.bind Γ with
  | .ro n cs, .sc (.int _ i), some te => bif Nat.beq te.size 0 then False else (0 ≤ i ∧ i < n) ∧ cs.length = n * te.size ∧ K (.rp (cs.drop (i.toNat * te.size))) s
  | .own k sz off n _ _, .sc (.int _ i), some te => match s.ob k with
   | some _ => bif Nat.beq sz te.size then ((0 ≤ i ∧ i < n) ∧ K (.ptr k (off + i.toNat * te.size)) s) else False
   | none => False
  | .sub k j, .sc (.int _ i), some te => match s.ob k with
   | some ⟨false, cs⟩ => ∃ n r, cs[j]? = some (.tr te.size n r) ∧ (0 ≤ i ∧ i < n) ∧ K (.sp k j (i.toNat * te.size)) s
   | _ => False
  | .ptr k off, .sc (.int _ i), none => match (Γ t).bind (HP Γ), s.ob k with
   | some (n, te), some _ => (0 ≤ i ∧ i < n) ∧ K (.ptr k (off + i.toNat * te.size)) s
   | _, _ => False
  | .rp cs, .sc (.int _ i), none => match (Γ t).bind (HP Γ) with
   | some (n, te) => (0 ≤ i ∧ i < n) ∧ K (.rp (cs.drop (i.toNat * te.size))) s
   | none => False
  | _, _, _ => False
 | .index t x ix => match ev s x, ev s ix with
  | .sc (.string b), .sc (.int _ i) => (∃ ti, Γ t = some ti ∧ ti.str = true) ∧ ∃ h : 0 ≤ i ∧ i.toNat < b.size, K (.sc (.int .u8 ((b[i.toNat]'h.2).toNat : Int))) s
  | _, _ => False
 | .build t parts => match Γ t with
  | some ti => bif Nat.beq ti.fields.length 0 then False else match mO s (LA ti.fields ti.fsz) (ti.zero.map .sc) (lL s parts.toList) with
   | some cs => K (.agg cs) s
   | none => False
  | none => False
 | .buildSlice t len parts => match (Γ t).bind fun ti => ti.elem.bind Γ with
  | some te => bif Nat.ble (len * te.size) 1000 && !(Nat.beq te.size 0) then (match mO s (fun i => some (i * te.size, te.size)) (o7 len (te.zero.map .sc)) (lL s parts.toList) with
   | some cs => jT s cs fun cs' s' => K (.own s'.g.length te.size 0 len len (some len)) (s'.add ⟨false, cs'⟩)
   | none => False) else False
  | none => False
 | .slice t x lo hi none => match ev s x, (Γ t).bind fun ti => ti.elem.bind Γ with
  | .ro n cs, some te => match eY s 0 lo, eY s n hi with
   | some l, some h => (0 ≤ l ∧ l ≤ h ∧ h ≤ n) ∧ cs.length = n * te.size ∧ ∃ r, dP cs (l.toNat * te.size) ((h.toNat - l.toNat) * te.size) = some r ∧ K (.ro (h.toNat - l.toNat) r) s
   | _, _ => False
  | .own i sz off n _ _, some te => match eY s 0 lo, eY s n hi with
   | some d, some h => bif l && (spec.giv && isN hi) then WO s te.size i sz off n d K else bif Nat.beq sz te.size then ((0 ≤ d ∧ d ≤ h ∧ h ≤ n) ∧ K (.own i sz (off + d.toNat * sz) (h.toNat - d.toNat) (h.toNat - d.toNat) none) s) else False
   | _, _ => False
  | .sc (.string b), none => match eY s 0 lo, eY s b.size hi with
   | some d, some h => (∃ ti, Γ t = some ti ∧ ti.str = true) ∧ (0 ≤ d ∧ d ≤ h ∧ h ≤ b.size) ∧ K (.sc (.string (b.extract d.toNat h.toNat))) s
   | _, _ => False
  | _, _ => False
 | .slice t x lo (some hi) (some mx) => match ev s x, (Γ t).bind fun ti => ti.elem.bind Γ, ev s mx with
  | .ro n cs, some te, .sc (.int _ m) => match eY s 0 lo, eY s n (some hi) with
   | some l, some h => (0 ≤ l ∧ l ≤ h ∧ h ≤ m ∧ m ≤ n) ∧ cs.length = n * te.size ∧ ∃ r, dP cs (l.toNat * te.size) ((h.toNat - l.toNat) * te.size) = some r ∧ K (.ro (h.toNat - l.toNat) r) s
   | _, _ => False
  | .own i sz off n _ _, some te, .sc (.int _ m) => match eY s 0 lo, eY s n (some hi), s.ob i with
   | some l, some h, some _ => bif Nat.beq sz te.size then ((0 ≤ l ∧ l ≤ h ∧ h ≤ m ∧ m ≤ n) ∧ K (.own i sz (off + l.toNat * sz) (h.toNat - l.toNat) (h.toNat - l.toNat) none) s) else False
   | _, _, _ => False
  | _, _, _ => False
 | .makeSlice t x y => match ev s x, ev s y, (Γ t).bind fun ti => ti.elem.bind Γ with
  | .sc (.int _ l), .sc (.int _ c), some te => bif Nat.ble te.bytes 64 && !(Nat.beq te.size 0) then ((0 ≤ l ∧ l ≤ c ∧ c ≤ 1099511627776) ∧ ∃ r, o7 l.toNat (te.zero.map .sc) = r ∧ K (.own s.g.length te.size 0 l.toNat l.toNat none) (s.add ⟨false, r⟩)) else False
  | _, _, _ => False
 | .convert src dst x => match ev s x, (Γ dst).bind (·.kind), (Γ src).bind (·.kind) with
  | .sc (.int _ a), some k, some _ => K (.sc (.int k (k.wrap a))) s
  | .own i sz off n _ _, none, none => bif l && Nat.beq sz 1 then (match s.ob i, Γ dst, (Γ src).bind fun ts => ts.elem.bind Γ with
   | some ⟨false, cs⟩, some td, some te => (td.str = true ∧ te.kind = some .u8) ∧ ∃ bs : List Int, dP cs off n = some (bs.map fun b => .sc (.int .u8 b)) ∧ K (.sc (.string (JP bs))) s
   | _, _, _ => False) else False
  | _, _, _ => False
 | .call { callee := .builtin .len, args, argTypes } => match args.toList, argTypes.toList with
  | [x], [t] => match ev s x, Γ t with
   | .sc (.string b), some ti => bif ti.str then K (.sc (.int .i64 b.size)) s else False
   | .mref i, some ti => bif XW ti then (match s.ob i with
    | some ⟨true, cs⟩ => ∃ m, cs = [.bp (kI m)] ∧ K (.sc (.int .i64 m.length)) s
    | _ => False) else False
   | v, some ti => match ti.elem, GY s v with
    | some _, some n => K (.sc (.int .i64 n)) s
    | _, _ => False
   | _, none => False
  | _, _ => False
 | .call { callee := .builtin .append, args, argTypes } => match args.toList, argTypes.toList with
  | [x, y], [t, u] => match (Γ t).bind fun ti => ti.elem.bind Γ, (Γ u).bind (·.elem) with
   | some te, some _ => bif Nat.ble te.bytes 64 && !(Nat.beq te.size 0) then bif TJ (ev s x) (ev s y) && !spec.giv then IV s te.size (ev s x) (ev s y) K else LU s te.size (ev s y) fun m src s1 => match ev s x with
    | .sc (.slice none 0 0) => m ≤ 1099511627776 ∧ K (.own s1.g.length te.size 0 m m none) (s1.add ⟨false, src⟩)
    | .own i sz 0 n _ _ => match s1.ob i with
     | some ⟨false, cs⟩ => bif Nat.beq sz te.size then (n + m ≤ 1099511627776 ∧ cs.length = n * sz ∧ ∃ cs', cs ++ src = cs' ∧ K (.own s1.g.length sz 0 (n + m) (n + m) none) ((s1.put i none).add ⟨false, cs'⟩)) else False
     | _ => False
    | .own i sz (off + 1) n _ _ => match s1.ob i with
     | some ⟨false, cs⟩ => bif Nat.beq sz te.size then (n + m ≤ 1099511627776 ∧ cs.length = off + 1 + n * sz ∧ ∃ cs', cs.drop (off + 1) ++ src = cs' ∧ K (.own s1.g.length sz 0 (n + m) (n + m) none) ((s1.put i none).add ⟨false, cs'⟩)) else False
     | _ => False
    | _ => False else False
   | _, _ => False
  | _, _ => False
 | .call { callee := .builtin .max, args, .. } => match args.toList with
  | [x, y] => match ev s x, ev s y with
   | .sc (.int k a), .sc (.int _ b) => K (.sc (.int k (if b > a then b else a))) s
   | _, _ => False
  | _ => False
 | .call { callee := .builtin .min, args, .. } => match args.toList with
  | [x, y] => match ev s x, ev s y with
   | .sc (.int k a), .sc (.int _ b) => K (.sc (.int k (if b < a then b else a))) s
   | _, _ => False
  | _ => False
 | .call { callee := .value (.func f), args, .. } => qX spec l s f (args.toList.map (ev s)) K
 | .call { callee := .value (.tmp t), args, .. } => match lk s.t t with
  | .fn f cs => DF spec l s f (args.toList.map (ev s) ++ cs) K
  | _ => False
 | .makeFunc (.func f) first captured => match first.toList with
  | [] => K (.fn f (captured.toList.map (ev s))) s
  | _ => False
 | .makeMap _ none => K (.mref s.g.length) (s.add ⟨true, [.bp (kI [])]⟩)
 | .lookup t x ix c => match ev s x, ev s ix, Γ t with
  | .mref i, .sc (.int .i64 k), some ti => bif XW ti then (match s.ob i with
   | some ⟨true, cs⟩ => ∃ m, cs = [.bp (kI m)] ∧ match c with
    | true => K (.tup [.sc (.int .i64 ((tA m k).getD 0)), .sc (.bool (tA m k).isSome)]) s
    | false => K (.sc (.int .i64 ((tA m k).getD 0))) s
   | _ => False) else False
  | _, _, _ => False
 | .mapUpdate t x ix y => match ev s x, ev s ix, ev s y, Γ t with
  | .mref i, .sc (.int .i64 k), .sc (.int .i64 v), some ti => bif XW ti then (match s.ob i with
   | some ⟨true, cs⟩ => ∃ m, cs = [.bp (kI m)] ∧ ∃ m', wO m k v = m' ∧ K .any (s.put i (some ⟨true, [.bp (kI m')]⟩))
   | _ => False) else False
  | _, _, _, _ => False
 | _ => False
def wX (s : St) (ops : Array Oper) (o : Oper) (yes no : Prop) : Prop :=
 match o.guard with
 | none => yes
 | some (j, want) => match ((ops[j]?).bind (·.dst)).map (lk s.t) with
  | some (.sc (.bool b)) => (b = want → yes) ∧ (b = (!want) → no)
  | some (.tup []) => no
  | _ => False
def mJ (s : St) (ops : Array Oper) (o : Oper) (yes no : Prop) : Prop :=
 match o.guard with
 | none => yes
 | some (j, want) => match ((ops[j]?).bind (·.dst)).map (lk s.t) with
  | some (.sc (.bool b)) => match want with
   | true => match b with
    | true => yes
    | false => no
   | false => match b with
    | true => no
    | false => yes
  | some (.tup []) => no
  | _ => False
theorem vT (s : St) (ops : Array Oper) (o : Oper) (yes no : Prop) : mJ s ops o yes no = wX s ops o yes no := by
 unfold mJ wX
 cases o.guard with
 | none => rfl
 | some jw =>
  obtain ⟨j, w⟩ := jw
  simp only
  split
  ·rename_i b hb
   cases w <;> cases b <;> simp
  ·rfl
  ·rfl
def O3 : Nat → Nat → Nat → (Nat → Prop) → Prop
 | 0, i, _, K => K i
 | f + 1, i, j, K => bif Nat.beq i j then K j else O3 f i (j + 1) K
mutual
def lF : V → (V → Prop) → Prop
 | .sc v, K => match v with
  | .int k a => K (.sc (.int k a))
  | .bool b => K (.sc (.bool b))
  | .string b => K (.sc (.string b))
  | v => K (.sc v)
 | .ro n cs, K => K (.ro n cs)
 | .tr sz n cs, K => K (.tr sz n cs)
 | .own i sz off n lo hi, K => O3 60 i 0 fun i => K (.own i sz off n lo hi)
 | .sub i j, K => O3 60 i 0 fun i => K (.sub i j)
 | .ptr i off, K => O3 60 i 0 fun i => K (.ptr i off)
 | .bp cs, K => K (.bp cs)
 | .sp i j off, K => O3 60 i 0 fun i => K (.sp i j off)
 | .mref i, K => O3 60 i 0 fun i => K (.mref i)
 | .rp cs, K => K (.rp cs)
 | .agg cs, K => sZ cs fun cs => K (.agg cs)
 | .tup cs, K => sZ cs fun cs => K (.tup cs)
 | .fn f cs, K => sZ cs fun cs => K (.fn f cs)
 | .any, K => K .any
def sZ : List V → (List V → Prop) → Prop
 | [], K => K []
 | c :: cs, K => lF c fun c => sZ cs fun cs => K (c :: cs)
end
def pF : List (Option Obj) → (List (Option Obj) → Prop) → Prop
 | [], K => K []
 | none :: r, K => pF r fun r => K (none :: r)
 | some ⟨true, cs⟩ :: r, K => sZ cs fun cs => pF r fun r => K (some ⟨true, cs⟩ :: r)
 | some ⟨false, cs⟩ :: r, K => pF r fun r => K (some ⟨false, cs⟩ :: r)
def upK : List (Nat × V) → Nat → V → (List (Nat × V) → Prop) → Prop
 | [], n, v, K => K [(n, v)]
 | (k, u) :: r, n, v, K => bif Nat.beq k n then K ((n, v) :: r) else bif Nat.blt n k then K ((n, v) :: (k, u) :: r) else upK r n v fun r => K ((k, u) :: r)
def sU (s : St) (d : Option Nat) (v : V) (K : St → Prop) : Prop :=
 match s with
 | ⟨N, t, g⟩ => pF g fun g => match d with
  | none => K ⟨N, t, g⟩
  | some d => bif Nat.blt d N then lF v fun v => upK t d v fun t => K ⟨N, t, g⟩ else False
theorem uV : ∀ (f i j : Nat) (K : Nat → Prop), O3 f i j K = K i
 | 0, i, j, K => rfl
 | f + 1, i, j, K => by
  simp only [O3]
  cases h : Nat.beq i j with
  | true => rw [Nat.eq_of_beq_eq_true h]; rfl
  | false => exact uV f i (j + 1) K
mutual
theorem zP : ∀ (v : V) (K : V → Prop), lF v K = K v
 | .sc v, K => by simp only [lF]; split <;> rfl
 | .ro _ _, K => rfl
 | .tr _ _ _, K => rfl
 | .own _ _ _ _ _ _, K => by simp only [lF, uV]
 | .sub _ _, K => by simp only [lF, uV]
 | .ptr _ _, K => by simp only [lF, uV]
 | .bp _, K => rfl
 | .sp _ _ _, K => by simp only [lF, uV]
 | .mref _, K => by simp only [lF, uV]
 | .rp _, K => rfl
 | .agg cs, K => by simp only [lF, nJ cs]
 | .tup cs, K => by simp only [lF, nJ cs]
 | .fn _ cs, K => by simp only [lF, nJ cs]
 | .any, K => rfl
theorem nJ : ∀ (cs : List V) (K : List V → Prop), sZ cs K = K cs
 | [], K => rfl
 | c :: cs, K => by simp only [sZ, zP c, nJ cs]
end
theorem nI : ∀ (g : List (Option Obj)) (K : List (Option Obj) → Prop), pF g K = K g
 | [], K => rfl
 | none :: r, K => by simp only [pF, nI r]
 | some ⟨true, cs⟩ :: r, K => by simp only [pF, nJ cs, nI r]
 | some ⟨false, cs⟩ :: r, K => by simp only [pF, nI r]
theorem ZB : ∀ (t : List (Nat × V)) (n : Nat) (v : V) (K : List (Nat × V) → Prop), upK t n v K = K (up t n v)
 | [], n, v, K => rfl
 | (k, u) :: r, n, v, K => by
  simp only [upK, up]
  cases Nat.beq k n with
  | true => rfl
  | false =>
   cases Nat.blt n k with
   | true => rfl
   | false => exact ZB r n v _
theorem S7 (s : St) (d : Option Nat) (v : V) (K : St → Prop) : sU s d v K = match d with
  | none => K s
  | some d => bif Nat.blt d s.N then K { s with t := up s.t d v } else False := by
 obtain ⟨N, t, g⟩ := s
 simp only [sU, nI]
 cases d with
 | none => rfl
 | some d => simp only [zP, ZB]
def T2 (Γ : Tab) (spec : CallRel) (ops : Array Oper) : List Oper → St → (St → Prop) → Prop
 | [], s, K => K s
 | o :: os, s, K => mJ s ops o (cM Γ spec true o s fun v s' => sU s' o.dst v fun s2 => T2 Γ spec ops os s2 K) (sU s o.dst (.tup []) fun s2 => T2 Γ spec ops os s2 K)
inductive X where
 | normal
 | exit (id : Nat)
 | ret
end Go.Proofs.YtboolngaahifdaaGreatD
namespace Go.Proofs.YtboolngaahifdaaGreatD
open Go
abbrev Lab := Nat → Option (List Nat)
structure Env where
 w : World
 o : Lab
 ρ : Nat → Nat × Nat
 g : Nat → Option Obj
 n : Nat
 okb : Nat → Prop
def Env.bare (E : Env) : Env := { E with n := 0, g := fun _ => none }
inductive Md where
 | none
 | top (k : Nat)
 | at (q : List Nat)
def Md.leaf : Md → Option (List Nat)
 | .none => Option.none
 | .top k => some [k]
 | .at q => some q
def Md.child (j : Nat) : Md → Md
 | .at q => .at (q ++ [j])
 | _ => .none
def Md.next (d : Nat) : Md → Md
 | .top k => .top (k + d)
 | _ => .none
def Md.part : Md → Md
 | .top k => .top k
 | _ => .none
def hZ (g : Nat → Option Obj) (i j : Nat) : Prop := ∃ cs sz n r, g i = some ⟨false, cs⟩ ∧ cs[j]? = some (.tr sz n r)
mutual
def Rv : Env → Md → V → Value → Prop
 | _, _, .sc v, x => x = v ∧ v.oneCell' = true
 | E, _, .ro n cs, x => ∃ A cap, x = .slice A n cap ∧ n ≤ cap ∧ (cs ≠ [] → ∃ b off, A = some ⟨b, off, none⟩ ∧ E.okb b ∧ b < E.w.heap.size ∧ Rrow E.bare .none b off 0 cs)
 | E, m, .tr sz n cs, x => ∃ A cap, x = .slice A n cap ∧ n ≤ cap ∧ cs.length = n * sz ∧ (cap = 0 ∨ ∃ b off q c e, A = some ⟨b, off, none⟩ ∧ m.leaf = some q ∧ E.o b = some q ∧ E.w.heap[b]? = some (.cells c e (0, 0)) ∧ off + cap * sz ≤ c.size ∧ Rrow E.bare (.at q) b off 0 cs)
 | E, _, .own i sz off n lo hi, x => i < E.n ∧ ∃ A cap, x = .slice A n cap ∧ n ≤ cap ∧ ((E.g i).isSome = true → n ≤ cap ∧ lo ≤ cap ∧ (∀ h, hi = some h → cap = h) ∧
   (cap = 0 ∨ ∃ c e, A = some ⟨(E.ρ i).1, (E.ρ i).2 + off, none⟩ ∧ E.o (E.ρ i).1 = some [i] ∧ E.w.heap[(E.ρ i).1]? = some (.cells c e (0, 0)) ∧ (E.ρ i).2 + off + cap * sz ≤ c.size))
 | E, _, .sub i j, x => i < E.n ∧ (∃ A n cap, x = .slice A n cap) ∧ (hZ E.g i j → E.w.cell? ⟨(E.ρ i).1, (E.ρ i).2 + j, none⟩ = some x)
 | E, _, .ptr i off, x => i < E.n ∧ ∃ ad, x = .pointer (some ad) ∧ ((E.g i).isSome = true → ad = ⟨(E.ρ i).1, (E.ρ i).2 + off, none⟩)
 | E, _, .rp cs, x => ∃ b off, x = .pointer (some ⟨b, off, none⟩) ∧ E.okb b ∧ b < E.w.heap.size ∧ Rrow E.bare .none b off 0 cs
 | E, m, .bp cs, x => ∃ b off q c e, x = .pointer (some ⟨b, off, none⟩) ∧ m.leaf = some q ∧ E.o b = some q ∧ E.w.heap[b]? = some (.cells c e (0, 0)) ∧ cs ≠ [] ∧ Rrow E.bare (.at q) b off 0 cs
 | E, _, .mref i, x => i < E.n ∧ ∃ r, x = .map (some r) ∧ ((E.g i).isSome = true → r = (E.ρ i).1)
 | E, _, .sp i j off, x => i < E.n ∧ ∃ ad, x = .pointer (some ad) ∧ (hZ E.g i j → ∃ A n cap, E.w.cell? ⟨(E.ρ i).1, (E.ρ i).2 + j, none⟩ = some (.slice (some A) n cap) ∧ 0 < cap ∧ ad = A.add off)
 | E, m, .agg cs, x => ∃ xs : List Value, x = .agg xs.toArray ∧ Rvs E m.part cs xs
 | E, m, .tup cs, x => ∃ xs : List Value, x = .tuple xs.toArray ∧ Rvs E m.part cs xs
 | E, m, .fn f cs, x => ∃ xs : List Value, x = .func (.func f) #[] xs.toArray ∧ Rvs E m.part cs xs
 | _, _, .any, _ => True
def Rrow : Env → Md → Nat → Nat → Nat → List V → Prop
 | _, _, _, _, _, [] => True
 | E, m, b, off, j, c :: cs => (∃ v, E.w.cell? ⟨b, off, none⟩ = some v ∧ Rv E (m.child j) c v) ∧ Rrow E m b (off + 1) (j + 1) cs
def Rvs : Env → Md → List V → List Value → Prop
 | _, _, [], [] => True
 | E, m, c :: cs, x :: xs => Rv E m c x ∧ Rvs E (m.next (nl c)) cs xs
 | _, _, _, _ => False
end
structure Mono (E E' : Env) : Prop where
 sz : E.w.heap.size ≤ E'.w.heap.size
 free : ∀ b, b < E.w.heap.size → E.okb b → E'.okb b ∧ E'.w.heap[b]? = E.w.heap[b]?
 n : E.n ≤ E'.n
 ref : ∀ i, i < E.n → (E'.g i).isSome = true → (E.g i).isSome = true ∧ E'.ρ i = E.ρ i ∧ (E.o (E.ρ i).1 = some [i] → E'.o (E.ρ i).1 = some [i]) ∧
  ∀ c e, E.w.heap[(E.ρ i).1]? = some (.cells c e (0, 0)) → ∃ c', E'.w.heap[(E.ρ i).1]? = some (.cells c' e (0, 0)) ∧ c'.size = c.size
 sub : ∀ i j, i < E.n → hZ E'.g i j → hZ E.g i j ∧ E'.w.cell? ⟨(E.ρ i).1, (E.ρ i).2 + j, none⟩ = E.w.cell? ⟨(E.ρ i).1, (E.ρ i).2 + j, none⟩
def Kept (E E' : Env) (q : List Nat) : Prop := ∀ b r, E.o b = some (q ++ r) → E'.o b = some (q ++ r) ∧ E'.w.heap[b]? = E.w.heap[b]?
def KeptM (E E' : Env) (m : Md) : Prop := ∀ q, m = .at q → Kept E E' q
def VY (E E' : Env) (m : Md) : Prop := ∀ k j, m = .top k → k ≤ j → Kept E E' [j]
theorem Kept.child {E E' : Env} {q : List Nat} (h : Kept E E' q) (j : Nat) : Kept E E' (q ++ [j]) := fun b r hb => by
 have := h b ([j] ++ r) (by rw [← List.append_assoc]; exact hb)
 rw [← List.append_assoc] at this
 exact this
theorem KeptM.child {E E' : Env} {m : Md} (h : KeptM E E' m) (j : Nat) : KeptM E E' (m.child j) := by
 intro q hq
 cases m <;> simp [Md.child] at hq
 subst hq
 exact (h _ rfl).child j
theorem dQ {w w' : World} {b off : Nat} (h : w'.heap[b]? = w.heap[b]?) : w'.cell? ⟨b, off, none⟩ = w.cell? ⟨b, off, none⟩ := by simp [World.cell?, h]
theorem Mono.bare {E E' : Env} (h : Mono E E') : Mono E.bare E'.bare := ⟨h.sz, h.free, Nat.le_refl _, fun _ h _ => absurd h (Nat.not_lt_zero _), fun _ _ h _ => absurd h (Nat.not_lt_zero _)⟩
mutual
theorem Rv.mono : ∀ {E E' : Env} (hm : Mono E E') {m : Md} {v : V} {x : Value}, KeptM E E' m → VY E E' m → Rv E m v x → Rv E' m v x
 | E, E', hm, m, .sc v, x, _, _, h => h
 | E, E', hm, m, .ro n cs, x, hk, ht, h => by
  obtain ⟨A, cap, rfl, hc, hr⟩ := h
  refine ⟨A, cap, rfl, hc, fun hne => ?_⟩
  obtain ⟨b, off, hA, hok, hb, hrow⟩ := hr hne
  obtain ⟨h1, h2⟩ := hm.free b hb hok
  exact ⟨b, off, hA, h1, Nat.lt_of_lt_of_le hb hm.sz, Rrow.mono hm.bare (m := .none) (fun q hq => by cases hq) h2 hrow⟩
 | E, E', hm, m, .tr sz n cs, x, hk, ht, h => by
  obtain ⟨A, cap, rfl, hc, hl, hr⟩ := h
  refine ⟨A, cap, rfl, hc, hl, ?_⟩
  rcases hr with hr | ⟨b, off, q, c, e, hA, hq, ho, hh, hs, hrow⟩
  ·exact .inl hr
  ·have hK : Kept E E' q := by
    cases m with
    | none => simp [Md.leaf] at hq
    | top k => simp [Md.leaf] at hq; subst hq; exact ht k k rfl (Nat.le_refl _)
    | «at» q' => simp [Md.leaf] at hq; subst hq; exact hk _ rfl
   obtain ⟨h1, h2⟩ := hK b [] (by simpa using ho)
   exact .inr ⟨b, off, q, c, e, hA, hq, by simpa using h1, h2.trans hh, hs, Rrow.mono hm.bare (m := .at q) (fun q' hq' => by cases hq'; exact hK) h2 hrow⟩
 | E, E', hm, m, .own i sz off n lo hi, x, hk, ht, h => by
  obtain ⟨hi', A, cap, hx, hnc, h⟩ := h
  refine ⟨Nat.lt_of_lt_of_le hi' hm.n, A, cap, hx, hnc, fun hl => ?_⟩
  obtain ⟨h1, h2, h3, h4⟩ := hm.ref i hi' hl
  obtain ⟨hc, hlo, hhi, hr⟩ := h h1
  refine ⟨hc, hlo, hhi, ?_⟩
  rcases hr with hr | ⟨c, e, hA, ho, hh, hs⟩
  ·exact .inl hr
  ·obtain ⟨c', hc', hsz⟩ := h4 c e hh
   exact .inr ⟨c', e, by rw [h2]; exact hA, by rw [h2]; exact h3 ho, by rw [h2]; exact hc', by rw [h2, hsz]; exact hs⟩
 | E, E', hm, m, .sub i j, x, hk, ht, h => by
  obtain ⟨hi', hsl, h⟩ := h
  refine ⟨Nat.lt_of_lt_of_le hi' hm.n, hsl, fun hl => ?_⟩
  obtain ⟨h1, h2⟩ := hm.sub i j hi' hl
  have hs : (E'.g i).isSome = true := by obtain ⟨_, _, _, _, he, _⟩ := hl; rw [he]; rfl
  obtain ⟨_, h3, _⟩ := hm.ref i hi' hs
  rw [h3, h2]
  exact h h1
 | E, E', hm, m, .ptr i off, x, hk, ht, h => by
  obtain ⟨hi', ad, hx, h⟩ := h
  refine ⟨Nat.lt_of_lt_of_le hi' hm.n, ad, hx, fun hl => ?_⟩
  obtain ⟨h1, h2, _⟩ := hm.ref i hi' hl
  rw [h2]
  exact h h1
 | E, E', hm, m, .rp cs, x, hk, ht, h => by
  obtain ⟨b, off, rfl, hok, hb, hrow⟩ := h
  obtain ⟨h1, h2⟩ := hm.free b hb hok
  exact ⟨b, off, rfl, h1, Nat.lt_of_lt_of_le hb hm.sz, Rrow.mono hm.bare (m := .none) (fun q hq => by cases hq) h2 hrow⟩
 | E, E', hm, m, .bp cs, x, hk, ht, h => by
  obtain ⟨b, off, q, c, e, rfl, hq, ho, hh, hne, hrow⟩ := h
  have hK : Kept E E' q := by
   cases m with
   | none => simp [Md.leaf] at hq
   | top k => simp [Md.leaf] at hq; subst hq; exact ht k k rfl (Nat.le_refl _)
   | «at» q' => simp [Md.leaf] at hq; subst hq; exact hk _ rfl
  obtain ⟨h1, h2⟩ := hK b [] (by simpa using ho)
  exact ⟨b, off, q, c, e, rfl, hq, by simpa using h1, h2.trans hh, hne, Rrow.mono hm.bare (m := .at q) (fun q' hq' => by cases hq'; exact hK) h2 hrow⟩
 | E, E', hm, m, .mref i, x, hk, ht, h => by
  obtain ⟨hi', r, hx, h⟩ := h
  refine ⟨Nat.lt_of_lt_of_le hi' hm.n, r, hx, fun hl => ?_⟩
  obtain ⟨h1, h2, _⟩ := hm.ref i hi' hl
  rw [h2]
  exact h h1
 | E, E', hm, m, .sp i j off, x, hk, ht, h => by
  obtain ⟨hi', ad, hx, h⟩ := h
  refine ⟨Nat.lt_of_lt_of_le hi' hm.n, ad, hx, fun hl => ?_⟩
  obtain ⟨h1, h2⟩ := hm.sub i j hi' hl
  have hs : (E'.g i).isSome = true := by obtain ⟨_, _, _, _, he, _⟩ := hl; rw [he]; rfl
  obtain ⟨_, h3, _⟩ := hm.ref i hi' hs
  obtain ⟨A, n, cap, h4, h5⟩ := h h1
  exact ⟨A, n, cap, by rw [h3, h2]; exact h4, h5⟩
 | E, E', hm, m, .agg cs, x, hk, ht, h => by
  obtain ⟨xs, rfl, hr⟩ := h
  exact ⟨xs, rfl, Rvs.mono hm (fun q hq => by cases m <;> simp [Md.part] at hq) (fun k j hq hj => by cases m <;> simp [Md.part] at hq; subst hq; exact ht _ j rfl hj) hr⟩
 | E, E', hm, m, .tup cs, x, hk, ht, h => by
  obtain ⟨xs, rfl, hr⟩ := h
  exact ⟨xs, rfl, Rvs.mono hm (fun q hq => by cases m <;> simp [Md.part] at hq) (fun k j hq hj => by cases m <;> simp [Md.part] at hq; subst hq; exact ht _ j rfl hj) hr⟩
 | E, E', hm, m, .fn f cs, x, hk, ht, h => by
  obtain ⟨xs, rfl, hr⟩ := h
  exact ⟨xs, rfl, Rvs.mono hm (fun q hq => by cases m <;> simp [Md.part] at hq) (fun k j hq hj => by cases m <;> simp [Md.part] at hq; subst hq; exact ht _ j rfl hj) hr⟩
 | E, E', hm, m, .any, x, _, _, _ => trivial
theorem Rrow.mono : ∀ {E E' : Env} (hm : Mono E E') {m : Md} {b off j : Nat} {cs : List V}, KeptM E E' m → E'.w.heap[b]? = E.w.heap[b]? → Rrow E m b off j cs → Rrow E' m b off j cs
 | E, E', hm, m, b, off, j, [], _, _, _ => trivial
 | E, E', hm, m, b, off, j, c :: cs, hk, hb, h => by
  obtain ⟨⟨v, hv, hr⟩, hs⟩ := h
  refine ⟨⟨v, (dQ hb).trans hv, Rv.mono hm (hk.child j) (fun k j' hq hj => by cases m <;> simp [Md.child] at hq) hr⟩, Rrow.mono hm hk hb hs⟩
theorem Rvs.mono : ∀ {E E' : Env} (hm : Mono E E') {m : Md} {cs : List V} {xs : List Value}, KeptM E E' m → VY E E' m → Rvs E m cs xs → Rvs E' m cs xs
 | E, E', hm, m, [], [], _, _, _ => trivial
 | E, E', hm, m, c :: cs, x :: xs, hk, ht, h => by
  obtain ⟨h1, h2⟩ := h
  refine ⟨Rv.mono hm hk ht h1, Rvs.mono hm (fun q hq => by cases m <;> simp [Md.next] at hq) (fun k j hq hj => ?_) h2⟩
  cases m <;> simp [Md.next] at hq
  subst hq
  exact ht _ j rfl (by omega)
 | E, E', hm, m, [], _ :: _, _, _, h => h.elim
 | E, E', hm, m, _ :: _, [], _, _, h => h.elim
end
end Go.Proofs.YtboolngaahifdaaGreatD
namespace Go.Proofs.YtboolngaahifdaaGreatD
open Go
structure Ctx where
 w0 : World
 lent : Nat → Prop
 o0 : Lab
 dull : ∀ b p, ¬ lent b → o0 b = some p → p = []
 np : Nat
 pp : Nat → Nat × Nat
 pl : Nat → Prop
structure Fr (C : Ctx) (w : World) : Prop where
 os : w.os = C.w0.os
 tape : w.tape = C.w0.tape
 output : w.output = C.w0.output
 size : C.w0.heap.size ≤ w.heap.size
 block : ∀ k, k < C.w0.heap.size → ¬ C.lent k → w.heap[k]? = C.w0.heap[k]?
 shape : ∀ (b : Nat) (c : Array Value) (e : TypeId), C.w0.heap[b]? = some (.cells c e (0, 0)) → ∃ c' : Array Value, w.heap[b]? = some (.cells c' e (0, 0)) ∧ c'.size = c.size
 drawn : C.w0.drawn ≤ w.drawn
def Pin (C : Ctx) (E : Env) : Prop := C.np ≤ E.n ∧ ∀ k, k < C.np → (E.g k).isSome = true → E.ρ k = C.pp k ∧ (C.pl k → E.o (C.pp k).1 = some [k])
theorem Pin.mono {C : Ctx} {E E' : Env} (h : Pin C E) (hm : Mono E E') : Pin C E' := by
 refine ⟨Nat.le_trans h.1 hm.n, fun k hk hs => ?_⟩
 obtain ⟨h1, h2, h3, _⟩ := hm.ref k (Nat.lt_of_lt_of_le hk h.1) hs
 obtain ⟨g1, g2⟩ := h.2 k hk h1
 rw [g1] at h2 h3
 exact ⟨h2, fun ho => h3 (g2 ho)⟩
def BY : List (Int × Int) → List MapEntry → Prop
 | [], [] => True
 | (k, v) :: m, e :: es => e.key = .int .i64 k ∧ e.val = .int .i64 v ∧ BY m es
 | _, _ => False
def ObR (E : Env) (i : Nat) : Obj → Prop
 | ⟨true, cs⟩ => (eG cs = false ∧ ∃ c e, E.w.heap[(E.ρ i).1]? = some (.cells c e (0, 0)) ∧ (E.ρ i).2 = 0 ∧ E.o (E.ρ i).1 = some [i] ∧ Rrow E .none (E.ρ i).1 0 0 cs) ∨
   ∃ m es k, cs = [.bp (kI m)] ∧ E.w.heap[(E.ρ i).1]? = some (.map es k) ∧ E.o (E.ρ i).1 = some [i] ∧ BY m es.toList
 | ⟨false, cs⟩ => cs = [] ∨ ∃ c e, E.w.heap[(E.ρ i).1]? = some (.cells c e (0, 0)) ∧ E.o (E.ρ i).1 = some [i] ∧ Rrow E.bare (.at [i]) (E.ρ i).1 (E.ρ i).2 0 cs
structure Rel (C : Ctx) (E : Env) (s : St) (a : Act) : Prop where
 size : a.tmps.size = s.N
 nd : a.defers = []
 slot : ∀ k, Rv E .none (lk s.t k) (a.tmps.getD k undef)
 g : E.g = s.ob
 n : E.n = s.g.length
 ob : ∀ i ob, s.ob i = some ob → ObR E i ob
 okb : E.okb = fun b => E.o b = none
 lab : ∀ b p, E.o b = some p → b < E.w.heap.size ∧ (p = [] ∨ C.w0.heap.size ≤ b ∨ C.lent b)
 fr : Fr C E.w
 old : ∀ b, b < C.w0.heap.size → ¬ C.lent b → E.o b = C.o0 b
 pin : Pin C E
theorem lT {E : Env} {i : Nat} {cs : List V} (h : ObR E i ⟨true, cs⟩) (hm : eG cs = false) : ∃ c e, E.w.heap[(E.ρ i).1]? = some (.cells c e (0, 0)) ∧ (E.ρ i).2 = 0 ∧ E.o (E.ρ i).1 = some [i] ∧ Rrow E .none (E.ρ i).1 0 0 cs := by
 rcases h with ⟨_, h⟩ | ⟨m, es, k, rfl, _⟩
 ·exact h
 ·cases hm
theorem RS {E : Env} {i : Nat} {cs : List V} (h : ObR E i ⟨true, cs⟩) : E.o (E.ρ i).1 = some [i] := by
 rcases h with ⟨_, _, _, _, _, h, _⟩ | ⟨m, es, k, _, _, h, _⟩ <;> exact h
theorem cV (b off n : Nat) : (⟨b, off, none⟩ : Addr).add n = ⟨b, off + n, none⟩ := by
 unfold Addr.add
 split
 ·rename_i h
  simp [h]
 ·rfl
theorem bR {E : Env} : ∀ {m : Md} {b off j : Nat} {cs : List V}, Rrow E m b off j cs → ∀ k c, cs[k]? = some c → ∃ v, E.w.cell? ⟨b, off + k, none⟩ = some v ∧ Rv E (m.child (j + k)) c v
 | m, b, off, j, c :: cs, ⟨h, hs⟩, 0, c', hk => by
  simp at hk
  subst hk
  exact h
 | m, b, off, j, c :: cs, ⟨h, hs⟩, k + 1, c', hk => by
  obtain ⟨v, hv, hr⟩ := bR hs k c' (by simpa using hk)
  exact ⟨v, by rw [← hv]; congr 2; omega, by rw [show j + (k + 1) = j + 1 + k from by omega]; exact hr⟩
 | m, b, off, j, [], _, k, c', hk => by simp at hk
theorem cD {E : Env} : ∀ {m : Md} {b off j : Nat} {cs : List V}, (∀ k c, cs[k]? = some c → ∃ v, E.w.cell? ⟨b, off + k, none⟩ = some v ∧ Rv E (m.child (j + k)) c v) → Rrow E m b off j cs
 | m, b, off, j, [], _ => trivial
 | m, b, off, j, c :: cs, h => by
  refine ⟨h 0 c rfl, cD fun k c' hk => ?_⟩
  obtain ⟨v, hv, hr⟩ := h (k + 1) c' (by simpa using hk)
  exact ⟨v, by rw [← hv]; congr 2; omega, by rw [show j + 1 + k = j + (k + 1) from by omega]; exact hr⟩
theorem jY {E : Env} {b off j d : Nat} {cs : List V} (h : Rrow E .none b off j cs) : Rrow E .none b (off + d) 0 (cs.drop d) :=
 cD fun k c hk => by
  rw [List.getElem?_drop] at hk
  obtain ⟨v, hv, hr⟩ := bR h (d + k) c hk
  exact ⟨v, by rw [← hv]; congr 2; omega, hr⟩
theorem pO {E : Env} {m : Md} {b off j d : Nat} {cs : List V} (h : Rrow E m b off j cs) : Rrow E m b off j (cs.take d) :=
 cD fun k c hk => by
  rw [List.getElem?_take] at hk
  split at hk
  ·exact bR h k c hk
  ·cases hk
theorem e8 {cs : List V} {off n : Nat} {r : List V} (h : dP cs off n = some r) : off + n ≤ cs.length ∧ r = (cs.drop off).take n ∧ r.length = n := by
 unfold dP at h
 cases hb : Nat.ble (off + n) cs.length with
 | false => rw [hb] at h; simp at h
 | true =>
  rw [hb] at h
  simp at h
  have := Nat.ble_eq ▸ hb
  subst h
  have hle : off + n ≤ cs.length := Nat.le_of_ble_eq_true hb
  exact ⟨hle, rfl, by simp; omega⟩
theorem yZ {E : Env} : ∀ {b off j : Nat} {cs : List V}, Rrow E .none b off j cs → ∃ xs : List Value, xs.length = cs.length ∧ (∀ k v, xs[k]? = some v → E.w.cell? ⟨b, off + k, none⟩ = some v) ∧ Rvs E .none cs xs
 | b, off, j, [], _ => ⟨[], rfl, fun k v h => by simp at h, trivial⟩
 | b, off, j, c :: cs, ⟨⟨v, hv, hr⟩, hs⟩ => by
  obtain ⟨xs, hl, hc, hx⟩ := yZ hs
  refine ⟨v :: xs, by simp [hl], fun k u hk => ?_, hr, hx⟩
  cases k with
  | zero => simp at hk; subst hk; exact hv
  | succ k => rw [← hc k u (by simpa using hk)]; congr 2; omega
theorem gF {E : Env} : ∀ {m : Md} {cs : List V} {xs : List Value}, Rvs E m cs xs → cs.length = xs.length
 | m, [], [], _ => rfl
 | m, c :: cs, x :: xs, h => by simp [gF h.2]
 | m, [], _ :: _, h => h.elim
 | m, _ :: _, [], h => h.elim
theorem gE {E : Env} : ∀ {cs : List V} {xs : List Value}, Rvs E .none cs xs → ∀ (k : Nat) (c : V), cs[k]? = some c → ∃ x, xs[k]? = some x ∧ Rv E .none c x
 | c :: cs, x :: xs, h, 0, c', hk => by simp at hk; subst hk; exact ⟨x, rfl, h.1⟩
 | c :: cs, x :: xs, h, k + 1, c', hk => by
  obtain ⟨x', hx, hr⟩ := gE (cs := cs) (xs := xs) h.2 k c' (by simpa using hk)
  exact ⟨x', by simpa using hx, hr⟩
 | [], [], h, k, c', hk => by simp at hk
 | [], _ :: _, h, k, c', hk => by simp at hk
 | _ :: _, [], h, k, c', hk => h.elim
theorem D0 {E : Env} {m : Md} {v : V} {x : Value} (h : Rv E m v x) (hv : vM v = true) (hm : ∀ k, m ≠ .top k) : Rv E .none v x := by
 have hp : m.part = .none := by cases m <;> simp_all [Md.part]
 cases v <;> simp_all [Rv, vM, Md.part]
theorem eO (E : Env) : Mono E E := ⟨Nat.le_refl _, fun _ _ h => ⟨h, rfl⟩, Nat.le_refl _, fun _ _ h => ⟨h, rfl, id, fun c e h => ⟨c, h, rfl⟩⟩, fun _ _ _ h => ⟨h, rfl⟩⟩
theorem lH (E : Env) (q : List Nat) : Kept E E q := fun _ _ h => ⟨h, rfl⟩
theorem Mono.ofBare (E : Env) : Mono E.bare E := ⟨Nat.le_refl _, fun _ _ h => ⟨h, rfl⟩, Nat.zero_le _, fun _ h _ => absurd h (Nat.not_lt_zero _), fun _ _ h _ => absurd h (Nat.not_lt_zero _)⟩
theorem eM (E E' : Env) : KeptM E E' .none := fun q hq => by cases hq
theorem i6 (E E' : Env) : VY E E' .none := fun k j hq _ => by cases hq
theorem Rv.slot {E E' : Env} (hm : Mono E E') {v : V} {x : Value} (h : Rv E .none v x) : Rv E' .none v x := Rv.mono hm (eM _ _) (i6 _ _) h
theorem Rv.unbare {E : Env} {m : Md} {v : V} {x : Value} (h : Rv E.bare m v x) : Rv E m v x :=
 Rv.mono (Mono.ofBare E) (fun q _ b r hb => ⟨hb, rfl⟩) (fun k j _ _ b r hb => ⟨hb, rfl⟩) h
theorem Rrow.unbare {E : Env} {m : Md} {b off j : Nat} {cs : List V} (h : Rrow E.bare m b off j cs) : Rrow E m b off j cs :=
 Rrow.mono (Mono.ofBare E) (fun q _ b r hb => ⟨hb, rfl⟩) rfl h
theorem k8 {E : Env} {m m' : Md} {v : V} {x : Value} (hf : fT v = true) (h : Rv E m v x) : Rv E.bare m' v x := by
 cases v <;> simp only [fT, reduceCtorEq] at hf <;> exact h
def Moved (E E' : Env) (q q' : List Nat) : Prop := ∀ b r, E.o b = some (q ++ r) → E'.o b = some (q' ++ r) ∧ E'.w.heap[b]? = E.w.heap[b]?
theorem Moved.child {E E' : Env} {q q' : List Nat} (h : Moved E E' q q') (j : Nat) : Moved E E' (q ++ [j]) (q' ++ [j]) := fun b r hb => by
 have := h b ([j] ++ r) (by rw [← List.append_assoc]; exact hb)
 rw [← List.append_assoc] at this
 exact this
mutual
theorem Rv.move : ∀ {E E' : Env} (hm : Mono E E') {q q' : List Nat} {v : V} {x : Value}, Moved E E' q q' → Rv E (.at q) v x → Rv E' (.at q') v x
 | E, E', hm, q, q', .tr sz n cs, x, hk, h => by
  obtain ⟨A, cap, rfl, hc, hl, hr⟩ := h
  refine ⟨A, cap, rfl, hc, hl, ?_⟩
  rcases hr with hr | ⟨b, off, p, c, e, hA, hq, ho, hh, hs, hrow⟩
  ·exact .inl hr
  ·simp only [Md.leaf, Option.some.injEq] at hq
   subst hq
   obtain ⟨h1, h2⟩ := hk b [] (by simpa using ho)
   exact .inr ⟨b, off, q', c, e, hA, rfl, by simpa using h1, h2.trans hh, hs, Rrow.move hm.bare (E := E.bare) (E' := E'.bare) hk h2 hrow⟩
 | E, E', hm, q, q', .sc v, x, hk, h => h
 | E, E', hm, q, q', .ro n cs, x, hk, h => Rv.mono (v := .ro n cs) (x := x) hm (m := .none) (eM _ _) (i6 _ _) h
 | E, E', hm, q, q', .own i sz off n lo hi, x, hk, h => Rv.mono (v := .own i sz off n lo hi) (x := x) hm (m := .none) (eM _ _) (i6 _ _) h
 | E, E', hm, q, q', .sub i j, x, hk, h => Rv.mono (v := .sub i j) (x := x) hm (m := .none) (eM _ _) (i6 _ _) h
 | E, E', hm, q, q', .ptr i off, x, hk, h => Rv.mono (v := .ptr i off) (x := x) hm (m := .none) (eM _ _) (i6 _ _) h
 | E, E', hm, q, q', .bp cs, x, hk, h => by
  obtain ⟨b, off, p, c, e, rfl, hq, ho, hh, hne, hrow⟩ := h
  simp only [Md.leaf, Option.some.injEq] at hq
  subst hq
  obtain ⟨h1, h2⟩ := hk b [] (by simpa using ho)
  exact ⟨b, off, q', c, e, rfl, rfl, by simpa using h1, h2.trans hh, hne, Rrow.move hm.bare (E := E.bare) (E' := E'.bare) hk h2 hrow⟩
 | E, E', hm, q, q', .mref i, x, hk, h => Rv.mono (v := .mref i) (x := x) hm (m := .none) (eM _ _) (i6 _ _) h
 | E, E', hm, q, q', .sp i j off, x, hk, h => Rv.mono (v := .sp i j off) (x := x) hm (m := .none) (eM _ _) (i6 _ _) h
 | E, E', hm, q, q', .rp cs, x, hk, h => Rv.mono (v := .rp cs) (x := x) hm (m := .none) (eM _ _) (i6 _ _) h
 | E, E', hm, q, q', .agg cs, x, hk, h => Rv.mono (v := .agg cs) hm (m := .none) (eM _ _) (i6 _ _) h
 | E, E', hm, q, q', .tup cs, x, hk, h => Rv.mono (v := .tup cs) hm (m := .none) (eM _ _) (i6 _ _) h
 | E, E', hm, q, q', .fn f cs, x, hk, h => Rv.mono (v := .fn f cs) hm (m := .none) (eM _ _) (i6 _ _) h
 | E, E', hm, q, q', .any, x, hk, h => trivial
theorem Rrow.move : ∀ {E E' : Env} (hm : Mono E E') {q q' : List Nat} {b off j : Nat} {cs : List V}, Moved E E' q q' → E'.w.heap[b]? = E.w.heap[b]? → Rrow E (.at q) b off j cs → Rrow E' (.at q') b off j cs
 | E, E', hm, q, q', b, off, j, [], _, _, _ => trivial
 | E, E', hm, q, q', b, off, j, c :: cs, hk, hb, h => by
  obtain ⟨⟨v, hv, hr⟩, hs⟩ := h
  exact ⟨⟨v, (dQ hb).trans hv, Rv.move hm (hk.child j) hr⟩, Rrow.move hm hk hb hs⟩
end
theorem JC : ∀ {i j : Nat} {cs : List V} {k : Nat} {v : V}, (u7 i j cs)[k]? = some v → ∃ c, cs[k]? = some c ∧ v = a1A i (j + k) c
 | i, j, c :: cs, 0, v, h => by simp [u7] at h; exact ⟨c, rfl, h.symm⟩
 | i, j, c :: cs, k + 1, v, h => by
  obtain ⟨c', h1, h2⟩ := JC (cs := cs) (i := i) (j := j + 1) (k := k) (by simpa [u7] using h)
  exact ⟨c', by simpa using h1, by rw [h2]; congr 1; omega⟩
 | i, j, [], k, v, h => by simp [u7] at h
end Go.Proofs.YtboolngaahifdaaGreatD
namespace Go.Proofs.YtboolngaahifdaaGreatD
open Go
def iS (P : Program) (ti : TI) : TypeDesc → Prop
 | .bool => ti.str = false ∧ ti.agg = false ∧ ti.fields = [] ∧ ti.elem = none ∧ ti.kind = none ∧ ti.boo = true
 | .struct fs => ti.str = false ∧ ti.agg = true ∧ fs.toList.map (·.offset) = ti.fields ∧ fs.toList.map (fun f => P.cellsOf f.type) = ti.fsz ∧ (∀ f ∈ fs.toList, ∃ i, P.info? f.type = some i ∧ i.size ≠ 0) ∧ ti.elem = none ∧ ti.kind = none ∧ ti.boo = false
 | .array n e => ti.str = false ∧ ti.agg = true ∧ ti.fields = [] ∧ ti.elem = none ∧ ti.kind = none ∧ ti.boo = false ∧ ti.fsz = [n, e]
 | .slice e => ti.str = false ∧ ti.agg = false ∧ ti.fields = [] ∧ ti.elem = some e ∧ ti.kind = none ∧ ti.boo = false
 | .int k => ti.str = false ∧ ti.agg = false ∧ ti.fields = [] ∧ ti.elem = none ∧ ti.kind = some k ∧ ti.boo = false
 | .string => ti.str = true ∧ ti.agg = false ∧ ti.fields = [] ∧ ti.elem = none ∧ ti.kind = none ∧ ti.boo = false
 | _ => ti.str = false ∧ ti.agg = false ∧ ti.fields = [] ∧ ti.elem = none ∧ ti.kind = none ∧ ti.boo = false
structure TIOk (P : Program) (t : TypeId) (ti : TI) : Prop where
 info : ∃ i z, P.info? t = some i ∧ i.size = ti.size ∧ i.bytes = ti.bytes ∧ i.zero = some z ∧ z.cells.toList = ti.zero
 one : ∀ v ∈ ti.zero, v.oneCell' = true
 zlen : ti.zero.length = ti.size
 one1 : ti.agg = false → ti.size = 1
 desc : ∃ d, P.underlying t = some d ∧ iS P ti d
 mp : ti.agg = false → ti.fsz = [1] → ∃ k e i, P.underlying t = some (.map k e) ∧ P.underlying k = some (.int .i64) ∧ P.info? e = some i ∧ i.zero = some (.int .i64 0)
 ft : ∀ fs, P.underlying t = some (.struct fs) → ti.fty = fs.toList.map (·.type)
abbrev fD (P : Program) (Γ : Tab) : Prop := ∀ t ti, Γ t = some ti → TIOk P t ti
section
variable {P : Program} {Γ : Tab} {C : Ctx} {E : Env} {s : St} {a : Act} {o : Oper} {next : Act → World → Prop} {Q : Exit → Act → World → Prop}
theorem aM {t : TypeId} {d : TypeDesc} (h : P.underlying t = some d) (w : World) : (underlying t).run P w = .ok d w := by
 simp [underlying, h]
theorem dI {t : TypeId} {i : TypeInfo} (h : P.info? t = some i) (w : World) : (typeInfo t).run P w = .ok i w := by
 simp [typeInfo, h]
theorem dZ {t : TypeId} {ti : TI} (h : TIOk P t ti) (w : World) : (sizeOf t).run P w = .ok ti.size w := by
 obtain ⟨i, z, hi, hs, _⟩ := h.info
 simp [sizeOf, dI hi, hs]
theorem AF {t : TypeId} {ti : TI} (h : TIOk P t ti) (w : World) : (isAgg t).run P w = .ok ti.agg w := by
 obtain ⟨d, hd, hk⟩ := h.desc
 cases d <;> simp_all [isAgg, aM hd, iS]
theorem cN (hR : Rel C E s a) (x : Operand) : Rv E .none (ev s x) (a.eval x) := by
 cases x with
 | tmp t => exact hR.slot t
 | global g => trivial
 | func f => exact ⟨[], rfl, trivial⟩
 | const v =>
  show Rv E .none (PL v) v
  unfold PL
  cases v <;> try exact ⟨rfl, rfl⟩
  case agg cs =>
   cases hb : cs.toList.all Value.oneCell' with
   | false => simp only [hb, cond_false]; trivial
   | true =>
    simp only [hb, cond_true]
    refine ⟨cs.toList, by simp, ?_⟩
    have : ∀ l : List Value, l.all Value.oneCell' = true → Rvs E .none (l.map .sc) l := by
     intro l
     induction l with
     | nil => intro _; trivial
     | cons c l ih =>
      intro hl
      simp only [List.all_cons, Bool.and_eq_true] at hl
      exact ⟨⟨rfl, hl.1⟩, ih hl.2⟩
    exact this _ hb
  case tuple => trivial
theorem mA {t : TypeId} {ti : TI} (hT : TIOk P t ti) {E : Env} {b off : Nat} {r : List V} (hrow : Rrow E .none b off 0 r) (hl : r.length = ti.size) (hp : ti.agg = false → r.length = 1) :
  ∃ x, (loadVar t ⟨b, off, none⟩).run P E.w = .ok x E.w ∧ Rv E .none (y8 ti.agg r) x := by
 obtain ⟨xs, hxl, hc, hx⟩ := yZ hrow
 cases hag : ti.agg with
 | true =>
  refine ⟨.agg xs.toArray, ?_, xs, rfl, hx⟩
  have := run_loadCells_list (P := P) E.w ⟨b, off, none⟩ xs (fun j v hj => by rw [cV]; exact hc j v hj)
  simp [loadVar, AF hT, hag, dZ hT, ← hl, ← hxl, this]
 | false =>
  have h1 := hp hag
  match r, h1, hrow with
  | [c], _, ⟨⟨v, hv, hr⟩, _⟩ =>
   refine ⟨v, ?_, hr⟩
   simp [loadVar, AF hT, hag, hv]
theorem nO {x : Sem Value} {v : Value} {w w' : World} (h : x.run P w = .ok v w') : (do pure (Next.value (← x)) : Sem Next).run P w = .ok (.value v) w' := by
 simp [h]
end
end Go.Proofs.YtboolngaahifdaaGreatD
namespace Go.Proofs.YtboolngaahifdaaGreatD
open Go
def cX (P : Program) (C : Ctx) (E : Env) (s : St) (a : Act) (o : Oper) (K : V → St → Prop) : Prop :=
 ∀ (next : Act → World → Prop) (Q : Exit → Act → World → Prop), (∀ v s' E' x, K v s' → Rel C E' s' a → Rv E' .none v x → next (a.put o.dst x) E'.w) → o.upon P a next Q ((execOp a.eval o).run P E.w)
section
variable {P : Program} {Γ : Tab} {C : Ctx} {E : Env} {s : St} {a : Act} {o : Oper} {K : V → St → Prop}
theorem iM {v : V} {s' : St} {E' : Env} {x : Value} (hr : (execOp a.eval o).run P E.w = .ok (.value x) E'.w) (hK : K v s') (hR : Rel C E' s' a) (hx : Rv E' .none v x) : cX P C E s a o K := by
 intro next Q hn
 rw [hr]
 exact hn v s' E' x hK hR hx
theorem iL {v : V} {x : Value} (hR : Rel C E s a) (hr : (execOp a.eval o).run P E.w = .ok (.value x) E.w) (hK : K v s) (hx : Rv E .none v x) : cX P C E s a o K := iM hr hK hR hx
theorem bN {c : Sem Value} {v : V} {x : Value} (hR : Rel C E s a) (he : execOp a.eval o = (do pure (Next.value (← c)))) (hr : c.run P E.w = .ok x E.w) (hK : K v s) (hx : Rv E .none v x) : cX P C E s a o K :=
 iL hR (by rw [he]; exact nO hr) hK hx
theorem a0I {x : Operand} (ho : o.op = .move x) (hR : Rel C E s a) (hK : K (ev s x) s) : cX P C E s a o K :=
 iL hR (by simp only [execOp, ho]; rfl) hK (cN hR x)
theorem V2 {x : Operand} (ho : o.op = .assign x) (hR : Rel C E s a) (hK : K (ev s x) s) : cX P C E s a o K :=
 iL hR (by simp only [execOp, ho]; rfl) hK (cN hR x)
theorem eS (hR : Rel C E s a) {x : Operand} {v : Value} (h : ev s x = .sc v) : a.eval x = v := by
 have := cN hR x
 rw [h] at this
 exact this.1
theorem T1 {c x y : Operand} {t : Bool} (ho : o.op = .pick c x y) (hR : Rel C E s a) (hc : ev s c = .sc (.bool t)) (h1 : t = true → K (ev s x) s) (h2 : t = false → K (ev s y) s) : cX P C E s a o K := by
 have hv := eS hR hc
 cases t with
 | true => exact iL hR (x := a.eval x) (by simp [execOp, ho, hv, asBool]) (h1 rfl) (cN hR x)
 | false => exact iL hR (x := a.eval y) (by simp [execOp, ho, hv, asBool]) (h2 rfl) (cN hR y)
theorem YN {k k' : IntKind} (h : OU k k' = true) : k = k' := by cases k <;> cases k' <;> simp_all [OU]
theorem a0G {op : BinOp} {t t' : TypeId} {x y : Operand} {k k' : IntKind} {m n : Int} (ho : o.op = .binOp op t x y t') (hR : Rel C E s a) (hx : ev s x = .sc (.int k m)) (hy : ev s y = .sc (.int k' n)) (hk : (OU k k' || shB op) = true) (h : U5 op k m n (fun v => K v s)) : cX P C E s a o K := by
 have h1 := eS hR hx
 have h2 := eS hR hy
 by_cases hsh : op = .shr
 ·subst hsh
  have h0 : ¬ n < 0 := by have := h.1; omega
  exact bN hR (c := do eqGuard .shr t x y (a.eval x) (a.eval y); binOp .shr t (a.eval x) (a.eval y)) (by simp only [execOp, ho]) (by rw [h1, h2]; simp [eqGuard, binOp, Op.shift, h0, R2]) h.2 ⟨rfl, rfl⟩
 by_cases hsl : op = .shl
 ·subst hsl
  have h0 : ¬ n < 0 := by have := h.1; omega
  exact bN hR (c := do eqGuard .shl t x y (a.eval x) (a.eval y); binOp .shl t (a.eval x) (a.eval y)) (by simp only [execOp, ho]) (by rw [h1, h2]; simp [eqGuard, binOp, Op.shift, h0, a30]) h.2 ⟨rfl, rfl⟩
 have hk : OU k k' = true := by
  cases op <;> simp_all [shB]
 have hkk := YN hk
 subst hkk
 have key : ∀ z : Value, z.oneCell' = true → (do eqGuard op t x y (.int k m) (.int k n); binOp op t (.int k m) (.int k n) : Sem Value).run P E.w = .ok z E.w → K (.sc z) s → cX P C E s a o K := by
  intro z hz hr hK
  exact bN hR (c := do eqGuard op t x y (a.eval x) (a.eval y); binOp op t (a.eval x) (a.eval y)) (by simp only [execOp, ho]) (by rw [h1, h2]; exact hr) hK ⟨rfl, hz⟩
 cases op <;> simp only [U5] at h <;> first | exact h.elim | exact absurd rfl hsl | skip
 case add => exact key _ rfl (by simp [eqGuard, binOp, Op.intArith]) h
 case sub => exact key _ rfl (by simp [eqGuard, binOp, Op.intArith]) h
 case mul => exact key _ rfl (by simp [eqGuard, binOp, Op.intArith]) h
 case quo => exact key _ rfl (by simp [eqGuard, binOp, Op.intDiv, h.1]) h.2
 case rem => exact key _ rfl (by simp [eqGuard, binOp, Op.intDiv, h.1]) h.2
 case eql => exact key _ rfl (by simp [eqGuard, binOp, Op.intCmp]) h
 case neq => exact key _ rfl (by simp [eqGuard, binOp, Op.intCmp]) h
 case lss => exact key _ rfl (by simp [eqGuard, binOp, Op.intCmp]) h
 case leq => exact key _ rfl (by simp [eqGuard, binOp, Op.intCmp]) h
 case gtr => exact key _ rfl (by simp [eqGuard, binOp, Op.intCmp]) h
 case geq => exact key _ rfl (by simp [eqGuard, binOp, Op.intCmp]) h
 case and => exact key _ rfl (by simp [eqGuard, binOp, Op.intBits, D3]) h
 case or => exact key _ rfl (by simp [eqGuard, binOp, Op.intBits, orI]) h
 case xor => exact key _ rfl (by simp [eqGuard, binOp, Op.intBits, a33]) h
 case shr => exact absurd rfl hsh
theorem a0H {op : BinOp} {t t' : TypeId} {x y : Operand} {m n : ByteArray} (ho : o.op = .binOp op t x y t') (hR : Rel C E s a) (hx : ev s x = .sc (.string m)) (hy : ev s y = .sc (.string n)) (h : U6 op m n (fun v => K v s)) : cX P C E s a o K := by
 have h1 := eS hR hx
 have h2 := eS hR hy
 have key : ∀ z : Value, z.oneCell' = true → (do eqGuard op t x y (.string m) (.string n); binOp op t (.string m) (.string n) : Sem Value).run P E.w = .ok z E.w → K (.sc z) s → cX P C E s a o K := by
  intro z hz hr hK
  exact bN hR (c := do eqGuard op t x y (a.eval x) (a.eval y); binOp op t (a.eval x) (a.eval y)) (by simp only [execOp, ho]) (by rw [h1, h2]; exact hr) hK ⟨rfl, hz⟩
 cases op <;> simp only [U6] at h <;> try exact h.elim
 case add =>
  refine key _ rfl ?_ h.2
  have hn : ¬ (((m.size + n.size : Nat) : Int) > IntKind.i64.max) := by
   have : IntKind.i64.max = 9223372036854775807 := by decide
   rw [this]
   have := h.1
   omega
  simp only [eqGuard, binOp, Op.stringOp, if_neg hn]
  simp
 case eql => exact key _ rfl (by simp [eqGuard, binOp, Op.stringOp]) h
 case neq => exact key _ rfl (by simp [eqGuard, binOp, Op.stringOp]) h
theorem T0 {op : BinOp} {t t' : TypeId} {x y : Operand} {m n : Bool} (ho : o.op = .binOp op t x y t') (hR : Rel C E s a) (hu : P.underlying t = some .bool) (hx : ev s x = .sc (.bool m)) (hy : ev s y = .sc (.bool n)) (h : (op = .eql ∧ K (.sc (.bool (m == n))) s) ∨ (op = .neq ∧ K (.sc (.bool (m != n))) s)) : cX P C E s a o K := by
 have h1 := eS hR hx
 have h2 := eS hR hy
 have he : ∀ w : World, (Op.equal t (.bool m) (.bool n)).run P w = .ok (m == n) w := by
  intro w
  have key : ∀ d : Nat, (Op.equalIn (d + 1) t (.bool m) (.bool n)).run P w = .ok (m == n) w := fun d => by simp [Op.equalIn, aM hu]
  exact key 9999
 rcases h with ⟨rfl, hK⟩ | ⟨rfl, hK⟩
 ·exact bN hR (c := do eqGuard .eql t x y (a.eval x) (a.eval y); binOp .eql t (a.eval x) (a.eval y)) (by simp only [execOp, ho]) (by rw [h1, h2]; simp [eqGuard, binOp, he]) hK ⟨rfl, rfl⟩
 ·exact bN hR (c := do eqGuard .neq t x y (a.eval x) (a.eval y); binOp .neq t (a.eval x) (a.eval y)) (by simp only [execOp, ho]) (by rw [h1, h2]; simp [eqGuard, binOp, he]; cases m <;> cases n <;> rfl) hK ⟨rfl, rfl⟩
theorem YA {op : BinOp} {t t' : TypeId} {ti : TI} {e : Nat} {x y : Operand} {A : Option Addr} {n c : Nat} (ho : o.op = .binOp op t x y t') (hR : Rel C E s a) (hT : TIOk P t ti) (he : ti.elem = some e) (hx : a.eval x = .slice A n c) (hy : a.eval y = .slice none 0 0) (h : QH op (some e) A.isNone (fun v => K v s)) : cX P C E s a o K := by
 have hu : ∃ e', P.underlying t = some (.slice e') := by
  obtain ⟨d, hd, hk⟩ := hT.desc
  cases d <;> simp_all [iS]
 obtain ⟨e', hu⟩ := hu
 have hq : ∀ w : World, (Op.equal t (.slice A n c) (.slice none 0 0)).run P w = .ok A.isNone w := by
  intro w
  have key : ∀ d : Nat, (Op.equalIn (d + 1) t (.slice A n c) (.slice none 0 0)).run P w = .ok A.isNone w := fun d => by
   cases A <;> simp [Op.equalIn, aM hu]
  exact key 9999
 cases op <;> simp only [QH] at h <;> try exact h.elim
 ·exact bN hR (c := do eqGuard .eql t x y (a.eval x) (a.eval y); binOp .eql t (a.eval x) (a.eval y)) (by simp only [execOp, ho]) (by rw [hx, hy]; simp [eqGuard, binOp, hq]) h ⟨rfl, rfl⟩
 ·exact bN hR (c := do eqGuard .neq t x y (a.eval x) (a.eval y); binOp .neq t (a.eval x) (a.eval y)) (by simp only [execOp, ho]) (by rw [hx, hy]; simp [eqGuard, binOp, hq]) h ⟨rfl, rfl⟩
theorem a2K {t : TypeId} {x : Operand} {b : Bool} (ho : o.op = .unOp .not t x) (hR : Rel C E s a) (hx : ev s x = .sc (.bool b)) (h : K (.sc (.bool (!b))) s) : cX P C E s a o K :=
 bN hR (c := Op.unary .not (a.eval x)) (by simp only [execOp, ho]) (by rw [eS hR hx]; simp [Op.unary]) h ⟨rfl, rfl⟩
theorem a2J {t : TypeId} {x : Operand} {k : IntKind} {n : Int} (ho : o.op = .unOp .neg t x) (hR : Rel C E s a) (hx : ev s x = .sc (.int k n)) (h : K (.sc (.int k (k.wrap (0 - n)))) s) : cX P C E s a o K :=
 bN hR (c := Op.unary .neg (a.eval x)) (by simp only [execOp, ho]) (by rw [eS hR hx]; simp [Op.unary, Op.intArith]) h ⟨rfl, rfl⟩
theorem QN {x : Operand} {ix : Nat} {vs : List V} {v : V} (ho : o.op = .extract x ix) (hR : Rel C E s a) (hx : ev s x = .tup vs) (hv : vs[ix]? = some v) (h : K v s) : cX P C E s a o K := by
 have := cN hR x
 rw [hx] at this
 obtain ⟨xs, he, hs⟩ := this
 obtain ⟨z, hz, hr⟩ := gE hs ix v hv
 exact bN hR (c := Instr.extract (a.eval x) ix) (by simp only [execOp, ho]) (by rw [he]; simp [Instr.extract, hz]) h hr
theorem CA {x : Operand} {i off : Nat} (ho : o.op = .nilCheck x) (hR : Rel C E s a) (hx : ev s x = .ptr i off) (hl : (s.ob i).isSome = true) (h : K (.ptr i off) s) : cX P C E s a o K := by
 have := cN hR x
 rw [hx] at this
 obtain ⟨_, ad, hv, _⟩ := this
 refine bN hR (c := pure (a.eval x)) (x := a.eval x) ?_ (by simp) h (by have := cN hR x; rwa [hx] at this)
 simp only [execOp, ho, hv]
 rfl
theorem F4 {x : Operand} {cs : List V} (ho : o.op = .nilCheck x) (hR : Rel C E s a) (hx : ev s x = .rp cs) (h : K (.rp cs) s) : cX P C E s a o K := by
 have := cN hR x
 rw [hx] at this
 obtain ⟨b, off, hv, hr⟩ := this
 refine bN hR (c := pure (a.eval x)) (x := a.eval x) ?_ (by simp) h ⟨b, off, hv, hr⟩
 simp only [execOp, ho, hv]
 rfl
theorem a06 (hR : Rel C E s a) {v : V} {x : Value} {n : Nat} (h : GY s v = some n) (hv : Rv E .none v x) : (∃ A cap, x = .slice A n cap) ∨ ∃ t, x = .string t ∧ t.size = n := by
 cases v <;> simp only [GY, Option.some.injEq, reduceCtorEq] at h
 case sc v =>
  obtain ⟨rfl, _⟩ := hv
  cases x <;> simp only [GY, Option.some.injEq, reduceCtorEq] at h
  ·exact .inr ⟨_, rfl, h⟩
  ·subst h; exact .inl ⟨_, _, rfl⟩
 case ro m cs =>
  subst h
  obtain ⟨A, cap, rfl, _⟩ := hv
  exact .inl ⟨_, _, rfl⟩
 case own i sz off m lo hi =>
  subst h
  obtain ⟨_, A, cap, rfl, _⟩ := hv
  exact .inl ⟨_, _, rfl⟩
 case sub i j =>
  cases hcs : s.ob i with
  | none => rw [hcs] at h; cases h
  | some ob =>
  obtain ⟨bx, cs⟩ := ob
  cases bx with
  | true => rw [hcs] at h; cases h
  | false =>
  rw [hcs] at h
  simp only at h
  cases hr : cs[j]? with
  | none => rw [hr] at h; cases h
  | some c =>
  rw [hr] at h
  cases c <;> simp only [Option.some.injEq, reduceCtorEq] at h
  rename_i sz m r
  subst h
  have hx := hv.2.2 ⟨cs, sz, m, r, by rw [hR.g]; exact hcs, hr⟩
  have hob := hR.ob i _ hcs
  rcases hob with h0 | ⟨c, e, _, _, hrow⟩
  ·rw [h0] at hr; simp at hr
  ·obtain ⟨u, hu, hru⟩ := bR hrow j _ hr
   have : E.bare.w = E.w := rfl
   rw [this] at hu
   rw [hu] at hx
   cases hx
   obtain ⟨A, cap, rfl, _⟩ := hru
   exact .inl ⟨_, _, rfl⟩
end
end Go.Proofs.YtboolngaahifdaaGreatD
namespace Go.Proofs.YtboolngaahifdaaGreatD
open Go
theorem eK : ∀ {g : List (Option Obj)} {i : Nat} {ob : Obj}, aX g i = some ob → i < g.length
 | [], i, ob, h => by simp [aX] at h
 | _ :: _, 0, ob, h => by simp
 | _ :: r, i + 1, ob, h => by have := eK (g := r) (i := i) h; simp; omega
section
variable {P : Program} {Γ : Tab} {C : Ctx} {E : Env} {s : St} {a : Act} {o : Oper} {K : V → St → Prop}
theorem dA (hR : Rel C E s a) {i : Nat} {ob : Obj} (h : s.ob i = some ob) : (E.g i).isSome = true := by rw [hR.g, h]; rfl
theorem C6 (hR : Rel C E s a) {i : Nat} {ob : Obj} (h : s.ob i = some ob) : i < E.n := by rw [hR.n]; exact eK h
theorem w3 (hR : Rel C E s a) {x : Operand} {i off : Nat} {ob : Obj} (hx : ev s x = .ptr i off) (h : s.ob i = some ob) : a.eval x = .pointer (some ⟨(E.ρ i).1, (E.ρ i).2 + off, none⟩) := by
 have := cN hR x
 rw [hx] at this
 obtain ⟨_, ad, hv, hl⟩ := this
 rw [hv, hl (dA hR h)]
theorem O7 {t : TypeId} {ti : TI} {x : Operand} {i off : Nat} {cs r : List V} (ho : o.op = .load t x) (hR : Rel C E s a) (hT : TIOk P t ti) (hx : ev s x = .ptr i off) (hob : s.ob i = some ⟨true, cs⟩) (hnm : eG cs = false) (hr : dP cs off ti.size = some r) (h : K (y8 ti.agg r) s) : cX P C E s a o K := by
 have hv := w3 hR hx hob
 obtain ⟨c, e, hh, h0, hlab, hrow⟩ := lT (hR.ob i _ hob) hnm
 obtain ⟨hle, hreq, hlen⟩ := e8 hr
 have hrow' : Rrow E .none (E.ρ i).1 (0 + off) 0 r := by rw [hreq]; exact pO (jY hrow)
 rw [Nat.zero_add] at hrow'
 obtain ⟨z, hz, hrz⟩ := mA hT hrow' hlen (fun hf => by rw [hlen]; exact hT.one1 hf)
 refine bN hR (c := Instr.loadAt t (a.eval x)) (by simp only [execOp, ho]) ?_ h hrz
 rw [hv, h0, Nat.zero_add]
 simpa [Instr.loadAt, Instr.sureAddr] using hz
theorem AQ : ∀ (i j : Nat) (cs : List V), (u7 i j cs).length = cs.length
 | _, _, [] => rfl
 | i, j, _ :: cs => by simp [u7, AQ i (j + 1) cs]
theorem O8 {t : TypeId} {ti : TI} {x : Operand} {i off : Nat} {cs r : List V} (ho : o.op = .load t x) (hR : Rel C E s a) (hT : TIOk P t ti) (hx : ev s x = .ptr i off) (hob : s.ob i = some ⟨false, cs⟩) (hr : dP cs off ti.size = some r) (h : K (y8 ti.agg (u7 i off r)) s) (hz0 : ti.size ≠ 0) : cX P C E s a o K := by
 have hv := w3 hR hx hob
 obtain ⟨hle, hreq, hlen⟩ := e8 hr
 rcases hR.ob i _ hob with h0 | ⟨c, e, hh, hlab, hrow⟩
 ·rw [h0] at hle; simp at hle; omega
 ·have hrow' : Rrow E .none (E.ρ i).1 ((E.ρ i).2 + off) 0 (u7 i off r) := by
   refine cD fun k v hk => ?_
   obtain ⟨c', hc', rfl⟩ := JC hk
   have hck : cs[off + k]? = some c' := by
    rw [hreq, List.getElem?_take] at hc'
    split at hc'
    ·rwa [List.getElem?_drop] at hc'
    ·cases hc'
   obtain ⟨u, hu, hru⟩ := bR hrow (off + k) c' hck
   refine ⟨u, by rw [← Nat.add_assoc] at hu; exact hu, ?_⟩
   cases htr : vM c' with
   | true =>
    have : a1A i (off + k) c' = c' := by cases c' <;> simp_all [a1A, vM]
    rw [this]
    exact D0 (Rv.unbare hru) htr (fun k hk => by cases hk)
   | false =>
    cases c' <;> simp [vM] at htr
    ·rename_i sz n rr
     refine ⟨C6 hR hob, ?_, fun _ => hu⟩
     obtain ⟨A, cap, rfl, _⟩ := hru
     exact ⟨_, _, _, rfl⟩
    ·trivial
  obtain ⟨z, hz, hrz⟩ := mA hT hrow' (by rw [AQ, hlen]) (fun hf => by rw [AQ, hlen]; exact hT.one1 hf)
  refine bN hR (c := Instr.loadAt t (a.eval x)) (by simp only [execOp, ho]) ?_ h hrz
  rw [hv]
  simpa [Instr.loadAt, Instr.sureAddr] using hz
theorem QO {t : TypeId} {ti : TI} {x : Operand} {cs r : List V} (ho : o.op = .load t x) (hR : Rel C E s a) (hT : TIOk P t ti) (hx : ev s x = .rp cs) (hr : dP cs 0 ti.size = some r) (h : K (y8 ti.agg r) s) : cX P C E s a o K := by
 have := cN hR x
 rw [hx] at this
 obtain ⟨b, off, hv, hok, hb, hrow⟩ := this
 obtain ⟨hle, hreq, hlen⟩ := e8 hr
 have hrow' : Rrow E .none b off 0 r := by rw [hreq]; exact pO (by simpa using jY (d := 0) hrow.unbare)
 obtain ⟨z, hz, hrz⟩ := mA hT hrow' hlen (fun hf => by rw [hlen]; exact hT.one1 hf)
 refine bN hR (c := Instr.loadAt t (a.eval x)) (by simp only [execOp, ho]) ?_ h hrz
 rw [hv]
 simpa [Instr.loadAt, Instr.sureAddr] using hz
theorem v7 (hR : Rel C E s a) {i j sz n : Nat} {cs r : List V} (hob : s.ob i = some ⟨false, cs⟩) (hj : cs[j]? = some (.tr sz n r)) : ∃ A cap, E.w.cell? ⟨(E.ρ i).1, (E.ρ i).2 + j, none⟩ = some (.slice A n cap) ∧ n ≤ cap ∧ r.length = n * sz ∧
  (cap = 0 ∨ ∃ b off c e, A = some ⟨b, off, none⟩ ∧ E.o b = some [i, j] ∧ E.w.heap[b]? = some (.cells c e (0, 0)) ∧ off + cap * sz ≤ c.size ∧ Rrow E.bare (.at [i, j]) b off 0 r) := by
 rcases hR.ob i _ hob with h0 | ⟨c, e, hh, hlab, hrow⟩
 ·rw [h0] at hj; simp at hj
 ·obtain ⟨u, hu, hru⟩ := bR hrow j _ hj
  obtain ⟨A, cap, rfl, hc, hl, hr⟩ := hru
  refine ⟨A, cap, hu, hc, hl, ?_⟩
  rcases hr with hr | ⟨b, off, q, c', e', hA, hq, ho, hh', hs, hrw⟩
  ·exact .inl hr
  ·simp only [Md.child, Md.leaf, Option.some.injEq, List.cons_append, List.nil_append, Nat.zero_add] at hq
   subst hq
   exact .inr ⟨b, off, c', e', hA, ho, hh', hs, hrw⟩
theorem n8 (hR : Rel C E s a) {i j sz n : Nat} {cs r : List V} (hob : s.ob i = some ⟨false, cs⟩) (hj : cs[j]? = some (.tr sz n r)) : hZ E.g i j := ⟨cs, sz, n, r, by rw [hR.g]; exact hob, hj⟩
theorem a1I (hR : Rel C E s a) {x : Operand} {i j off sz n : Nat} {cs r : List V} (hx : ev s x = .sp i j off) (hob : s.ob i = some ⟨false, cs⟩) (hj : cs[j]? = some (.tr sz n r)) :
  ∃ b d c e, a.eval x = .pointer (some ⟨b, d + off, none⟩) ∧ E.o b = some [i, j] ∧ E.w.heap[b]? = some (.cells c e (0, 0)) ∧ r.length = n * sz ∧ Rrow E.bare (.at [i, j]) b d 0 r := by
 have hv := cN hR x
 rw [hx] at hv
 obtain ⟨_, ad, hv, hl⟩ := hv
 obtain ⟨A, m, cap, hcell, hpos, rfl⟩ := hl (n8 hR hob hj)
 obtain ⟨A', cap', hcell', hc, hrl, hb⟩ := v7 hR hob hj
 rw [hcell] at hcell'
 cases hcell'
 rcases hb with h0 | ⟨b, d, c, e, hA, ho, hh, hs, hrow⟩
 ·omega
 ·cases hA
  exact ⟨b, d, c, e, by rw [hv, cV], ho, hh, hrl, hrow⟩
theorem QP {t : TypeId} {ti : TI} {x : Operand} {i j off sz n : Nat} {cs r q : List V} (ho : o.op = .load t x) (hR : Rel C E s a) (hT : TIOk P t ti) (hx : ev s x = .sp i j off) (hob : s.ob i = some ⟨false, cs⟩) (hj : cs[j]? = some (.tr sz n r)) (hq : dP r off ti.size = some q) (hf : ∀ c ∈ q, fT c = true) (hz0 : ti.size ≠ 0) (h : K (y8 ti.agg q) s) : cX P C E s a o K := by
 obtain ⟨b, d, c, e, hv, hlab, hh, hrl, hrow⟩ := a1I hR hx hob hj
 obtain ⟨hle, hreq, hlen⟩ := e8 hq
 have hrow' : Rrow E .none b (d + off) 0 q := by
  refine cD fun k v hk => ?_
  have hck : r[off + k]? = some v := by
   rw [hreq, List.getElem?_take] at hk
   split at hk
   ·rwa [List.getElem?_drop] at hk
   ·cases hk
  obtain ⟨u, hu, hru⟩ := bR hrow (off + k) v hck
  have hfl := hf v (List.mem_of_getElem? hk)
  refine ⟨u, by rw [Nat.add_assoc]; exact hu, ?_⟩
  have : vM v = true := by cases v <;> simp_all [fT, vM]
  exact D0 (Rv.unbare hru) this (fun k hk => by cases hk)
 obtain ⟨z, hz, hrz⟩ := mA hT hrow' hlen (fun hf => by rw [hlen]; exact hT.one1 hf)
 refine bN hR (c := Instr.loadAt t (a.eval x)) (by simp only [execOp, ho]) ?_ h hrz
 rw [hv]
 simpa [Instr.loadAt, Instr.sureAddr] using hz
theorem B3 {t : TypeId} {ti : TI} {f d : Nat} (hT : TIOk P t ti) (hf : nth ti.fields f = some d) (b off : Nat) (w : World) :
  (Instr.fieldAt t (.pointer (some ⟨b, off, none⟩)) f).run P w = .ok (.pointer (some ⟨b, off + d, none⟩)) w := by
 obtain ⟨ds, hd, hk⟩ := hT.desc
 cases ds <;> simp only [iS] at hk <;> try (rw [hk.2.2.1] at hf; simp [nth] at hf)
 rename_i fs
 obtain ⟨_, hag, hfs, _, hsz, _⟩ := hk
 unfold nth at hf
 rw [← hfs, List.getElem?_map] at hf
 cases hfi : fs.toList[f]? with
 | none => rw [hfi] at hf; cases hf
 | some fd =>
  rw [hfi] at hf
  simp at hf
  subst hf
  have hfa : fs[f]? = some fd := by simpa using hfi
  obtain ⟨i, hi, hne⟩ := hsz fd (List.mem_of_getElem? hfi)
  simp [Instr.fieldAt, aM hd, hfa, Instr.sureAddr, fieldPlace, sizeOf, dI hi, hne, cV]
theorem A2 {t : TypeId} {ti : TI} {x : Operand} {i off f d : Nat} {ob : Obj} (ho : o.op = .fieldAddr t x f) (hR : Rel C E s a) (hT : TIOk P t ti) (hx : ev s x = .ptr i off) (hob : s.ob i = some ob) (hf : nth ti.fields f = some d) (h : K (.ptr i (off + d)) s) : cX P C E s a o K := by
 refine bN hR (c := Instr.fieldAt t (a.eval x) f) (x := .pointer (some ⟨(E.ρ i).1, (E.ρ i).2 + off + d, none⟩)) (by simp only [execOp, ho]) ?_ h ⟨C6 hR hob, _, rfl, fun _ => by rw [Nat.add_assoc]⟩
 rw [w3 hR hx hob]
 exact B3 hT hf _ _ _
theorem C7 {t : TypeId} {ti : TI} {x : Operand} {cs : List V} {f d : Nat} (ho : o.op = .fieldAddr t x f) (hR : Rel C E s a) (hT : TIOk P t ti) (hx : ev s x = .rp cs) (hf : nth ti.fields f = some d) (h : K (.rp (cs.drop d)) s) : cX P C E s a o K := by
 have := cN hR x
 rw [hx] at this
 obtain ⟨b, off, hv, hok, hb, hrow⟩ := this
 refine bN hR (c := Instr.fieldAt t (a.eval x) f) (x := .pointer (some ⟨b, off + d, none⟩)) (by simp only [execOp, ho]) ?_ h ⟨b, off + d, rfl, hok, hb, jY hrow⟩
 rw [hv]
 exact B3 hT hf _ _ _
theorem Y7 {t ft : TypeId} {ti te : TI} {x : Operand} {cs : List V} {f d : Nat} {c : V} (ho : o.op = .field t x f) (hR : Rel C E s a) (hT : TIOk P t ti) (hx : ev s x = .agg cs) (hf : nth ti.fields f = some d) (hft : nth ti.fty f = some ft) (hE : TIOk P ft te) (hag : te.agg = false) (hc : cs[d]? = some c) (h : K c s) : cX P C E s a o K := by
 have hv := cN hR x
 rw [hx] at hv
 obtain ⟨xs, hv, hs⟩ := hv
 obtain ⟨z, hz, hr⟩ := gE hs d c hc
 obtain ⟨ds, hd, hk⟩ := hT.desc
 cases ds <;> simp only [iS] at hk <;> try (rw [hk.2.2.1] at hf; simp [nth] at hf)
 rename_i fs
 have hfty := hT.ft fs hd
 obtain ⟨_, _, hfs, _, hsz, _⟩ := hk
 unfold nth at hf hft
 rw [← hfs, List.getElem?_map] at hf
 rw [hfty, List.getElem?_map] at hft
 cases hfi : fs.toList[f]? with
 | none => rw [hfi] at hf; cases hf
 | some fd =>
  rw [hfi] at hf hft
  simp at hf hft
  subst hf
  subst hft
  have hfa : fs[f]? = some fd := by simpa using hfi
  have hrun : (Instr.field t (a.eval x) f).run P E.w = .ok z E.w := by
   rw [hv]
   have h2 := AF hE E.w
   rw [hag] at h2
   simp [Instr.field, aM hd, hfa, part, asAgg, h2, hz]
  exact bN hR (c := Instr.field t (a.eval x) f) (by simp only [execOp, ho]) hrun h hr
theorem C8 {t : TypeId} {ti : TI} {x : Operand} {i j off f d : Nat} (ho : o.op = .fieldAddr t x f) (hR : Rel C E s a) (hT : TIOk P t ti) (hx : ev s x = .sp i j off) (hf : nth ti.fields f = some d) (h : K (.sp i j (off + d)) s) : cX P C E s a o K := by
 have hv := cN hR x
 rw [hx] at hv
 obtain ⟨hin, ad, hv, hl⟩ := hv
 obtain ⟨ds, hd, hk⟩ := hT.desc
 cases ds <;> simp only [iS] at hk <;> try (rw [hk.2.2.1] at hf; simp [nth] at hf)
 rename_i fs
 obtain ⟨_, hag, hfs, _, hsz, _⟩ := hk
 unfold nth at hf
 rw [← hfs, List.getElem?_map] at hf
 cases hfi : fs.toList[f]? with
 | none => rw [hfi] at hf; cases hf
 | some fd =>
  rw [hfi] at hf
  simp at hf
  subst hf
  have hfa : fs[f]? = some fd := by simpa using hfi
  obtain ⟨i', hi, hne⟩ := hsz fd (List.mem_of_getElem? hfi)
  have hrun : (Instr.fieldAt t (a.eval x) f).run P E.w = .ok (.pointer (some (ad.add fd.offset))) E.w := by
   rw [hv]
   simp [Instr.fieldAt, aM hd, hfa, Instr.sureAddr, fieldPlace, sizeOf, dI hi, hne]
  refine bN hR (c := Instr.fieldAt t (a.eval x) f) (by simp only [execOp, ho]) hrun h ⟨hin, _, rfl, fun ht => ?_⟩
  obtain ⟨A, n, cap, h1, h2, rfl⟩ := hl ht
  exact ⟨A, n, cap, h1, h2, by rw [Go.Deep.add_add]⟩
theorem f4 {t : TypeId} {ti te : TI} {e : Nat} (hT : TIOk P t ti) (he : ti.elem = some e) : P.underlying t = some (.slice e) := by
 obtain ⟨ds, hd, hk⟩ := hT.desc
 cases ds <;> simp_all [iS]
theorem p6 {t : TypeId} {ti : TI} (hT : TIOk P t ti) (he : ti.str = true) : P.underlying t = some .string := by
 obtain ⟨ds, hd, hk⟩ := hT.desc
 cases ds <;> simp_all [iS]
theorem tD {t e : TypeId} {ti te : TI} (hT : TIOk P t ti) (he : ti.elem = some e) (hE : TIOk P e te) (b off n cap : Nat) (k : IntKind) (i : Int) (h0 : 0 ≤ i ∧ i < n) (w : World) :
  (Instr.indexAt t (.slice (some ⟨b, off, none⟩) n cap) (.int k i)).run P w = .ok (.pointer (some ⟨b, off + i.toNat * te.size, none⟩)) w := by
 simp [Instr.indexAt, asIntOf, aM (f4 (te := te) hT he), dZ hE, h0.1, h0.2, cV]
theorem ME {Γ : Tab} {t : TypeId} {n : Nat} {te : TI} (hΓ : fD P Γ) (h : (Γ t).bind (HP Γ) = some (n, te)) : ∃ e, P.underlying t = some (.array n e) ∧ TIOk P e te := by
 cases ht : Γ t with
 | none => rw [ht] at h; cases h
 | some ti =>
  rw [ht] at h
  simp only [Option.bind_some] at h
  have hT := hΓ _ _ ht
  unfold HP at h
  split at h
  ·rename_i m e hag hf hz
   cases he : Γ e with
   | none => rw [he] at h; cases h
   | some te' =>
    rw [he] at h
    simp only [Option.map_some, Option.some.injEq, Prod.mk.injEq] at h
    obtain ⟨rfl, rfl⟩ := h
    obtain ⟨ds, hd, hk⟩ := hT.desc
    refine ⟨e, ?_, hΓ _ _ he⟩
    cases ds <;> simp only [iS] at hk
    case struct fs =>
     exfalso
     obtain ⟨_, _, h1, h2, _⟩ := hk
     rw [hf] at h1
     have h3 : fs.toList = [] := List.map_eq_nil_iff.1 h1
     rw [h3, hz] at h2
     cases h2
    case array m e' =>
     obtain ⟨_, _, _, _, _, _, h7⟩ := hk
     rw [hz] at h7
     cases h7
     exact hd
    all_goals
     rw [hag] at hk
     simp at hk
  ·cases h
theorem HO {t e n : Nat} {te : TI} (hd : P.underlying t = some (.array n e)) (hE : TIOk P e te) (ad : Addr) (k : IntKind) (i : Int) (h : 0 ≤ i ∧ i < n) (w : World) : (Instr.indexAt t (.pointer (some ad)) (.int k i)).run P w = .ok (.pointer (some (ad.add (i.toNat * te.size)))) w := by
 simp [Instr.indexAt, aM hd, asIntOf, Instr.sureAddr, h, dZ hE]
theorem y5 {Γ : Tab} (hΓ : fD P Γ) {t : TypeId} {te : TI} {x ix : Operand} {q off n : Nat} {ob : Obj} {k : IntKind} {i : Int} (ho : o.op = .indexAddr t x ix) (hR : Rel C E s a) (hT : (Γ t).bind (HP Γ) = some (n, te)) (hx : ev s x = .ptr q off) (hob : s.ob q = some ob) (hi : ev s ix = .sc (.int k i)) (h0 : 0 ≤ i ∧ i < n) (h : K (.ptr q (off + i.toNat * te.size)) s) : cX P C E s a o K := by
 obtain ⟨e, hd, hE⟩ := ME hΓ hT
 refine bN hR (c := Instr.indexAt t (a.eval x) (a.eval ix)) (x := .pointer (some ⟨(E.ρ q).1, (E.ρ q).2 + off + i.toNat * te.size, none⟩)) (by simp only [execOp, ho]) ?_ h ⟨C6 hR hob, _, rfl, fun _ => by rw [Nat.add_assoc]⟩
 rw [w3 hR hx hob, eS hR hi]
 rw [HO hd hE _ _ _ h0, cV]
theorem A4 {Γ : Tab} (hΓ : fD P Γ) {t : TypeId} {te : TI} {x ix : Operand} {cs : List V} {n : Nat} {k : IntKind} {i : Int} (ho : o.op = .indexAddr t x ix) (hR : Rel C E s a) (hT : (Γ t).bind (HP Γ) = some (n, te)) (hx : ev s x = .rp cs) (hi : ev s ix = .sc (.int k i)) (h0 : 0 ≤ i ∧ i < n) (h : K (.rp (cs.drop (i.toNat * te.size))) s) : cX P C E s a o K := by
 obtain ⟨e, hd, hE⟩ := ME hΓ hT
 have := cN hR x
 rw [hx] at this
 obtain ⟨b, off, hv, hok, hb, hrow⟩ := this
 refine bN hR (c := Instr.indexAt t (a.eval x) (a.eval ix)) (x := .pointer (some ⟨b, off + i.toNat * te.size, none⟩)) (by simp only [execOp, ho]) ?_ h ⟨b, off + i.toNat * te.size, rfl, hok, hb, jY hrow⟩
 rw [hv, eS hR hi]
 rw [HO hd hE _ _ _ h0, cV]
theorem C9 {t e : TypeId} {ti te : TI} {x ix : Operand} {n : Nat} {cs : List V} {k : IntKind} {i : Int} (ho : o.op = .indexAddr t x ix) (hR : Rel C E s a) (hT : TIOk P t ti) (he : ti.elem = some e) (hE : TIOk P e te) (hx : ev s x = .ro n cs) (hi : ev s ix = .sc (.int k i)) (h0 : 0 ≤ i ∧ i < n) (hl : cs.length = n * te.size) (hz : te.size ≠ 0) (h : K (.rp (cs.drop (i.toNat * te.size))) s) : cX P C E s a o K := by
 have := cN hR x
 rw [hx] at this
 obtain ⟨A, cap, hv, hc, hr⟩ := this
 have hne : cs ≠ [] := by
  intro h'
  rw [h'] at hl
  simp at hl
  have : n = 0 := by rcases Nat.eq_zero_or_pos n with h1 | h1; exact h1; exact absurd hl.symm (Nat.ne_of_gt (Nat.mul_pos h1 (Nat.pos_of_ne_zero hz)))
  omega
 obtain ⟨b, off, rfl, hok, hb, hrow⟩ := hr hne
 refine bN hR (c := Instr.indexAt t (a.eval x) (a.eval ix)) (by simp only [execOp, ho]) ?_ h ⟨b, off + i.toNat * te.size, rfl, hok, hb, jY hrow⟩
 rw [hv, eS hR hi]
 exact tD hT he hE _ _ _ _ _ _ h0 _
theorem A5 {t e : TypeId} {ti te : TI} {x ix : Operand} {q sz off n lo : Nat} {hi' : Option Nat} {ob : Obj} {k : IntKind} {i : Int} (ho : o.op = .indexAddr t x ix) (hR : Rel C E s a) (hT : TIOk P t ti) (he : ti.elem = some e) (hE : TIOk P e te) (hx : ev s x = .own q sz off n lo hi') (hob : s.ob q = some ob) (hi : ev s ix = .sc (.int k i)) (h0 : 0 ≤ i ∧ i < n) (h : K (.ptr q (off + i.toNat * te.size)) s) : cX P C E s a o K := by
 have := cN hR x
 rw [hx] at this
 obtain ⟨_, A, cap, hv, hnc, hlv⟩ := this
 obtain ⟨hc, hlo, hhi, hr⟩ := hlv (dA hR hob)
 rcases hr with hr | ⟨c, e', rfl, _⟩
 ·omega
 ·refine bN hR (c := Instr.indexAt t (a.eval x) (a.eval ix)) (x := .pointer (some ⟨(E.ρ q).1, (E.ρ q).2 + off + i.toNat * te.size, none⟩)) (by simp only [execOp, ho]) ?_ h ⟨C6 hR hob, _, rfl, fun _ => by rw [Nat.add_assoc]⟩
  rw [hv, eS hR hi]
  exact tD hT he hE _ _ _ _ _ _ h0 _
theorem A6 {t e : TypeId} {ti te : TI} {x ix : Operand} {q j n : Nat} {cs r : List V} {k : IntKind} {i : Int} (ho : o.op = .indexAddr t x ix) (hR : Rel C E s a) (hT : TIOk P t ti) (he : ti.elem = some e) (hE : TIOk P e te) (hx : ev s x = .sub q j) (hob : s.ob q = some ⟨false, cs⟩) (hj : cs[j]? = some (.tr te.size n r)) (hi : ev s ix = .sc (.int k i)) (h0 : 0 ≤ i ∧ i < n) (h : K (.sp q j (i.toNat * te.size)) s) : cX P C E s a o K := by
 have hv := cN hR x
 rw [hx] at hv
 have hcell := hv.2.2 (n8 hR hob hj)
 obtain ⟨A, cap, hcell', hc, hrl, hb⟩ := v7 hR hob hj
 rw [hcell] at hcell'
 have hxv : a.eval x = .slice A n cap := Option.some.inj hcell'
 rcases hb with h1 | ⟨b, d, c, e', hA, ho', hh, hs, hrow⟩
 ·omega
 ·subst hA
  refine bN hR (c := Instr.indexAt t (a.eval x) (a.eval ix)) (x := .pointer (some ⟨b, d + i.toNat * te.size, none⟩)) (by simp only [execOp, ho]) ?_ h ⟨hv.1, _, rfl, fun _ => ⟨⟨b, d, none⟩, n, cap, by rw [hcell, hxv], by omega, by rw [cV]⟩⟩
  rw [hxv, eS hR hi]
  exact tD hT he hE _ _ _ _ _ _ h0 _
theorem qV (hR : Rel C E s a) {x : Option Operand} {d y : Nat} {l : Int} {code : BoundsCode} (h : eY s d x = some l) (h0 : 0 ≤ l ∧ l ≤ y) :
  (match x.map a.eval with
   | some v => Instr.sliceBound v y code
   | none => pure d : Sem Nat).run P E.w = .ok (l.toNat) E.w := by
 cases x with
 | none =>
  simp only [eY, Option.some.injEq] at h
  subst h
  simp
 | some x =>
  simp only [eY] at h
  split at h
  ·rename_i k l' hx
   cases h
   rw [Option.map_some, eS hR hx]
   simp [Instr.sliceBound, asIntOf, h0]
  ·cases h
theorem AJ {t e : TypeId} {ti te : TI} {x : Operand} {lo hi : Option Operand} {A : Option Addr} {n cap : Nat} {l h : Int} (ho : o.op = .slice t x lo hi none) (hR : Rel C E s a) (hT : TIOk P t ti) (he : ti.elem = some e) (hE : TIOk P e te)
  (hv : a.eval x = .slice A n cap) (hc : n ≤ cap) (hl : eY s 0 lo = some l) (hh : eY s n hi = some h) (hb : 0 ≤ l ∧ l ≤ h ∧ h ≤ n) :
  (Instr.sliceAt t (a.eval x) (lo.map a.eval) (hi.map a.eval) none).run P E.w = .ok (.slice (if cap = l.toNat then A else A.map (·.add (l.toNat * te.size))) (h.toNat - l.toNat) (cap - l.toNat)) E.w := by
 have hd := f4 (te := te) hT he
 have h1 := qV (P := P) (code := .sliceAcap) (y := cap) hR hh (by omega)
 have h2 := qV (P := P) (code := .sliceB) (y := h.toNat) hR hl (by omega)
 rw [hv]
 simp only [Instr.sliceAt, Sem.run_bind, aM hd, Result.andThen_ok, Instr.slice, Instr.sliceBounds, Sem.run_pure]
 cases hi with
 | none =>
  simp only [eY, Option.some.injEq] at hh
  subst hh
  cases lo with
  | none =>
   simp only [eY, Option.some.injEq] at hl
   subst hl
   simp [dZ hE]
  | some y =>
   simp only [Option.map_some] at h2
   simp only [Option.map_none, Option.map_some, Sem.run_bind, Sem.run_pure, Result.andThen_ok, Option.isSome_none, Bool.false_eq_true, if_false]
   rw [show ((n : Int)).toNat = n from rfl] at h2
   simp [h2, dZ hE]
 | some z =>
  simp only [Option.map_some] at h1
  simp only [Option.map_some, if_true, h1, Sem.run_bind, Result.andThen_ok]
  cases lo with
  | none =>
   simp only [eY, Option.some.injEq] at hl
   subst hl
   simp [dZ hE]
  | some y =>
   simp only [Option.map_some] at h2
   simp [dZ hE, h2]
theorem OA {t e : TypeId} {ti te : TI} {x : Operand} {lo hi : Option Operand} {n : Nat} {cs r : List V} {l h : Int} (ho : o.op = .slice t x lo hi none) (hR : Rel C E s a) (hT : TIOk P t ti) (he : ti.elem = some e) (hE : TIOk P e te)
  (hx : ev s x = .ro n cs) (hl : eY s 0 lo = some l) (hh : eY s n hi = some h) (hb : 0 ≤ l ∧ l ≤ h ∧ h ≤ n) (hcl : cs.length = n * te.size) (hr : dP cs (l.toNat * te.size) ((h.toNat - l.toNat) * te.size) = some r) (hK : K (.ro (h.toNat - l.toNat) r) s) : cX P C E s a o K := by
 have hv := cN hR x
 rw [hx] at hv
 obtain ⟨A, cap, hv, hc, hrow⟩ := hv
 refine bN hR (c := Instr.sliceAt t (a.eval x) (lo.map a.eval) (hi.map a.eval) ((none : Option Operand).map a.eval)) (by simp only [execOp, ho]) (AJ ho hR hT he hE hv hc hl hh hb) hK ?_
 refine ⟨_, _, rfl, by omega, fun hne => ?_⟩
 obtain ⟨hle, hreq, hrl⟩ := e8 hr
 have hcs : cs ≠ [] := by
  intro h0
  rw [h0] at hreq
  simp at hreq
  exact hne hreq
 obtain ⟨b, off, hA, hok, hbl, hrw⟩ := hrow hcs
 have hlt : ¬ cap = l.toNat := by
  intro h0
  have : h.toNat - l.toNat = 0 := by omega
  rw [this, Nat.zero_mul] at hrl
  exact hne (List.eq_nil_of_length_eq_zero hrl)
 refine ⟨b, off + l.toNat * te.size, by rw [if_neg hlt, hA, Option.map_some, cV], hok, hbl, ?_⟩
 rw [hreq]
 exact pO (jY hrw)
theorem L3 {t : TypeId} {ti : TI} {x : Operand} {lo hi : Option Operand} {b : ByteArray} {l h : Int} (ho : o.op = .slice t x lo hi none) (hR : Rel C E s a) (hu : P.underlying t = some .string)
  (hx : ev s x = .sc (.string b)) (hl : eY s 0 lo = some l) (hh : eY s b.size hi = some h) (hb : 0 ≤ l ∧ l ≤ h ∧ h ≤ b.size) (hK : K (.sc (.string (b.extract l.toNat h.toNat))) s) : cX P C E s a o K := by
 refine bN hR (c := Instr.sliceAt t (a.eval x) (lo.map a.eval) (hi.map a.eval) ((none : Option Operand).map a.eval)) (by simp only [execOp, ho]) ?_ hK ⟨rfl, rfl⟩
 have h1 := qV (P := P) (code := .sliceAlen) (y := b.size) hR hh (by omega)
 have h2 := qV (P := P) (code := .sliceB) (y := h.toNat) hR hl (by omega)
 rw [eS hR hx]
 simp only [Instr.sliceAt, Sem.run_bind, aM hu, Result.andThen_ok, Instr.slice, Instr.sliceBounds, Sem.run_pure]
 cases hi with
 | none =>
  simp only [eY, Option.some.injEq] at hh
  subst hh
  simp only [Int.toNat_natCast] at h2
  cases lo with
  | none =>
   simp only [eY, Option.some.injEq] at hl
   subst hl
   simp
  | some y =>
   simp only [Option.map_some] at h2
   simp [h2]
 | some z =>
  simp only [Option.map_some] at h1
  cases lo with
  | none =>
   simp only [eY, Option.some.injEq] at hl
   subst hl
   simp [h1]
  | some y =>
   simp only [Option.map_some] at h2
   simp [h1, h2]
theorem KZ {t e : TypeId} {ti te : TI} {x : Operand} {lo hi : Option Operand} {i sz off n lo0 : Nat} {hi0 : Option Nat} {l h : Int} (ho : o.op = .slice t x lo hi none) (hR : Rel C E s a) (hT : TIOk P t ti) (he : ti.elem = some e) (hE : TIOk P e te)
  (hx : ev s x = .own i sz off n lo0 hi0) (hl : eY s 0 lo = some l) (hh : eY s n hi = some h) (hsz : sz = te.size) (hb : 0 ≤ l ∧ l ≤ h ∧ h ≤ n) (hK : K (.own i sz (off + l.toNat * sz) (h.toNat - l.toNat) (h.toNat - l.toNat) none) s) : cX P C E s a o K := by
 have hv := cN hR x
 rw [hx] at hv
 obtain ⟨hin, A, cap, hv, hnc, hlv⟩ := hv
 have hc := hnc
 refine bN hR (c := Instr.sliceAt t (a.eval x) (lo.map a.eval) (hi.map a.eval) ((none : Option Operand).map a.eval)) (by simp only [execOp, ho]) (AJ ho hR hT he hE hv hc hl hh hb) hK ?_
 refine ⟨hin, _, _, rfl, by omega, fun hlive => ?_⟩
 obtain ⟨_, hlo, hhi, hbl⟩ := hlv hlive
 refine ⟨by omega, by omega, fun h hh => (by cases hh), ?_⟩
 by_cases hlt : cap = l.toNat
 ·left; omega
 ·rcases hbl with h0 | ⟨c, e', hA, hol, hhe, hsz'⟩
  ·left; omega
  ·right
   refine ⟨c, e', by rw [if_neg hlt, hA, Option.map_some, cV, Nat.add_assoc, hsz], hol, hhe, ?_⟩
   have h1 : l.toNat * sz + (cap - l.toNat) * sz = cap * sz := by rw [← Nat.add_mul]; congr 1; omega
   omega
theorem FS {t e : TypeId} {ti te : TI} {x hi mx : Operand} {lo : Option Operand} {A : Option Addr} {n cap : Nat} {l h m : Int} {km : IntKind} (hR : Rel C E s a) (hT : TIOk P t ti) (he : ti.elem = some e) (hE : TIOk P e te)
  (hv : a.eval x = .slice A n cap) (hc : n ≤ cap) (hl : eY s 0 lo = some l) (hh : eY s n (some hi) = some h) (hm : ev s mx = .sc (.int km m)) (hb : 0 ≤ l ∧ l ≤ h ∧ h ≤ m ∧ m ≤ n) :
  (Instr.sliceAt t (a.eval x) (lo.map a.eval) ((some hi).map a.eval) ((some mx).map a.eval)).run P E.w = .ok (.slice (if m.toNat = l.toNat then A else A.map (·.add (l.toNat * te.size))) (h.toNat - l.toNat) (m.toNat - l.toNat)) E.w := by
 have hd := f4 (te := te) hT he
 have h0 := qV (P := P) (x := some mx) (d := 0) (code := .slice3Acap) (y := cap) (l := m) hR (by simp only [eY, hm]) (by omega)
 have h1 := qV (P := P) (code := .slice3B) (y := m.toNat) hR hh (by omega)
 have h2 := qV (P := P) (code := .slice3C) (y := h.toNat) hR hl (by omega)
 rw [hv]
 simp only [Instr.sliceAt, Sem.run_bind, aM hd, Result.andThen_ok, Instr.slice, Instr.sliceBounds, Sem.run_pure]
 simp only [Option.map_some] at h0 h1
 simp only [Option.map_some, if_true, h0, h1, Sem.run_bind, Result.andThen_ok]
 cases lo with
 | none =>
  simp only [eY, Option.some.injEq] at hl
  subst hl
  simp [dZ hE]
 | some y =>
  simp only [Option.map_some] at h2
  simp [dZ hE, h2]
theorem KX {t e : TypeId} {ti te : TI} {x hi mx : Operand} {lo : Option Operand} {n : Nat} {cs r : List V} {l h m : Int} {km : IntKind} (ho : o.op = .slice t x lo (some hi) (some mx)) (hR : Rel C E s a) (hT : TIOk P t ti) (he : ti.elem = some e) (hE : TIOk P e te)
  (hx : ev s x = .ro n cs) (hm : ev s mx = .sc (.int km m)) (hl : eY s 0 lo = some l) (hh : eY s n (some hi) = some h) (hb : 0 ≤ l ∧ l ≤ h ∧ h ≤ m ∧ m ≤ n) (hcl : cs.length = n * te.size) (hr : dP cs (l.toNat * te.size) ((h.toNat - l.toNat) * te.size) = some r) (hK : K (.ro (h.toNat - l.toNat) r) s) : cX P C E s a o K := by
 have hv := cN hR x
 rw [hx] at hv
 obtain ⟨A, cap, hv, hc, hrow⟩ := hv
 refine bN hR (c := Instr.sliceAt t (a.eval x) (lo.map a.eval) ((some hi).map a.eval) ((some mx).map a.eval)) (by simp only [execOp, ho]) (FS hR hT he hE hv hc hl hh hm hb) hK ?_
 refine ⟨_, _, rfl, by omega, fun hne => ?_⟩
 obtain ⟨hle, hreq, hrl⟩ := e8 hr
 have hcs : cs ≠ [] := by
  intro h0
  rw [h0] at hreq
  simp at hreq
  exact hne hreq
 obtain ⟨b, off, hA, hok, hbl, hrw⟩ := hrow hcs
 have hlt : ¬ m.toNat = l.toNat := by
  intro h0
  have : h.toNat - l.toNat = 0 := by omega
  rw [this, Nat.zero_mul] at hrl
  exact hne (List.eq_nil_of_length_eq_zero hrl)
 refine ⟨b, off + l.toNat * te.size, by rw [if_neg hlt, hA, Option.map_some, cV], hok, hbl, ?_⟩
 rw [hreq]
 exact pO (jY hrw)
theorem HG {t e : TypeId} {ti te : TI} {x hi mx : Operand} {lo : Option Operand} {i sz off n lo0 : Nat} {hi0 : Option Nat} {ob : Obj} {l h m : Int} {km : IntKind} (ho : o.op = .slice t x lo (some hi) (some mx)) (hR : Rel C E s a) (hT : TIOk P t ti) (he : ti.elem = some e) (hE : TIOk P e te)
  (hx : ev s x = .own i sz off n lo0 hi0) (hm : ev s mx = .sc (.int km m)) (hl : eY s 0 lo = some l) (hh : eY s n (some hi) = some h) (hob : s.ob i = some ob) (hsz : sz = te.size) (hb : 0 ≤ l ∧ l ≤ h ∧ h ≤ m ∧ m ≤ n) (hK : K (.own i sz (off + l.toNat * sz) (h.toNat - l.toNat) (h.toNat - l.toNat) none) s) : cX P C E s a o K := by
 have hv := cN hR x
 rw [hx] at hv
 obtain ⟨hin, A, cap, hv, hnc, hlv⟩ := hv
 obtain ⟨hc, hlo, hhi, hbl⟩ := hlv (dA hR hob)
 refine bN hR (c := Instr.sliceAt t (a.eval x) (lo.map a.eval) ((some hi).map a.eval) ((some mx).map a.eval)) (by simp only [execOp, ho]) (FS hR hT he hE hv hc hl hh hm hb) hK ?_
 refine ⟨hin, _, _, rfl, by omega, fun _ => ⟨by omega, by omega, fun h hh => (by cases hh), ?_⟩⟩
 by_cases hlt : m.toNat = l.toNat
 ·left; omega
 ·rcases hbl with h0 | ⟨c, e', hA, hol, hhe, hsz'⟩
  ·left; omega
  ·right
   refine ⟨c, e', by rw [if_neg hlt, hA, Option.map_some, cV, Nat.add_assoc, hsz], hol, hhe, ?_⟩
   have h1 : l.toNat * sz + (m.toNat - l.toNat) * sz = m.toNat * sz := by rw [← Nat.add_mul]; congr 1; omega
   have h2 : m.toNat * sz ≤ cap * sz := Nat.mul_le_mul_right _ (by omega)
   omega
theorem a2H {x y : Operand} {ts : Array TypeId} {k k' : IntKind} {m n : Int} (ho : o.op = .call { callee := .builtin .max, args := #[x, y], argTypes := ts }) (hR : Rel C E s a) (hx : ev s x = .sc (.int k m)) (hy : ev s y = .sc (.int k' n)) (h : K (.sc (.int k (if n > m then n else m))) s) : cX P C E s a o K := by
 refine iL hR (x := .int k (if n > m then n else m)) ?_ h ⟨rfl, rfl⟩
 simp only [execOp, ho, resolve]
 simp [eS hR hx, eS hR hy, invoke, builtin, Builtin.max_, Builtin.max2]
theorem a2I {x y : Operand} {ts : Array TypeId} {k k' : IntKind} {m n : Int} (ho : o.op = .call { callee := .builtin .min, args := #[x, y], argTypes := ts }) (hR : Rel C E s a) (hx : ev s x = .sc (.int k m)) (hy : ev s y = .sc (.int k' n)) (h : K (.sc (.int k (if n < m then n else m))) s) : cX P C E s a o K := by
 refine iL hR (x := .int k (if n < m then n else m)) ?_ h ⟨rfl, rfl⟩
 simp only [execOp, ho, resolve]
 simp [eS hR hx, eS hR hy, invoke, builtin, Builtin.min_, Builtin.min2]
theorem Y8 {t : TypeId} {x ix : Operand} {b : ByteArray} {k : IntKind} {i : Int} (ho : o.op = .index t x ix) (hR : Rel C E s a) (hu : P.underlying t = some .string) (hx : ev s x = .sc (.string b)) (hi : ev s ix = .sc (.int k i)) (h0 : 0 ≤ i ∧ i.toNat < b.size) (h : K (.sc (.int .u8 ((b[i.toNat]'h0.2).toNat : Int))) s) : cX P C E s a o K := by
 refine bN hR (c := Instr.index t (a.eval x) (a.eval ix)) (by simp only [execOp, ho]) ?_ h ⟨rfl, rfl⟩
 rw [eS hR hx, eS hR hi]
 simp [Instr.index, asIntOf, aM hu, h0.1, h0.2]
theorem Y9 {x : Operand} {n : Nat} {t : TypeId} {ts : Array TypeId} (ho : o.op = .call { callee := .builtin .len, args := #[x], argTypes := ts }) (hR : Rel C E s a) (ht : ts[0]? = some t) (hu : (∃ e, P.underlying t = some (.slice e)) ∨ P.underlying t = some .string)
  (hcx : (∃ A cap, a.eval x = .slice A n cap ∧ ∃ e, P.underlying t = some (.slice e)) ∨ ∃ z, a.eval x = .string z ∧ z.size = n ∧ P.underlying t = some .string) (h : K (.sc (.int .i64 n)) s) : cX P C E s a o K := by
 refine iL hR (x := .int .i64 n) ?_ h ⟨rfl, rfl⟩
 simp only [execOp, ho, resolve]
 rcases hcx with ⟨A, cap, hv, e, he⟩ | ⟨z, hv, hz, he⟩
 ·simp [hv, invoke, builtin, Builtin.len_, ht, aM he, goInt]
 ·simp [hv, invoke, builtin, Builtin.len_, ht, aM he, goInt, hz]
end
end Go.Proofs.YtboolngaahifdaaGreatD
namespace Go.Proofs.YtboolngaahifdaaGreatD
open Go
theorem eD : ∀ (g : List (Option Obj)) (x : Option Obj) (i : Nat), aX (g ++ [x]) i = if i = g.length then x else aX g i
 | [], x, 0 => by simp [aX]
 | [], x, i + 1 => by simp [aX]
 | o :: g, x, 0 => by simp [aX]
 | o :: g, x, i + 1 => by simp [aX, eD g x i]
theorem i7 : ∀ (g : List (Option Obj)) (k : Nat) (x : Option Obj) (i : Nat), aX (kD g k x) i = if i = k ∧ k < g.length then x else aX g i
 | [], k, x, i => by simp [kD, aX]
 | o :: g, 0, x, 0 => by simp [kD, aX]
 | o :: g, 0, x, i + 1 => by simp [kD, aX]
 | o :: g, k + 1, x, 0 => by simp [kD, aX]
 | o :: g, k + 1, x, i + 1 => by simp [kD, aX, i7 g k x i]
theorem dB : ∀ (g : List (Option Obj)) (k : Nat) (x : Option Obj), (kD g k x).length = g.length
 | [], _, _ => rfl
 | _ :: _, 0, _ => rfl
 | _ :: g, k + 1, x => by simp [kD, dB g k x]
theorem ObR.mono {E E' : Env} {i : Nat} {ob : Obj} (hm : Mono E E') (hρ : E'.ρ i = E.ρ i) (hk : Kept E E' [i]) (h : ObR E i ob) : ObR E' i ob := by
 obtain ⟨bx, cs⟩ := ob
 cases bx with
 | true =>
  rcases h with ⟨hn, c, e, hh, h0, hl, hr⟩ | ⟨m, es, k, hc, hh, hl, hr⟩
  ·obtain ⟨h1, h2⟩ := hk _ [] hl
   exact .inl ⟨hn, c, e, by rw [hρ, h2]; exact hh, by rw [hρ]; exact h0, by rw [hρ]; exact h1, by rw [hρ]; exact Rrow.mono hm (eM _ _) h2 hr⟩
  ·obtain ⟨h1, h2⟩ := hk _ [] hl
   exact .inr ⟨m, es, k, hc, by rw [hρ, h2]; exact hh, by rw [hρ]; exact h1, hr⟩
 | false =>
  rcases h with h | ⟨c, e, hh, hl, hr⟩
  ·exact .inl h
  ·obtain ⟨h1, h2⟩ := hk _ [] hl
   exact .inr ⟨c, e, by rw [hρ, h2]; exact hh, by rw [hρ]; exact h1, by rw [hρ]; exact Rrow.mono hm.bare (fun q hq b r hb => by cases hq; exact hk b r hb) h2 hr⟩
def c9 (w : World) (c : Array Value) (e : TypeId) : World := { w with heap := w.heap.push (.cells c e) }
def Env.push (E : Env) (c : Array Value) (e : TypeId) (ob : Obj) : Env :=
 {w := c9 E.w c e, o := fun b => if b = E.w.heap.size then some [E.n] else E.o b, ρ := fun i => if i = E.n then (E.w.heap.size, 0) else E.ρ i,
  g := fun i => if i = E.n then some ob else E.g i, n := E.n + 1, okb := fun b => (if b = E.w.heap.size then some [E.n] else E.o b) = none }
section
variable {P : Program} {Γ : Tab} {C : Ctx} {E : Env} {s : St} {a : Act} {o : Oper} {K : V → St → Prop}
theorem cZ (w : World) (c : Array Value) (e : TypeId) {b : Nat} (h : b < w.heap.size) : (c9 w c e).heap[b]? = w.heap[b]? := by
 simp only [c9]
 rw [Array.getElem?_push_lt h, Array.getElem?_eq_getElem h]
theorem eJ (w : World) (c : Array Value) (e : TypeId) : (c9 w c e).heap[w.heap.size]? = some (.cells c e (0, 0)) := by
 show (w.heap.push (.cells c e))[w.heap.size]? = _
 rw [Array.getElem?_push, if_pos rfl]
theorem cY {w : World} {b : Nat} {x : Go.Obj} (h : w.heap[b]? = some x) : b < w.heap.size := by
 exact (Array.getElem?_eq_some_iff.1 h).1
theorem qL (hR : Rel C E s a) {i j : Nat} (h : hZ E.g i j) : (E.ρ i).1 < E.w.heap.size := by
 obtain ⟨cs, sz, n, r, hg, hj⟩ := h
 rw [hR.g] at hg
 rcases hR.ob i _ hg with h0 | ⟨c, e, hh, _⟩
 ·rw [h0] at hj; simp at hj
 ·exact cY hh
theorem uS (hR : Rel C E s a) (c : Array Value) (e : TypeId) (ob : Obj) : Mono E (E.push c e ob) := by
 refine ⟨by simp [Env.push, c9], fun b hb hok => ?_, Nat.le_succ _, fun i hi hl => ?_, fun i j hi ht => ?_⟩
 ·have hne : b ≠ E.w.heap.size := Nat.ne_of_lt hb
  rw [hR.okb] at hok
  exact ⟨by simp only [Env.push, if_neg hne]; exact hok, cZ _ _ _ hb⟩
 ·have hne : i ≠ E.n := Nat.ne_of_lt hi
  simp only [Env.push, if_neg hne] at hl ⊢
  refine ⟨hl, trivial, fun ho => ?_, fun c' e' hh => ⟨c', ?_, rfl⟩⟩
  ·rw [if_neg (Nat.ne_of_lt (hR.lab _ _ ho).1)]
   exact ho
  ·rw [cZ _ _ _ (cY hh)]
   exact hh
 ·have hne : i ≠ E.n := Nat.ne_of_lt hi
  have ht' : hZ E.g i j := by
   obtain ⟨cs, sz, n, r, hg, hj⟩ := ht
   simp only [Env.push, if_neg hne] at hg
   exact ⟨cs, sz, n, r, hg, hj⟩
  exact ⟨ht', dQ (cZ _ _ _ (qL hR ht'))⟩
theorem zW (hR : Rel C E s a) (c : Array Value) (e : TypeId) (ob : Obj) (q : List Nat) : Kept E (E.push c e ob) q := fun b r hb => by
 have hlt := (hR.lab _ _ hb).1
 exact ⟨by simp only [Env.push, if_neg (Nat.ne_of_lt hlt)]; exact hb, cZ _ _ _ hlt⟩
theorem K3 {w : World} (h : Fr C w) (c : Array Value) (e : TypeId) : Fr C (c9 w c e) :=
 ⟨h.os, h.tape, h.output, by simp only [c9, Array.size_push]; exact Nat.le_succ_of_le h.size, fun k hk hl => (cZ _ _ _ (Nat.lt_of_lt_of_le hk h.size)).trans (h.block k hk hl), fun b c' e' hb => by
  obtain ⟨c1, h1, h2⟩ := h.shape b c' e' hb
  exact ⟨c1, (cZ _ _ _ (cY h1)).trans h1, h2⟩, h.drawn⟩
theorem tO (hR : Rel C E s a) {c : Array Value} {e : TypeId} {ob : Obj} (hob : ObR (E.push c e ob) E.n ob) : Rel C (E.push c e ob) (s.add ob) a := by
 have hm := uS hR c e ob
 refine ⟨hR.size, hR.nd, fun k => (hR.slot k).slot hm, ?_, ?_, ?_, rfl, ?_, K3 hR.fr c e, fun b hb hl => by have := hR.fr.size; simp only [Env.push]; rw [if_neg (by omega)]; exact hR.old b hb hl, hR.pin.mono hm⟩
 ·funext i
  simp only [Env.push, St.ob, St.add, eD, hR.n]
  rw [hR.g]
  rfl
 ·simp [Env.push, St.add, hR.n]
 ·intro i x hx
  simp only [St.ob, St.add, eD] at hx
  split at hx
  ·rename_i hi
   cases hx
   rw [hi, ← hR.n]
   exact hob
  ·have hx' : s.ob i = some x := hx
   have hlt := C6 hR hx'
   exact ObR.mono hm (by simp only [Env.push, if_neg (Nat.ne_of_lt hlt)]) (zW hR c e ob _) (hR.ob i x hx')
 ·intro b p hp
  simp only [Env.push] at hp
  split at hp
  ·rename_i hb
   subst hb
   exact ⟨by simp [Env.push, c9], .inr (.inl hR.fr.size)⟩
  ·obtain ⟨h1, h2⟩ := hR.lab b p hp
   exact ⟨by simp only [Env.push, c9, Array.size_push]; omega, h2⟩
theorem lZ (w : World) (c : Array Value) (e : TypeId) (k : Nat) : (c9 w c e).cell? ⟨w.heap.size, k, none⟩ = c[k]? := by
 simp [World.cell?, eJ]
theorem OS (hR : Rel C E s a) {cs : List V} {c : Array Value} {e : TypeId} {ob : Obj} (h : Rvs E .none cs c.toList) : Rrow (E.push c e ob) .none E.w.heap.size 0 0 cs := by
 refine cD fun k v hk => ?_
 obtain ⟨x, hx, hr⟩ := gE h k v hk
 refine ⟨x, ?_, hr.slot (uS hR c e ob)⟩
 rw [Nat.zero_add]
 exact (lZ _ _ _ _).trans (by simpa using hx)
theorem RG {E : Env} {cs : List V} {xs : List Value} (h : Rvs E .none cs xs) : eG cs = false := by
 unfold eG
 split
 ·cases xs with
  | nil => exact h.elim
  | cons x xs =>
   obtain ⟨b, off, q, c, e, _, hq, _⟩ := h.1
   cases hq
 ·rfl
theorem BP (hR : Rel C E s a) {cs : List V} {c : Array Value} {e : TypeId} (h : Rvs E .none cs c.toList) : ObR (E.push c e ⟨true, cs⟩) E.n ⟨true, cs⟩ := by
 refine .inl ⟨RG h, c, e, ?_, ?_, ?_, ?_⟩
 ·simp only [Env.push, if_true]; exact eJ _ _ _
 ·simp [Env.push]
 ·simp [Env.push]
 ·have := OS (e := e) (ob := ⟨true, cs⟩) hR h
  simpa only [Env.push, if_true] using this
theorem nG (hR : Rel C E s a) {v : V} {cs : List V} {x : Value} (h : kL s v = some cs) (hv : Rv E .none v x) : Rvs E .none cs x.cells.toList := by
 have one : ∀ y : Value, y.oneCell' = true → Rv E .none v y → [v] = cs → x = y → Rvs E .none cs x.cells.toList := by
  intro y hy hvy hcs hxy
  subst hcs
  subst hxy
  have : x.cells = #[x] := by cases x <;> first | rfl | simp [Value.oneCell'] at hy
  rw [this]
  exact ⟨hvy, trivial⟩
 cases v <;> simp only [kL, Option.some.injEq, reduceCtorEq] at h
 case sc v => exact one x (by obtain ⟨rfl, h1⟩ := hv; exact h1) hv h rfl
 case ro n c => exact one x (by obtain ⟨A, cap, rfl, _⟩ := hv; rfl) hv h rfl
 case rp c => exact one x (by obtain ⟨b, off, rfl, _⟩ := hv; rfl) hv h rfl
 case fn f c => exact one x (by obtain ⟨xs, rfl, _⟩ := hv; rfl) hv h rfl
 case agg c =>
  subst h
  obtain ⟨xs, rfl, hr⟩ := hv
  simpa [Value.cells, Md.part] using hr
 case own i sz off n lo hi => exact one x (by obtain ⟨_, A, cap, rfl, _⟩ := hv; rfl) hv h rfl
 case sub i j => exact one x (by obtain ⟨_, ⟨A, n, cap, rfl⟩, _⟩ := hv; rfl) hv h rfl
 case ptr i off => exact one x (by obtain ⟨_, ad, rfl, _⟩ := hv; rfl) hv h rfl
 case sp i j off => exact one x (by obtain ⟨_, ad, rfl, _⟩ := hv; rfl) hv h rfl
 case mref i => exact one x (by obtain ⟨_, r, rfl, _⟩ := hv; rfl) hv h rfl
theorem kG {E : Env} {m : Md} {v : V} {x : Value} (h : eU v = true) (hv : Rv E m v x) : x.oneCell' = true := by
 cases v <;> simp only [eU, reduceCtorEq] at h
 case sc => obtain ⟨rfl, h1⟩ := hv; exact h1
 case ro => obtain ⟨A, cap, rfl, _⟩ := hv; rfl
 case tr => obtain ⟨A, cap, rfl, _⟩ := hv; rfl
 case own => obtain ⟨_, A, cap, rfl, _⟩ := hv; rfl
 case sub => obtain ⟨_, ⟨A, n, cap, rfl⟩, _⟩ := hv; rfl
 case ptr => obtain ⟨_, ad, rfl, _⟩ := hv; rfl
 case sp => obtain ⟨_, ad, rfl, _⟩ := hv; rfl
 case mref => obtain ⟨_, r, rfl, _⟩ := hv; rfl
 case rp => obtain ⟨b, off, rfl, _⟩ := hv; rfl
 case fn => obtain ⟨xs, rfl, _⟩ := hv; rfl
theorem T6 (hR : Rel C E s a) (c : Array Value) (e : TypeId) (ob : Obj) : Rv (E.push c e ob) .none (.ptr s.g.length 0) (.pointer (some ⟨E.w.heap.size, 0, none⟩)) := by
 rw [← hR.n]
 refine ⟨by simp [Env.push], _, rfl, fun _ => ?_⟩
 simp [Env.push]
theorem a2G {t : TypeId} {x : Operand} {cs : List V} (ho : o.op = .box t x) (hR : Rel C E s a) (hc : kL s (ev s x) = some cs) (h : K (.ptr s.g.length 0) (s.add ⟨true, cs⟩)) : cX P C E s a o K := by
 have hv := nG hR hc (cN hR x)
 refine iM (E' := E.push (a.eval x).cells t ⟨true, cs⟩) (x := .pointer (some ⟨E.w.heap.size, 0, none⟩)) ?_ h (tO hR (BP hR hv)) (T6 hR _ _ _)
 simp only [execOp, ho]
 simp [Instr.box, newVar, newRow, Env.push, c9]
theorem Y5 {t : TypeId} {ti : TI} (ho : o.op = .alloc t) (hR : Rel C E s a) (hT : TIOk P t ti) (h : K (.ptr s.g.length 0) (s.add ⟨true, ti.zero.map .sc⟩)) : cX P C E s a o K := by
 obtain ⟨i, z, hi, _, _, hz, hzc⟩ := hT.info
 have hall : ∀ l : List Value, (∀ v ∈ l, v.oneCell' = true) → Rvs E .none (l.map .sc) l := by
  intro l
  induction l with
  | nil => intro _; trivial
  | cons c l ih => intro hl; exact ⟨⟨rfl, hl c (by simp)⟩, ih fun v hv => hl v (by simp [hv])⟩
 have hv : Rvs E .none (ti.zero.map .sc) z.cells.toList := by rw [hzc]; exact hall _ hT.one
 refine iM (E' := E.push z.cells t ⟨true, ti.zero.map .sc⟩) (x := .pointer (some ⟨E.w.heap.size, 0, none⟩)) ?_ h (tO hR (BP hR hv)) (T6 hR _ _ _)
 simp only [execOp, ho]
 simp [Instr.alloc, zeroValue, dI hi, hz, newVar, newRow, Env.push, c9]
end
end Go.Proofs.YtboolngaahifdaaGreatD
namespace Go.Proofs.YtboolngaahifdaaGreatD
open Go
structure Wrote (w w' : World) (b off : Nat) (xs : List Value) : Prop where
 os : w'.os = w.os
 tape : w'.tape = w.tape
 output : w'.output = w.output
 size : w'.heap.size = w.heap.size
 other : ∀ k, k ≠ b → w'.heap[k]? = w.heap[k]?
 row : ∀ c e, w.heap[b]? = some (.cells c e (0, 0)) → ∃ c', w'.heap[b]? = some (.cells c' e (0, 0)) ∧ c'.size = c.size ∧ ∀ k, c'[k]? = if off ≤ k ∧ k < off + xs.length then xs[k - off]? else c[k]?
 drawn : w'.drawn = w.drawn
theorem Q1 (w : World) (a : Addr) (u : Value) (k : Nat) (h : k ≠ a.block) : (w.setCell a u).heap[k]? = w.heap[k]? := by
 simp only [World.setCell]
 rw [Array.getElem?_modify, if_neg (fun he => h he.symm)]
theorem VU {w : World} {b off : Nat} {c : Array Value} {e : TypeId} {v : Value} (hh : w.heap[b]? = some (.cells c e (0, 0))) (hl : off < c.size) : Wrote w (w.setCell ⟨b, off, none⟩ v) b off [v] := by
 refine ⟨rfl, rfl, rfl, by simp [World.setCell], fun k hk => Q1 w _ v k hk, fun c' e' hc => ?_, rfl⟩
 rw [hh] at hc
 cases hc
 refine ⟨c.setIfInBounds off v, ?_, by simp, fun k => ?_⟩
 ·have hb : b < w.heap.size := cY hh
  have hg : w.heap[b] = .cells c e (0, 0) := by rw [Array.getElem?_eq_getElem hb] at hh; exact Option.some.inj hh
  simp only [World.setCell]
  rw [Array.getElem?_eq_getElem (by simpa using hb)]
  simp [Array.getElem_modify, hg]
 ·rw [Array.getElem?_setIfInBounds]
  by_cases hk : off = k
  ·subst hk
   simp [hl]
  ·rw [if_neg hk, if_neg (by simp; omega)]
theorem Wrote.then {w w1 w2 : World} {b off : Nat} {v : Value} {xs : List Value} (h1 : Wrote w w1 b off [v]) (h2 : Wrote w1 w2 b (off + 1) xs) : Wrote w w2 b off (v :: xs) := by
 refine ⟨h2.os.trans h1.os, h2.tape.trans h1.tape, h2.output.trans h1.output, h2.size.trans h1.size, fun k hk => (h2.other k hk).trans (h1.other k hk), fun c e hc => ?_, h2.drawn.trans h1.drawn⟩
 obtain ⟨c1, hc1, hs1, hk1⟩ := h1.row c e hc
 obtain ⟨c2, hc2, hs2, hk2⟩ := h2.row c1 e hc1
 refine ⟨c2, hc2, hs2.trans hs1, fun k => ?_⟩
 rw [hk2, hk1]
 by_cases ha : off + 1 ≤ k ∧ k < off + 1 + xs.length
 ·rw [if_pos ha, if_pos ⟨by omega, by simp; omega⟩]
  obtain ⟨d, rfl⟩ : ∃ d, k = off + 1 + d := ⟨k - (off + 1), by omega⟩
  rw [show off + 1 + d - (off + 1) = d from by omega, show off + 1 + d - off = d + 1 from by omega, List.getElem?_cons_succ]
 ·rw [if_neg ha]
  by_cases hb : k = off
  ·subst hb
   rw [if_pos ⟨by omega, by simp⟩, if_pos ⟨by omega, by simp⟩]
   simp
  ·rw [if_neg (by simp; omega), if_neg (by simp; omega)]
theorem uI {w : World} {b off : Nat} {c : Array Value} {e : TypeId} (hh : w.heap[b]? = some (.cells c e (0, 0))) : w.frozen? ⟨b, off, none⟩ = false := by
 simp [World.frozen?, hh]
theorem iD (P : Program) : ∀ (xs : List Value) (w : World) (b off i : Nat) (c : Array Value) (e : TypeId), w.heap[b]? = some (.cells c e (0, 0)) → off + i + xs.length ≤ c.size → (∀ x ∈ xs, x.oneCell' = true) →
  ∃ w', (storeCells ⟨b, off, none⟩ xs i).run P w = .ok () w' ∧ Wrote w w' b (off + i) xs
 | [], w, b, off, i, c, e, hh, hl, ho => ⟨w, by simp [storeCells], rfl, rfl, rfl, rfl, fun _ _ => rfl, fun c' e' hc => ⟨c', hc, rfl, fun k => by rw [if_neg (by simp only [List.length_nil]; omega)]⟩, rfl⟩
 | x :: xs, w, b, off, i, c, e, hh, hl, ho => by
  simp only [List.length_cons] at hl
  have hlt : off + i < c.size := by omega
  have hcell : w.cell? ⟨b, off + i, none⟩ = some c[off + i] := by simp [World.cell?, hh, hlt]
  have h1 := VU (v := x) hh hlt
  obtain ⟨c1, hc1, hs1, _⟩ := h1.row c e hh
  obtain ⟨w2, hr, h2⟩ := iD P xs _ b off (i + 1) c1 e hc1 (by omega) (fun y hy => ho y (by simp [hy]))
  refine ⟨w2, ?_, ?_⟩
  ·rw [storeCells]
   simp only [Sem.run_bind, cV]
   rw [run_store P w _ x _ (ho x (by simp)), hcell]
   simp only [uI hh, Bool.false_eq_true, if_false, Result.andThen_ok]
   exact hr
  ·exact h1.then (by rw [Nat.add_assoc]; exact h2)
theorem iB {cs vs : List V} {off : Nat} (h : off + vs.length ≤ cs.length) (k : Nat) : (e7 cs off vs)[k]? = if off ≤ k ∧ k < off + vs.length then vs[k - off]? else cs[k]? := by
 have gen : (cs.take off ++ vs ++ cs.drop (off + vs.length))[k]? = if off ≤ k ∧ k < off + vs.length then vs[k - off]? else cs[k]? := by
  have ht : (cs.take off).length = off := by simp; omega
  by_cases h1 : k < off
  ·rw [if_neg (by omega), List.append_assoc, List.getElem?_append_left (by omega), List.getElem?_take, if_pos h1]
  ·by_cases h2 : k < off + vs.length
   ·rw [if_pos (by omega), List.append_assoc, List.getElem?_append_right (by omega), ht, List.getElem?_append_left (by omega)]
   ·rw [if_neg (by omega), List.getElem?_append_right (by simp; omega), List.getElem?_drop]
    congr 1
    simp
    omega
 match vs, h, gen with
 | [], h, gen => exact gen
 | [v], h, gen =>
  simp only [e7]
  rw [List.getElem?_set]
  simp only [List.length_cons, List.length_nil] at h ⊢
  by_cases hk : off = k
  ·subst hk
   rw [if_pos rfl, if_pos (by omega), if_pos (by omega)]
   simp
  ·rw [if_neg hk, if_neg (by omega)]
 | v :: v' :: vs, h, gen => exact gen
theorem yN {cs vs : List V} {off : Nat} (h : off + vs.length ≤ cs.length) : (e7 cs off vs).length = cs.length := by
 unfold e7
 split
 ·simp
 ·simp; omega
section
variable {P : Program} {Γ : Tab} {C : Ctx} {E : Env} {s : St} {a : Act} {o : Oper} {K : V → St → Prop}
def Env.wr (E : Env) (w' : World) (i : Nat) (ob : Obj) : Env := { E with w := w', g := fun j => if j = i then some ob else E.g j }
theorem M3 {w' : World} {i b off : Nat} {xs : List Value} {ob ob0 : Obj} (hR : Rel C E s a) (hw : Wrote E.w w' b off xs) (hi : s.ob i = some ob0) (hb : b = (E.ρ i).1) (hlab : E.o b = some [i])
  (hsub : ∀ k, hZ (fun j => if j = i then some ob else E.g j) i k → hZ E.g i k ∧ w'.cell? ⟨b, (E.ρ i).2 + k, none⟩ = E.w.cell? ⟨b, (E.ρ i).2 + k, none⟩) : Mono E (E.wr w' i ob) := by
 refine ⟨Nat.le_of_eq hw.size.symm, fun b' hb' hok => ⟨hok, hw.other b' ?_⟩, Nat.le_refl _, fun j hj hl => ?_, fun j k hj ht => ?_⟩
 ·intro he
  rw [hR.okb, he, hlab] at hok
  cases hok
 ·refine ⟨?_, rfl, id, fun c e hc => ?_⟩
  ·by_cases hji : j = i
   ·rw [hji]; exact dA hR hi
   ·simpa [Env.wr, hji] using hl
  ·by_cases he : (E.ρ j).1 = b
   ·rw [he] at hc ⊢
    obtain ⟨c', h1, h2, _⟩ := hw.row c e hc
    exact ⟨c', h1, h2⟩
   ·exact ⟨c, by rw [← hc]; exact hw.other _ he, rfl⟩
 ·by_cases hji : j = i
  ·subst hji
   have := hsub k ht
   rw [hb] at this
   exact this
  ·have ht' : hZ E.g j k := by
    obtain ⟨cs, sz, n, r, hg, hk⟩ := ht
    simp only [Env.wr, if_neg hji] at hg
    exact ⟨cs, sz, n, r, hg, hk⟩
   refine ⟨ht', dQ (hw.other _ ?_)⟩
   obtain ⟨cs, sz, n, r, hg, hk⟩ := ht'
   rw [hR.g] at hg
   rcases hR.ob j _ hg with h0 | ⟨c, e, _, hl, _⟩
   ·rw [h0] at hk; simp at hk
   ·intro he
    rw [he, hlab] at hl
    simp at hl
    exact hji hl.symm
theorem yU {w' : World} {i b off : Nat} {xs : List Value} {ob : Obj} (hw : Wrote E.w w' b off xs) (hlab : E.o b = some [i]) {q : List Nat} (hq : ∀ r, q ++ r ≠ [i]) : Kept E (E.wr w' i ob) q := fun b' r hb' => by
 refine ⟨hb', hw.other b' fun he => ?_⟩
 rw [he, hlab] at hb'
 exact hq r (Option.some.inj hb').symm
theorem lP {i : Nat} {ob ob0 : Obj} (hi : s.ob i = some ob0) (j : Nat) : (s.put i (some ob)).ob j = if j = i then some ob else s.ob j := by
 have hlt : i < s.g.length := eK hi
 simp only [St.ob, St.put, i7]
 by_cases hj : j = i
 ·rw [if_pos ⟨hj, hlt⟩, if_pos hj]
 ·rw [if_neg (fun h => hj h.1), if_neg hj]
theorem xJ {w w' : World} {i b off : Nat} {xs : List Value} (h : Fr C w) (hw : Wrote w w' b off xs) (hb : C.w0.heap.size ≤ b ∨ C.lent b) : Fr C w' :=
 ⟨hw.os.trans h.os, hw.tape.trans h.tape, hw.output.trans h.output, by rw [hw.size]; exact h.size, fun k hk hl => (hw.other k (fun he => by subst he; rcases hb with h1 | h1; omega; exact hl h1)).trans (h.block k hk hl), fun b' c e hc => by
  obtain ⟨c1, h1, h2⟩ := h.shape b' c e hc
  by_cases hbb : b' = b
  ·subst hbb
   obtain ⟨c2, h3, h4, _⟩ := hw.row c1 e h1
   exact ⟨c2, h3, h4.trans h2⟩
  ·exact ⟨c1, (hw.other _ hbb).trans h1, h2⟩, by rw [hw.drawn]; exact h.drawn⟩
theorem QV {w' : World} {i b off : Nat} {xs : List Value} {ob ob0 : Obj} (hR : Rel C E s a) (hw : Wrote E.w w' b off xs) (hi : s.ob i = some ob0) (hb : b = (E.ρ i).1) (hlab : E.o b = some [i])
  (hsub : ∀ k, hZ (fun j => if j = i then some ob else E.g j) i k → hZ E.g i k ∧ w'.cell? ⟨b, (E.ρ i).2 + k, none⟩ = E.w.cell? ⟨b, (E.ρ i).2 + k, none⟩)
  (hob : ObR (E.wr w' i ob) i ob) : Rel C (E.wr w' i ob) (s.put i (some ob)) a := by
 have hm := M3 hR hw hi hb hlab hsub
 refine ⟨hR.size, hR.nd, fun k => (hR.slot k).slot hm, ?_, ?_, fun j x hx => ?_, hR.okb, fun b' p hp => ?_, xJ (i := i) hR.fr hw ((hR.lab _ _ hlab).2.resolve_left (by simp)), hR.old, hR.pin.mono hm⟩
 ·funext j
  rw [lP hi]
  simp only [Env.wr, hR.g]
 ·simp [Env.wr, St.put, dB, hR.n]
 ·rw [lP hi] at hx
  by_cases hji : j = i
  ·rw [if_pos hji] at hx
   cases hx
   subst hji
   exact hob
  ·rw [if_neg hji] at hx
   exact ObR.mono hm rfl (yU hw hlab (fun r hr => hji (by simp at hr; exact hr.1))) (hR.ob j x hx)
 ·obtain ⟨h1, h2⟩ := hR.lab b' p hp
  exact ⟨by show b' < w'.heap.size; rw [hw.size]; exact h1, h2⟩
theorem sJ {E : Env} : ∀ {cs : List V} {xs : List Value}, Rvs E .none cs xs → ∀ (k : Nat) (x : Value), xs[k]? = some x → ∃ c, cs[k]? = some c ∧ Rv E .none c x
 | c :: cs, x :: xs, h, 0, x', hk => by simp at hk; subst hk; exact ⟨c, rfl, h.1⟩
 | c :: cs, x :: xs, h, k + 1, x', hk => by
  obtain ⟨c', hx, hr⟩ := sJ (cs := cs) (xs := xs) h.2 k x' (by simpa using hk)
  exact ⟨c', by simpa using hx, hr⟩
 | [], [], h, k, x', hk => by simp at hk
 | [], _ :: _, h, k, x', hk => h.elim
 | _ :: _, [], h, k, x', hk => by simp at hk
theorem nB {t : TypeId} {ti : TI} (hT : TIOk P t ti) {v : Value} {w : World} {b off : Nat} {c : Array Value} {e : TypeId} (hl : v.cells.size = ti.size) (hh : w.heap[b]? = some (.cells c e (0, 0))) (hs : off + ti.size ≤ c.size) (ho : ∀ x ∈ v.cells.toList, x.oneCell' = true) :
  ∃ w', (storeVar t ⟨b, off, none⟩ v).run P w = .ok () w' ∧ Wrote w w' b off v.cells.toList := by
 obtain ⟨w', hr, hw⟩ := iD P v.cells.toList w b off 0 c e hh (by simp [hl]; omega) ho
 exact ⟨w', by simp [storeVar, dZ hT, hl, hr], hw⟩
theorem tR {E : Env} {m : Md} {b off j : Nat} {cs : List V} {c : Array Value} {e : TypeId} (h : Rrow E m b off j cs) (hh : E.w.heap[b]? = some (.cells c e (0, 0))) (k : Nat) (hk : k < cs.length) : off + k < c.size := by
 obtain ⟨v, hv, _⟩ := bR h k _ (List.getElem?_eq_getElem hk)
 simp only [World.cell?, hh] at hv
 by_cases hlt : off + k < c.size
 ·exact hlt
 ·simp [hlt] at hv
theorem jX {w w' : World} {b off : Nat} {xs : List Value} {c : Array Value} {e : TypeId} (hw : Wrote w w' b off xs) (hh : w.heap[b]? = some (.cells c e (0, 0))) (k : Nat) :
  w'.cell? ⟨b, k, none⟩ = if off ≤ k ∧ k < off + xs.length then xs[k - off]? else w.cell? ⟨b, k, none⟩ := by
 obtain ⟨c', hc', _, hk⟩ := hw.row c e hh
 simp only [World.cell?, hh, hc']
 exact hk k
theorem zX {cs : List V} (h : eG cs = true) : ∃ l, cs = [.bp l] := by
 unfold eG at h
 split at h
 ·exact ⟨_, rfl⟩
 ·cases h
theorem DY {cs : List V} (h : cs.all fT = true) : eG cs = false := by
 cases hb : eG cs with
 | false => rfl
 | true =>
  obtain ⟨l, rfl⟩ := zX hb
  simp [fT] at h
theorem zR {cs : List V} {f : Nat} {v : V} (h : cs[f]? = some v) (hv : eU v = true) : eG cs = false := by
 cases hb : eG cs with
 | false => rfl
 | true =>
  obtain ⟨l, rfl⟩ := zX hb
  cases f with
  | zero => simp at h; subst h; cases hv
  | succ f => simp at h
theorem Y3 : ∀ l : List Value, eG (l.map .sc) = false
 | [] => rfl
 | [_] => rfl
 | _ :: _ :: _ => rfl
theorem IY {cs : List V} {f : Nat} {v u : V} (h : cs[f]? = some v) (hv : eU v = true) (hu : eU u = true) : eG (cs.set f u) = false := by
 have hl : f < cs.length := (List.getElem?_eq_some_iff.1 h).1
 exact zR (f := f) (v := u) (by rw [List.getElem?_set]; simp [hl]) hu
theorem R1 {cs vs : List V} {off n : Nat} (h : eG cs = false) (hs : vs.all eU = true) (hle : off + n ≤ cs.length) (hl : vs.length = n := by assumption) : eG (e7 cs off vs) = false := by
 cases hb : eG (e7 cs off vs) with
 | false => rfl
 | true =>
  obtain ⟨l, hl'⟩ := zX hb
  have hlen := yN (cs := cs) (vs := vs) (off := off) (by omega)
  rw [hl'] at hlen
  have hg := iB (cs := cs) (vs := vs) (off := off) (by omega) 0
  rw [hl'] at hg
  by_cases hin : off ≤ 0 ∧ 0 < off + vs.length
  ·rw [if_pos hin] at hg
   have := List.all_eq_true.1 hs _ (List.mem_of_getElem? hg.symm)
   simp [eU] at this
  ·rw [if_neg hin] at hg
   match cs, hlen, hg, h with
   | [c], _, hg, h =>
    simp only [List.getElem?_cons_zero, Option.some.injEq] at hg
    subst hg
    simp [eG] at h
theorem L4 {t : TypeId} {ti : TI} {x y : Operand} {i off : Nat} {cs vs : List V} (ho : o.op = .store t x y) (hR : Rel C E s a) (hT : TIOk P t ti) (hx : ev s x = .ptr i off) (hy : kL s (ev s y) = some vs) (hl : vs.length = ti.size) (hob : s.ob i = some ⟨true, cs⟩) (hnm : eG cs = false)
  (hs : vs.all eU = true) (hle : off + ti.size ≤ cs.length) (h : K .any (s.put i (some ⟨true, e7 cs off vs⟩))) : cX P C E s a o K := by
 have hpx := w3 hR hx hob
 have hvy := nG hR hy (cN hR y)
 obtain ⟨c, e, hh, h0, hlab, hrow⟩ := lT (hR.ob i _ hob) hnm
 have hlen : (a.eval y).cells.size = ti.size := by
  have := gF hvy
  simp at this
  omega
 have hone : ∀ z ∈ (a.eval y).cells.toList, z.oneCell' = true := by
  intro z hz
  obtain ⟨k, hk⟩ := List.getElem?_of_mem hz
  obtain ⟨c', hc', hr⟩ := sJ hvy k z hk
  exact kG (List.all_eq_true.1 hs c' (List.mem_of_getElem? hc')) hr
 have hcs : off + ti.size ≤ c.size := by
  rcases Nat.eq_zero_or_pos ti.size with hz | hz
  ·rcases Nat.eq_zero_or_pos off with h1 | h1
   ·omega
   ·have := tR hrow hh (off - 1) (by omega); omega
  ·have := tR hrow hh (off + ti.size - 1) (by omega); omega
 obtain ⟨w', hrun, hw⟩ := nB (P := P) hT hlen hh hcs hone
 have hxl : (a.eval y).cells.toList.length = vs.length := (gF hvy).symm
 have hnt : ∀ k, hZ (fun j => if j = i then some ⟨true, e7 cs off vs⟩ else E.g j) i k → hZ E.g i k ∧ w'.cell? ⟨(E.ρ i).1, (E.ρ i).2 + k, none⟩ = E.w.cell? ⟨(E.ρ i).1, (E.ρ i).2 + k, none⟩ := by
  rintro k ⟨_, _, _, _, hg, _⟩
  simp at hg
 have hm := M3 hR hw hob rfl hlab hnt
 intro next Q hn
 have hrun' : (execOp a.eval o).run P E.w = .ok .skip w' := by
  simp only [execOp, ho]
  rw [hpx, h0, Nat.zero_add]
  simp [Instr.storeAt, Instr.sureAddr, hrun]
 rw [hrun']
 refine hn .any _ (E.wr w' i ⟨true, e7 cs off vs⟩) undef h (QV hR hw hob rfl hlab hnt ?_) trivial
 obtain ⟨c', hc', hcsz, hck⟩ := hw.row c e hh
 refine .inl ⟨?_, c', e, hc', h0, hlab, cD fun k v hk => ?_⟩
 ·exact R1 hnm hs hle
 rw [iB (by omega)] at hk
 rw [Nat.zero_add]
 have hwc := jX hw hh k
 by_cases hin : off ≤ k ∧ k < off + vs.length
 ·rw [if_pos hin] at hk
  obtain ⟨z, hz, hr⟩ := gE hvy (k - off) v hk
  exact ⟨z, by show w'.cell? ⟨(E.ρ i).1, k, none⟩ = _; rw [hwc, if_pos (by omega)]; exact hz, hr.slot hm⟩
 ·rw [if_neg hin] at hk
  obtain ⟨z, hz, hr⟩ := bR hrow k v hk
  exact ⟨z, by show w'.cell? ⟨(E.ρ i).1, k, none⟩ = _; rw [hwc, if_neg (by omega)]; simpa using hz, Rv.slot hm hr⟩
theorem L5 {t : TypeId} {ti : TI} {x y : Operand} {i off : Nat} {cs vs r : List V} (ho : o.op = .store t x y) (hR : Rel C E s a) (hT : TIOk P t ti) (hx : ev s x = .ptr i off) (hy : kL s (ev s y) = some vs) (hl : vs.length = ti.size) (hob : s.ob i = some ⟨false, cs⟩)
  (hs : vs.all fT = true) (hr0 : dP cs off ti.size = some r) (hz0 : ti.size ≠ 0) (h : K .any (s.put i (some ⟨false, e7 cs off vs⟩))) : cX P C E s a o K := by
 have hpx := w3 hR hx hob
 have hvy := nG hR hy (cN hR y)
 obtain ⟨hle, hreq, hrl⟩ := e8 hr0
 rcases hR.ob i _ hob with h0 | ⟨c, e, hh, hlab, hrow⟩
 ·rw [h0] at hle; simp at hle; omega
 ·have hlen : (a.eval y).cells.size = ti.size := by
   have := gF hvy
   simp at this
   omega
  have hsol : ∀ v : V, fT v = true → eU v = true := by intro v hv; cases v <;> simp_all [fT, eU]
  have hone : ∀ z ∈ (a.eval y).cells.toList, z.oneCell' = true := by
   intro z hz
   obtain ⟨k, hk⟩ := List.getElem?_of_mem hz
   obtain ⟨c', hc', hr⟩ := sJ hvy k z hk
   exact kG (hsol _ (List.all_eq_true.1 hs c' (List.mem_of_getElem? hc'))) hr
  have hcs : (E.ρ i).2 + off + ti.size ≤ c.size := by
   have := tR hrow hh (off + ti.size - 1) (by omega); omega
  obtain ⟨w', hrun, hw⟩ := nB (P := P) (w := E.w) hT hlen hh hcs hone
  have hxl : (a.eval y).cells.toList.length = vs.length := (gF hvy).symm
  have hwc := jX hw hh
  have hnt : ∀ k, hZ (fun j => if j = i then some ⟨false, e7 cs off vs⟩ else E.g j) i k → hZ E.g i k ∧ w'.cell? ⟨(E.ρ i).1, (E.ρ i).2 + k, none⟩ = E.w.cell? ⟨(E.ρ i).1, (E.ρ i).2 + k, none⟩ := by
   rintro k ⟨cs', sz, n, rr, hg, hk⟩
   simp only [if_true, Option.some.injEq, Go.Proofs.YtboolngaahifdaaGreatD.Obj.mk.injEq, true_and] at hg
   subst hg
   rw [iB (by omega)] at hk
   by_cases hin : off ≤ k ∧ k < off + vs.length
   ·rw [if_pos hin] at hk
    have := List.all_eq_true.1 hs _ (List.mem_of_getElem? hk)
    simp [fT] at this
   ·rw [if_neg hin] at hk
    refine ⟨⟨cs, sz, n, rr, by rw [hR.g]; exact hob, hk⟩, ?_⟩
    rw [hwc, if_neg (by omega)]
  have hm := M3 hR hw hob rfl hlab hnt
  intro next Q hn
  have hrun' : (execOp a.eval o).run P E.w = .ok .skip w' := by
   simp only [execOp, ho]
   rw [hpx]
   simp [Instr.storeAt, Instr.sureAddr, hrun]
  rw [hrun']
  refine hn .any _ (E.wr w' i ⟨false, e7 cs off vs⟩) undef h (QV hR hw hob rfl hlab hnt ?_) trivial
  obtain ⟨c', hc', hcsz, hck⟩ := hw.row c e hh
  refine .inr ⟨c', e, hc', hlab, cD fun k v hk => ?_⟩
  rw [iB (by omega)] at hk
  by_cases hin : off ≤ k ∧ k < off + vs.length
  ·rw [if_pos hin] at hk
   obtain ⟨z, hz, hr⟩ := gE hvy (k - off) v hk
   have hfl := List.all_eq_true.1 hs _ (List.mem_of_getElem? hk)
   refine ⟨z, ?_, k8 hfl (hr.slot hm)⟩
   show w'.cell? ⟨(E.ρ i).1, (E.ρ i).2 + k, none⟩ = _
   rw [hwc, if_pos (by omega), show (E.ρ i).2 + k - ((E.ρ i).2 + off) = k - off from by omega]
   exact hz
  ·rw [if_neg hin] at hk
   obtain ⟨z, hz, hr⟩ := bR hrow k v hk
   refine ⟨z, ?_, Rv.mono hm.bare (fun q hq b r hb => ?_) (fun q j hq _ => by cases hq) hr⟩
   ·show w'.cell? ⟨(E.ρ i).1, (E.ρ i).2 + k, none⟩ = _
    rw [hwc, if_neg (by omega)]
    exact hz
   ·cases hq
    exact yU (ob := ⟨false, e7 cs off vs⟩) hw hlab (q := [i] ++ [0 + k]) (fun r' hr' => by simp at hr') b r hb
end
end Go.Proofs.YtboolngaahifdaaGreatD
