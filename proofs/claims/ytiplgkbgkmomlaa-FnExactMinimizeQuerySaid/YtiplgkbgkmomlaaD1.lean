/- Values, objects and states as the walk sees them, and the conditions of a piece of code, computed from its text. -/
import Derived.Calls
import Derived.Below
import Derived.Laws.Cells
import Derived.Laws.Sem
set_option linter.unusedVariables false
set_option linter.unusedSimpArgs false
namespace Go.Proofs.YtiplgkbgkmomlaaD
open Go

/-! ### Values -/
/-- bp: an address of a block of its holder's own, inside an argument or result · sp: an address inside the slice in cell j of object i. sc: one cell without memory behind it · ro: a slice that nobody writes · tr: a slice of its holder's own, inside a row · own: a slice of object i · sub: the slice in cell j of object i · ptr: an address in object i · rp: an address in memory that nobody writes. -/
inductive V where
  | sc (v : Value)
  | ro (n : Nat) (cs : List V)
  | tr (sz n : Nat) (cs : List V)
  | own (i sz off n lo : Nat) (hi : Option Nat)
  | sub (i j : Nat)
  | ptr (i off : Nat)
  | rp (cs : List V)
  | bp (cs : List V)
  | sp (i j off : Nat)
  | agg (cs : List V)
  | tup (cs : List V)
  | fn (f : Nat) (cs : List V)
  | any

structure Obj where
  box : Bool
  cs : List V

structure St where
  N : Nat
  t : List (Nat × V)
  g : List (Option Obj)

def lk : List (Nat × V) → Nat → V
  | [], _ => .any
  | (k, v) :: r, n => bif Nat.beq k n then v else lk r n
def up : List (Nat × V) → Nat → V → List (Nat × V)
  | [], n, v => [(n, v)]
  | (k, u) :: r, n, v => bif Nat.beq k n then (n, v) :: r else bif Nat.blt n k then (n, v) :: (k, u) :: r else (k, u) :: up r n v

def obOf : List (Option Obj) → Nat → Option Obj
  | [], _ => none
  | o :: _, 0 => o
  | _ :: r, n + 1 => obOf r n
def setOb : List (Option Obj) → Nat → Option Obj → List (Option Obj)
  | [], _, _ => []
  | _ :: r, 0, x => x :: r
  | o :: r, n + 1, x => o :: setOb r n x
def St.ob (s : St) (i : Nat) : Option Obj := obOf s.g i
def St.put (s : St) (i : Nat) (o : Option Obj) : St := { s with g := setOb s.g i o }
def St.add (s : St) (o : Obj) : St := { s with g := s.g ++ [some o] }

def constV : Value → V
  | .agg cs => bif cs.toList.all Value.oneCell' then .agg (cs.toList.map .sc) else .any
  | .tuple _ => .any
  | v => .sc v
def ev (s : St) : Operand → V
  | .tmp t => lk s.t t
  | .const v => constV v
  | .global _ => .any
  | .func f => .fn f []

/-- What is asked of a type: is it a struct or an array; its cells; its bytes; its zero value's cells; a slice's element type; a struct's fields' places; a number's kind. -/
structure TI where
  agg : Bool
  size : Nat
  bytes : Nat
  zero : List Value
  elem : Option Nat
  fields : List Nat
  fsz : List Nat
  kind : Option IntKind
  str : Bool
  boo : Bool
abbrev Tab := Nat → Option TI

def cellsV (s : St) : V → Option (List V)
  | .agg cs => some cs
  | .sc v => some [.sc v]
  | .ro n cs => some [.ro n cs]
  | .rp cs => some [.rp cs]
  | .fn f cs => some [.fn f cs]
  | .own i sz off n lo hi => some [.own i sz off n lo hi]
  | .sub i j => some [.sub i j]
  | .ptr i off => some [.ptr i off]
  | .sp i j off => some [.sp i j off]
  | _ => none
def solid : V → Bool
  | .any => false
  | .agg _ => false
  | .tup _ => false
  | .bp _ => false
  | _ => true
def takeN (cs : List V) (off n : Nat) : Option (List V) := bif Nat.ble (off + n) cs.length then some ((cs.drop off).take n) else none
def view (i j : Nat) : V → V
  | .tr _ _ _ => .sub i j
  | .bp _ => .any
  | v => v
def views (i : Nat) : Nat → List V → List V
  | _, [] => []
  | j, c :: cs => view i j c :: views i (j + 1) cs
def pack (agg : Bool) (r : List V) : V := match agg, r with
  | true, r => .agg r
  | false, [v] => v
  | false, _ => .any
def notTr : V → Bool
  | .tr .. => false
  | .bp _ => false
  | _ => true

mutual
/-- Read only, all the way down. -/
def roV : V → V
  | .tr _ n cs => .ro n (roVs cs)
  | .ro n cs => .ro n (roVs cs)
  | .rp cs => .rp (roVs cs)
  | .bp cs => .rp (roVs cs)
  | .agg cs => .agg (roVs cs)
  | .tup cs => .tup (roVs cs)
  | .fn f cs => .fn f (roVs cs)
  | v => v
def roVs : List V → List V
  | [] => []
  | c :: cs => roV c :: roVs cs
end
mutual
/-- It holds no slice that nobody writes. -/
def closed : V → Prop
  | .ro _ cs => cs = []
  | .rp _ => False
  | .bp cs => closeds cs
  | .tr _ _ cs => closeds cs
  | .agg cs => closeds cs
  | .tup cs => closeds cs
  | .fn _ cs => closeds cs
  | _ => True
def closeds : List V → Prop
  | [] => True
  | c :: cs => closed c ∧ closeds cs
end
mutual
/-- It is not of any object. -/
def roOnly : V → Bool
  | .sc _ => true
  | .ro _ _ => true
  | .rp _ => true
  | .agg cs => roOnlys cs
  | .fn _ cs => roOnlys cs
  | _ => false
def roOnlys : List V → Bool
  | [] => true
  | c :: cs => roOnly c && roOnlys cs
end

/-- A nil slice may be seen as an empty one. -/
def nilK (v : Value) (p q : Prop) : Prop := match v with
  | .slice none 0 0 => p ∨ q
  | _ => p
theorem nilK_cases {v : Value} {p q : Prop} (h : nilK v p q) : p ∨ (v = .slice none 0 0 ∧ q) := by
  unfold nilK at h
  split at h
  · exact h.imp id fun h => ⟨rfl, h⟩
  · exact .inl h
theorem nilK_imp {v : Value} {p q p' q' : Prop} (h : nilK v p q) (hp : p → p') (hq : q → q') : nilK v p' q' := by
  unfold nilK at h ⊢
  split at h
  · exact h.imp hp hq
  · exact hp h
def flat : V → Bool
  | .sc _ => true
  | .ro _ _ => true
  | _ => false

def memb : List Nat → Nat → Bool
  | [], _ => false
  | k :: r, i => bif Nat.beq k i then true else memb r i
mutual
/-- Objects of D alone. -/
def inD (D : List Nat) : V → Bool
  | .own i .. => memb D i
  | .sub i _ => memb D i
  | .ptr i _ => memb D i
  | .sp i _ _ => memb D i
  | .agg cs => inDs D cs
  | .tup cs => inDs D cs
  | .fn _ cs => inDs D cs
  | _ => true
def inDs (D : List Nat) : List V → Bool
  | [] => true
  | c :: cs => inD D c && inDs D cs
end
def boxIn (D : List Nat) : Nat → List (Option Obj) → Bool
  | _, [] => true
  | i, some ⟨true, cs⟩ :: r => (!(memb D i) || inDs D cs) && boxIn D (i + 1) r
  | i, _ :: r => boxIn D (i + 1) r
/-- Objects of D are given up. -/
def dropG (D : List Nat) : Nat → List (Option Obj) → List (Option Obj)
  | _, [] => []
  | i, o :: r => (bif memb D i then none else o) :: dropG D (i + 1) r
/-- So deep into boxes and captured values. -/
def snapF (g : List (Option Obj)) : Nat → V → V
  | 0, _ => .any
  | _ + 1, .sc v => .sc v
  | _ + 1, .ro n cs => .ro n cs
  | _ + 1, .rp cs => .rp cs
  | d + 1, .fn f cs => .fn f (cs.map (snapF g d))
  | d + 1, .ptr i off => match obOf g i with
    | some ⟨true, cs⟩ => .rp ((cs.drop off).map (snapF g d))
    | _ => .any
  | _, _ => .any
mutual
/-- What a callee sees of an argument. -/
def snapK (s : St) : V → (V → Prop) → Prop
  | .sc v, K => nilK v (K (.sc v)) (K (.ro 0 []))
  | .ro n cs, K => K (.ro n cs)
  | .own i sz off n _ _, K => match s.ob i with
    | some ⟨false, cs⟩ => ∃ r r', takeN cs off (n * sz) = some r ∧ roVs r = r' ∧ K (.ro n r')
    | _ => False
  | .sub i j, K => match s.ob i with
    | some ⟨false, cs⟩ => ∃ sz n r r', cs[j]? = some (.tr sz n r) ∧ roVs r = r' ∧ K (.ro n r')
    | _ => False
  | .ptr i off, K => match s.ob i with
    | some ⟨true, cs⟩ => bif cs.all flat then ∃ r, cs.drop off = r ∧ K (.rp r) else ∃ d r, snapF s.g d (.ptr i off) = r ∧ K r
    | some ⟨false, cs⟩ => bif Nat.beq cs.length 0 then False else ∃ r, roVs (cs.drop off) = r ∧ K (.rp r)
    | _ => False
  | .rp cs, K => K (.rp cs)
  | .agg cs, K => snapsK s cs fun xs => K (.agg xs)
  | .fn f cs, K => snapsK s cs fun xs => K (.fn f xs)
  | _, _ => False
def snapsK (s : St) : List V → (List V → Prop) → Prop
  | [], K => K []
  | c :: cs, K => snapK s c fun x => snapsK s cs fun xs => K (x :: xs)
end

mutual
/-- A result's slices as objects of the caller's own: k is the first new object's number. -/
def nl : V → Nat
  | .agg cs => nls cs
  | .tup cs => nls cs
  | .fn _ cs => nls cs
  | _ => 1
def nls : List V → Nat
  | [] => 0
  | c :: cs => nl c + nls cs
end
mutual
def impV (k : Nat) : V → V
  | .tr sz n _ => .own k sz 0 n n none
  | .bp _ => .ptr k 0
  | .agg cs => .agg (impVs k cs)
  | .tup cs => .tup (impVs k cs)
  | .fn f cs => .fn f (impVs k cs)
  | v => v
def impVs (k : Nat) : List V → List V
  | [] => []
  | c :: cs => impV k c :: impVs (k + nl c) cs
end
mutual
def impO : V → List (Option Obj)
  | .tr _ _ cs => [some ⟨false, cs⟩]
  | .bp cs => [some ⟨false, cs⟩]
  | .agg cs => impOs cs
  | .tup cs => impOs cs
  | .fn _ cs => impOs cs
  | _ => [none]
def impOs : List V → List (Option Obj)
  | [] => []
  | c :: cs => impO c ++ impOs cs
end

def sameK : IntKind → IntKind → Bool
  | .i8, .i8 | .i16, .i16 | .i32, .i32 | .i64, .i64 | .u8, .u8 | .u16, .u16 | .u32, .u32 | .u64, .u64 => true
  | _, _ => false
def binI (op : BinOp) (k : IntKind) (a b : Int) (K : V → Prop) : Prop :=
  match op with
  | .add => K (.sc (.int k (k.wrap (a + b))))
  | .sub => K (.sc (.int k (k.wrap (a - b))))
  | .mul => K (.sc (.int k (k.wrap (a * b))))
  | .quo => b ≠ 0 ∧ K (.sc (.int k (k.wrap (a.tdiv b))))
  | .rem => b ≠ 0 ∧ K (.sc (.int k (a.tmod b)))
  | .eql => K (.sc (.bool (a == b)))
  | .neq => K (.sc (.bool (a != b)))
  | .lss => K (.sc (.bool (decide (a < b))))
  | .leq => K (.sc (.bool (decide (a ≤ b))))
  | .gtr => K (.sc (.bool (decide (a > b))))
  | .geq => K (.sc (.bool (decide (a ≥ b))))
  | _ => False
def binS (op : BinOp) (a b : ByteArray) (K : V → Prop) : Prop :=
  match op with
  | .add => (a.size + b.size ≤ 9223372036854775807) ∧ K (.sc (.string (a ++ b)))
  | .eql => K (.sc (.bool (a.toList == b.toList)))
  | .neq => K (.sc (.bool (!(a.toList == b.toList))))
  | _ => False

/-- A slice against nil. -/
def nilC (op : BinOp) (e : Option Nat) (same : Bool) (K : V → Prop) : Prop :=
  match op, e with
  | .eql, some _ => K (.sc (.bool same))
  | .neq, some _ => K (.sc (.bool (!same)))
  | _, _ => False
def lenV (s : St) : V → Option Nat
  | .ro n _ => some n
  | .own _ _ _ n _ _ => some n
  | .sub i j => match s.ob i with
    | some ⟨false, cs⟩ => match cs[j]? with
      | some (.tr _ n _) => some n
      | _ => none
    | _ => none
  | .sc (.slice _ n _) => some n
  | .sc (.string s) => some s.size
  | _ => none

/-- A cell that goes into a row: slices of the state's own go in as they are and leave the state. -/
def intoK (s : St) : V → (V → St → Prop) → Prop
  | .sc v, K => nilK v (K (.sc v) s) (∃ sz, K (.tr sz 0 []) s)
  | .ro n cs, K => K (.ro n cs) s
  | .own i sz 0 n _ _, K => match s.ob i with
    | some ⟨false, cs⟩ => cs.length = n * sz ∧ K (.tr sz n cs) (s.put i none)
    | _ => False
  | .sub i j, K => match s.ob i with
    | some ⟨false, cs⟩ => ∃ sz n r, cs[j]? = some (.tr sz n r) ∧ K (.tr sz n r) (s.put i (some ⟨false, cs.set j .any⟩))
    | _ => False
  | _, _ => False
def intosK : St → List V → (List V → St → Prop) → Prop
  | s, [], K => K [] s
  | s, c :: cs, K => intoK s c fun x s1 => intosK s1 cs fun xs s2 => K (x :: xs) s2
/-- The cells that an append's second operand brings; rows that hold slices of their own are given up by their holder. -/
def srcK (s : St) (sz : Nat) : V → (Nat → List V → St → Prop) → Prop
  | .ro m cs, K => cs.length = m * sz ∧ (∀ c ∈ cs, solid c = true) ∧ K m cs s
  | .sc (.slice none 0 0), K => K 0 [] s
  | .own j sz' off m _ _, K => match s.ob j with
    | some ⟨false, cs⟩ => bif Nat.beq sz' sz then (∃ r, takeN cs off (m * sz) = some r ∧ ((∀ c ∈ r, flat c = true) ∧ K m r s ∨ (∀ c ∈ r, solid c = true) ∧ K m r (s.put j none))) else False
    | _ => False
  | .sub i j, K => match s.ob i with
    | some ⟨false, cs⟩ => ∃ m r, cs[j]? = some (.tr sz m r) ∧ (∀ c ∈ r, flat c = true) ∧ K m r s
    | _ => False
  | _, _ => False
/-- Lent: the trees that a callee gets, and where they lie (whole objects; cells of rows). -/
abbrev Lents := List (Nat × Option Nat)
def noWhole : Lents → Nat → Bool
  | [], _ => true
  | (k, none) :: r, i => !(Nat.beq k i) && noWhole r i
  | (_, some _) :: r, i => noWhole r i
def noneOf : Lents → Nat → Bool
  | [], _ => true
  | (k, _) :: r, i => !(Nat.beq k i) && noneOf r i
def apart : Lents → Nat → Nat → Prop
  | [], _, _ => True
  | (_, none) :: r, i, j => apart r i j
  | (k, some l) :: r, i, j => match Nat.beq k i with
    | true => l ≠ j ∧ apart r i j
    | false => apart r i j
mutual
def lendK (s : St) (X : Lents) : V → (V → Lents → Prop) → Prop
  | .sc v, K => nilK v (K (.sc v) X) (∃ sz, K (.tr sz 0 []) X)
  | .ro n cs, K => K (.ro n cs) X
  | .rp cs, K => K (.rp cs) X
  | .own i sz 0 n _ _, K => match s.ob i with
    | some ⟨false, cs⟩ => bif noneOf X i then cs.length = n * sz ∧ K (.tr sz n cs) ((i, none) :: X) else False
    | _ => False
  | .ptr i 0, K => match s.ob i with
    | some ⟨false, cs⟩ => bif noneOf X i then cs ≠ [] ∧ K (.bp cs) ((i, none) :: X) else False
    | _ => False
  | .sub i j, K => match s.ob i with
    | some ⟨false, cs⟩ => bif noWhole X i then apart X i j ∧ ∃ sz n r, cs[j]? = some (.tr sz n r) ∧ K (.tr sz n r) ((i, some j) :: X) else False
    | _ => False
  | .agg cs, K => lendsK s X cs fun us X => K (.agg us) X
  | .fn f cs, K => lendsK s X cs fun us X => K (.fn f us) X
  | _, _ => False
def lendsK (s : St) (X : Lents) : List V → (List V → Lents → Prop) → Prop
  | [], K => K [] X
  | c :: cs, K => lendK s X c fun u X => lendsK s X cs fun us X => K (u :: us) X
end
mutual
/-- What the state is when they come back. -/
def backK (s : St) : V → V → (St → Prop) → Prop
  | .own i _ _ _ _ _, u, K => match u with
    | .tr _ _ cs => K (s.put i (some ⟨false, cs⟩))
    | .any => K (s.put i none)
    | _ => False
  | .ptr i _, u, K => match u with
    | .bp cs => K (s.put i (some ⟨false, cs⟩))
    | .any => K (s.put i none)
    | _ => False
  | .sub i j, u, K => match u with
    | .tr sz n r => match s.ob i with
      | some ⟨false, cs⟩ => ∃ cs', cs.set j (.tr sz n r) = cs' ∧ K (s.put i (some ⟨false, cs'⟩))
      | _ => False
    | .any => match s.ob i with
      | some ⟨false, cs⟩ => K (s.put i (some ⟨false, cs.set j .any⟩))
      | _ => False
    | _ => False
  | .agg cs, u, K => match u with
    | .agg us => backsK s cs us K
    | _ => False
  | .fn _ cs, u, K => match u with
    | .fn _ us => backsK s cs us K
    | _ => False
  | .sc _, u, K => match u with
    | .sc _ => K s
    | .tr _ _ _ => K s
    | _ => False
  | .ro _ _, u, K => match u with
    | .ro _ _ => K s
    | _ => False
  | .rp _, u, K => match u with
    | .rp _ => K s
    | _ => False
  | _, _, _ => False
def backsK (s : St) : List V → List V → (St → Prop) → Prop
  | [], [], K => K s
  | c :: cs, u :: us, K => backK s c u fun s => backsK s cs us K
  | _, _, _ => False
end
mutual
/-- No address into a row of such an object. -/
def noSub (X : Lents) : V → Bool
  | .sub i _ => noWhole X i
  | .sp i _ _ => noWhole X i
  | .agg cs => noSubs X cs
  | .tup cs => noSubs X cs
  | .fn _ cs => noSubs X cs
  | _ => true
def noSubs (X : Lents) : List V → Bool
  | [] => true
  | c :: cs => noSub X c && noSubs X cs
end
def noSubT (X : Lents) : List (Nat × V) → Bool
  | [] => true
  | (_, v) :: r => noSub X v && noSubT X r
def noSubG (X : Lents) : List (Option Obj) → Bool
  | [] => true
  | some ⟨true, cs⟩ :: r => noSubs X cs && noSubG X r
  | _ :: r => noSubG X r
def setC (cs : List V) (off : Nat) : List V → List V
  | [v] => cs.set off v
  | vs => cs.take off ++ vs ++ cs.drop (off + vs.length)
/-- What is filled into a struct's or a row's zero cells. -/
def fillV (s : St) (place : Nat → Option (Nat × Nat)) (cells : List V) : List (Nat × V) → Option (List V)
  | [] => some cells
  | (i, v) :: rest => match place i, cellsV s v with
    | some (off, sz), some vs => bif Nat.beq vs.length sz && Nat.ble (off + vs.length) cells.length then fillV s place (setC cells off vs) rest else none
    | _, _ => none
def partsV (s : St) : List (Nat × Operand) → List (Nat × V)
  | [] => []
  | (i, x) :: r => (i, ev s x) :: partsV s r
def places (f z : List Nat) (i : Nat) : Option (Nat × Nat) := match f[i]?, z[i]? with
  | some a, some b => some (a, b)
  | _, _ => none
def nth (l : List Nat) (i : Nat) : Option Nat := l[i]?
def repl : Nat → List V → List V
  | 0, _ => []
  | n + 1, z => z ++ repl n z
end Go.Proofs.YtiplgkbgkmomlaaD
