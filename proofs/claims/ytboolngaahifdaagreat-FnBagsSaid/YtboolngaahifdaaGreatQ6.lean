/- Contracts and plain laws of this seat; no condition. -/
import Derived.Test.YtboolngaahifdaaGreatQ5
import Derived.Test.YtboolngaahifdaaGreatQ1
set_option linter.unusedVariables false
set_option linter.unusedSimpArgs false
namespace Go.Proofs.YtboolngaahifdaaGreatD
open Go
mutual
def a1L : V → List Nat
 | .own i .. => [i]
 | .sub i _ => [i]
 | .ptr i _ => [i]
 | .sp i _ _ => [i]
 | .mref i => [i]
 | .agg cs => FE cs
 | .tup cs => FE cs
 | .fn _ cs => FE cs
 | _ => []
def FE : List V → List Nat
 | [] => []
 | c :: cs => a1L c ++ FE cs
end
def OI : Option Obj → List Nat
 | some ⟨true, cs⟩ => FE cs
 | _ => []
def oY (s : St) : Nat → List Nat → List Nat → List Nat
 | 0, _, d => d
 | _ + 1, [], d => d
 | f + 1, i :: r, d => bif dY d i then oY s f r d else oY s f (r ++ OI (s.ob i)) (d ++ [i])
def T9 (t : List (Nat × V)) : List Nat → List Nat
 | [] => []
 | k :: r => a1L (lk t k) ++ T9 t r
def K4 (s : St) (i : Nat) (cs : List V) (f j z n : Nat) : St := match s.ob j with
 | some ⟨false, r⟩ => { s with g := kD (eR [j] 0 s.g) i (some ⟨true, cs.set f (.ro n (dM (r.take (n * z))))⟩) }
 | _ => s
def KR (s : St) (k sz : Nat) : St := match lk s.t k with
 | .sc (.slice none 0 0) => { s with t := up s.t k (.own s.g.length sz 0 0 0 none), g := s.g ++ [some ⟨false, []⟩] }
 | .ptr i 0 => match s.ob i with
  | some ⟨true, cs⟩ => match cs[Nat.pred (Nat.div sz 100)]? with
   | some (.sc (.slice none 0 0)) => { s with g := kD (s.g ++ [some ⟨false, []⟩]) i (some ⟨true, cs.set (Nat.pred (Nat.div sz 100)) (.own s.g.length (Nat.mod sz 100) 0 0 0 none)⟩) }
   | some (.own j z 0 n _ _) => bif Nat.beq (Nat.mod sz 100) 99 then K4 s i cs (Nat.pred (Nat.div sz 100)) j z n else s
   | _ => s
  | _ => s
 | _ => s
def jL : St → List (Nat × Nat) → St
 | s, [] => s
 | s, (k, sz) :: r => bif Nat.beq sz 0 then jL s r else jL (KR s k sz) r
def ZV : List (Nat × Nat) → List Nat
 | [] => []
 | (k, _) :: r => k :: ZV r
def iP : Nat → Nat → List Nat
 | 0, _ => []
 | n + 1, k => k :: iP n (k + 1)
def a3I (np : Nat) (ks : List Nat) (s : St) : St := l5 (oY s 100 (iP np 0 ++ T9 s.t ks) []) ks s
def a0D (np : Nat) (ks : List (Nat × Nat)) (s : St) : St := a3I np (ZV ks) (jL s ks)
def PM (i : Nat) (s : St) : St := match s.ob i with
 | some ⟨false, cs⟩ => s.put i (some ⟨false, dM cs⟩)
 | _ => s
def JU : List Nat → St → St
 | [], s => s
 | i :: D, s => JU D (PM i s)
def G9 (Q : X → St → Prop) (next : St → Prop) : X → St → Prop
 | .normal, s => next s
 | e, s => Q e s
def WE (id : Nat) (Q : X → St → Prop) : X → St → Prop
 | .exit i, s => bif Nat.beq i id then Q .normal s else Q (.exit i) s
 | e, s => Q e s
def a3R (np : Nat) (body : (X → St → Prop) → St → Prop) (Q : X → St → Prop) (s : St) : Prop :=
 ∃ (ks : List (Nat × Nat)) (I : Nat → St → Prop) (m : Nat), I m (a0D np ks s) ∧ ∀ m s1, I m s1 → body (G9 Q fun s2 => ∃ m', m' < m ∧ I m' (a0D np ks s2)) s1
def wc : Op → Nat
 | .alloc _ => 1
 | .box _ _ => 1
 | .call { callee := .value (.func _), .. } => 1
 | .call { callee := .value (.tmp _), .. } => 1
 | .makeFunc _ _ _ => 0
 | .call { callee := .builtin .append, .. } => 2
 | .buildSlice _ _ _ => 2
 | .makeSlice _ _ _ => 1
 | .store _ _ _ => 3
 | .call { callee := .builtin .len, .. } => 0
 | .move _ => 0
 | .assign _ => 0
 | .pick _ _ _ => 0
 | .binOp _ _ _ _ _ => 0
 | .unOp _ _ _ => 0
 | .extract _ _ => 0
 | .field _ _ _ => 0
 | .nilCheck _ => 0
 | .load _ _ => 0
 | .fieldAddr _ _ _ => 0
 | .indexAddr _ _ _ => 0
 | .index _ _ _ => 0
 | .build _ _ => 0
 | .slice _ _ _ _ none => 0
 | .convert _ _ _ => 0
 | .makeMap _ _ => 1
 | .lookup _ _ _ _ => 0
 | .mapUpdate _ _ _ _ => 3
 | _ => 9
def bB : Op → List Operand
 | .alloc _ => []
 | .box _ x => [x]
 | .call { callee := .value (.tmp t), args, .. } => .tmp t :: args.toList
 | .call { args, .. } => args.toList
 | .makeFunc _ _ c => c.toList
 | .buildSlice _ _ ps => ps.toList.map (·.2)
 | .makeSlice _ x y => [x, y]
 | .store _ x y => [x, y]
 | .move x => [x]
 | .assign x => [x]
 | .pick c a b => [c, a, b]
 | .binOp _ _ x y _ => [x, y]
 | .unOp _ _ x => [x]
 | .extract x _ => [x]
 | .field _ x _ => [x]
 | .nilCheck x => [x]
 | .load _ x => [x]
 | .fieldAddr _ x _ => [x]
 | .indexAddr _ x i => [x, i]
 | .index _ x i => [x, i]
 | .build _ ps => ps.toList.map (·.2)
 | .slice _ x lo hi none => x :: (lo.toList ++ hi.toList)
 | .slice _ x lo hi (some mx) => x :: (lo.toList ++ hi.toList) ++ [mx]
 | .convert _ _ x => [x]
 | .lookup _ x i _ => [x, i]
 | .mapUpdate _ x i y => [x, i, y]
 | _ => []
def NG (d : Nat) : List Operand → Bool
 | [] => false
 | .tmp t :: r => bif Nat.beq t d then true else NG d r
 | _ :: r => NG d r
def XT (ops : Array Oper) (o : Oper) (d : Nat) : Bool :=
 NG d (bB o.op) || (match o.guard with
  | some (j, _) => (match (ops[j]?).bind (·.dst) with
   | some e => Nat.beq e d
   | none => false)
  | none => false)
def pH (ops : Array Oper) (o : Oper) : Option Nat → Bool
 | some d => XT ops o d
 | none => false
def vO : Option Nat → Option Nat → Bool
 | some a, some b => Nat.beq a b
 | _, _ => false
def RY (cj ci : Nat) (fj : Bool) : Bool := Nat.beq cj 0 && (Nat.beq ci 0 || Nat.beq ci 1 || (Nat.beq ci 2 && fj))
def oA : Op → Bool
 | .move _ => true
 | .assign _ => true
 | .pick _ _ _ => true
 | .extract _ _ => true
 | .field _ _ _ => true
 | _ => false
def dD : Op → Bool
 | .call { callee := .value (.func _), .. } => true
 | .call { callee := .value (.tmp _), .. } => true
 | _ => false
def m9 : Op → Bool
 | .store _ _ _ => true
 | _ => false
def nZ : Op → Bool
 | .buildSlice _ _ ps => !(Nat.beq ps.size 0)
 | _ => false
def a01 : Op → Bool
 | .alloc _ => true
 | _ => false
def OH (f : Bool) (op : Op) : Bool := oA op || (f && nZ op)
def wcM (lm : Bool) (op : Op) : Nat := bif lm && dD op then 2 else wc op
def J1 (ops : Array Oper) (oj oi : Oper) (fj : Bool) : Bool :=
 ((Nat.beq (wc oj.op) 0 && fj) || OH fj oj.op) && !(pH ops oj oi.dst) && !(pH ops oi oj.dst) && !(vO oj.dst oi.dst)
def P6 (ops : Array Oper) (oj oi : Oper) (fj : Bool) : Bool :=
 (RY (wc oj.op) (wc oi.op) fj || OH fj oj.op) && !(pH ops oj oi.dst) && !(pH ops oi oj.dst) && !(vO oj.dst oi.dst)
def m4 (acc : List Nat) : List Edge → Nat
 | [] => 0
 | e :: r => bif Region.binds .any e then Nat.lor (Nat.lor (Nat.shiftLeft 1 e.on) (acc.getD e.on 0)) (m4 acc r) else m4 acc r
def fE : List Oper → List Nat → List Nat
 | [], acc => acc
 | o :: os, acc => fE os (acc ++ [m4 acc o.after.toList])
def gI (p : Nat → Bool) : Nat → Bool
 | 0 => true
 | n + 1 => p n && gI p n
def QC (ops : Array Oper) (A : List Nat) (p : Op → Bool) (k : Nat) : Bool := !(gI (fun m => match ops[m]? with
  | some o => !(p o.op) || Nat.beq m k || Nat.testBit (A.getD k 0) m || Nat.testBit (A.getD m 0) k
  | none => true) ops.size)
def fA (lm : Bool) (ops : Array Oper) (A : List Nat) (k : Nat) : Bool := match ops[k]? with
 | some o => bif dD o.op then lm else bif m9 o.op then QC ops A (fun p => Nat.beq (wc p) 0 && !(oA p)) k else bif nZ o.op then QC ops A (fun p => !(Nat.beq (wc p) 0) && !(a01 p)) k else QC ops A (fun p => Nat.beq (wcM lm p) 2 || m9 p) k
 | none => false
def yS (ops : Array Oper) (oj oi : Oper) (fj fi : Bool) : Bool := bif fi && dD oi.op then J1 ops oj oi fj else bif fi && m9 oi.op then J1 ops oj oi fj else P6 ops oj oi fj
def eI (lm : Bool) (ops : Array Oper) (A : List Nat) (j i : Nat) : Bool :=
 !(Nat.beq j i) && (Nat.testBit (A.getD i 0) j || (match ops[j]?, ops[i]? with
  | some oj, some oi => yS ops oj oi (fA lm ops A j) (fA lm ops A i)
  | _, _ => false))
def kR (p : Nat → Nat → Bool) : List Nat → Bool
 | [] => true
 | j :: r => r.all (p j) && kR p r
def uE (ops : Array Oper) : Bool :=
 gI (fun i => match ops[i]? with
  | some o => o.after.toList.all fun e => !(Region.binds .any e) || Nat.blt e.on i
  | none => true) ops.size
def S6 (ops : Array Oper) (A L : List Nat) : Bool := kR (eI false ops A) L && gI (fun i => dY L i) ops.size && L.all (fun i => Nat.blt i ops.size) && uE ops
def iQ (H : Nat → Bool) : Nat → List (Option Obj) → List (Option Obj)
 | _, [] => []
 | i, some ⟨true, cs⟩ :: r => (bif H i then none else some ⟨true, cs⟩) :: iQ H (i + 1) r
 | i, _ :: r => none :: iQ H (i + 1) r
def IK (spec : CallRel) (o : Oper) (s : St) (K : V → St → Prop) : Prop :=
 match o.op with
 | .call { callee := .value (.func f), args, .. } => pR spec s f (args.toList.map (ev s)) K ∨ wC spec s f (args.toList.map (ev s)) K ∨ EA spec s f (args.toList.map (ev s)) K
 | .call { callee := .value (.tmp t), args, .. } => match lk s.t t with
  | .fn f cs => pR spec s f (args.toList.map (ev s) ++ cs) K ∨ wC spec s f (args.toList.map (ev s) ++ cs) K ∨ EA spec s f (args.toList.map (ev s) ++ cs) K
  | _ => False
 | _ => False
def J5 (H : Nat → Bool) (s : St) : Op → Prop
 | .store _ x _ => match ev s x with
  | .ptr i _ => match s.ob i with
   | some ⟨true, _⟩ => H i = true
   | _ => True
  | _ => True
 | _ => False
def EQ (Γ : Tab) (o : Oper) (s : St) (K : V → St → Prop) : Prop := match o.op with
 | .buildSlice t len parts => match (Γ t).bind fun ti => ti.elem.bind Γ with
  | some te => bif Nat.ble (len * te.size) 1000 && !(Nat.beq te.size 0) then (match mO s (fun i => some (i * te.size, te.size)) (o7 len (te.zero.map .sc)) (lL s parts.toList) with
   | some cs => bif cs.all fT then K (.ro len cs) s else False
   | none => False) else False
  | none => False
 | _ => False
def mD (Γ : Tab) (spec : CallRel) (f : Bool) (o : Oper) (s : St) (K : V → St → Prop) : Prop :=
 bif f && Nat.beq (wc o.op) 0 then cM Γ spec false o { s with g := iQ spec.hid 0 s.g } (fun v _ => K v s) else bif f && dD o.op then IK spec o s K else bif f && m9 o.op then J5 spec.hid s o.op ∧ cM Γ spec false o s K else bif f && nZ o.op then EQ Γ o s K else cM Γ spec false o s K
def dO (Γ : Tab) (spec : CallRel) (ops : Array Oper) (f : Bool) (o : Oper) (s : St) (K : St → Prop) : Prop :=
 mJ s ops o (mD Γ spec f o s fun v s' => sU s' o.dst v K) (sU s o.dst (.tup []) K)
def cA (Γ : Tab) (spec : CallRel) (ops : Array Oper) (fl : Nat → Bool) : List Nat → St → (St → Prop) → Prop
 | [], s, K => K s
 | i :: r, s, K => match ops[i]? with
  | some o => dO Γ spec ops (fl i) o s fun s2 => cA Γ spec ops fl r s2 K
  | none => cA Γ spec ops fl r s K
def zJ : List Nat → List Nat
 | [] => []
 | k :: r => bif Nat.beq k 1000 then [] else k :: zJ r
def vY : List Nat → List Nat
 | [] => []
 | k :: r => bif Nat.beq k 1000 then r else vY r
def HN (Γ : Tab) (o : Oper) : Bool := match o.op, o.guard, o.dst with
 | .alloc t, none, some _ => (Γ t).isSome
 | _, _, _ => false
def x6 (ops : Array Oper) (j i : Nat) : Bool := match ops[j]?, ops[i]? with
 | some oj, some oi => !(pH ops oj oi.dst) && !(vO oj.dst oi.dst)
 | _, _ => false
def N1 (Γ : Tab) (ops : Array Oper) (i : Nat) : Bool := match ops[i]? with
 | some o => HN Γ o
 | none => false
def xL (lm : Bool) (ops : Array Oper) (A AL L2 : List Nat) (j : Nat) : Bool := match ops[j]? with
 | some oj => !(dD oj.op) && AL.all (fun i => match ops[i]? with
   | some oi => P6 ops oj oi (fA lm ops A j)
   | none => false) && L2.all (fun i => eI lm ops A j i)
 | none => false
def a1H (ops : Array Oper) (i : Nat) : Bool := match ops[i]? with
 | some o => dD o.op
 | none => true
def D4 (ops : Array Oper) (j i : Nat) : Bool := match ops[j]?, ops[i]? with
 | some oj, some oi => !(vO oj.dst oi.dst)
 | _, _ => false
def T4 (lm : Bool) (np : Nat) (Γ : Tab) (ops : Array Oper) (A L1 AL L2 : List Nat) : Bool :=
 kR (eI lm ops A) L1 && kR (eI lm ops A) L2 && gI (fun i => dY L1 i || dY AL i || dY L2 i) ops.size && (L1 ++ AL ++ L2).all (fun i => Nat.blt i ops.size) && uE ops
  && AL.all (N1 Γ ops) && L1.all (fun j => AL.all (x6 ops j)) && kR (x6 ops) AL && L2.all (fun i => (AL.all fun j => Nat.testBit (A.getD i 0) j && !(Nat.beq i j)) && L1.all fun j => (Nat.testBit (A.getD i 0) j || xL lm ops A AL L2 j) && !(Nat.beq i j)) && AL.all (fun i => !(dY L1 i))
  && L2.all (fun i => !(a1H ops i)) && (!lm || kR (D4 ops) L1)
def BL (ops : Array Oper) : List Nat → St → (St → Prop) → Prop
 | [], s, K => K s
 | i :: r, s, K => match ops[i]? with
  | some o => sU s o.dst .any fun s => BL ops r s K
  | none => False
def BF : List Nat → Bool
 | k :: _ => Nat.beq k 1001
 | [] => false
def J2 : List Nat → List Nat
 | k :: r => bif Nat.beq k 1001 then r else k :: r
 | [] => []
def zT : List Nat → Bool
 | k :: _ => Nat.beq k 1002
 | [] => false
def TS : List Nat → List Nat
 | _ :: r => r
 | [] => []
def XF (ops : Array Oper) (A L : List Nat) : Bool :=
 !(Nat.beq ops.size 0) && kR (eI false ops A) L && gI (fun i => dY L i) (Nat.pred ops.size) && L.all (fun i => Nat.blt i (Nat.pred ops.size)) && uE ops && gI (fun i => Nat.testBit (A.getD (Nat.pred ops.size) 0) i) (Nat.pred ops.size)
def SG (Γ : Tab) (spec : CallRel) (ops : Array Oper) (s : St) (K : St → Prop) : Prop := match ops[Nat.pred ops.size]? with
 | some o => mJ s ops o (cM Γ spec true o s fun v s' => sU s' o.dst v K) (sU s o.dst (.tup []) K)
 | none => False
def JX (np : Nat) (Γ : Tab) (ops : Array Oper) (A L : List Nat) : Bool :=
 bif zT L then XF ops A (TS L) else bif dY L 1000 then T4 (BF L) np Γ ops A (zJ (J2 L)) (zJ (vY L)) (vY (vY L)) else S6 ops A L
def DR (Γ : Tab) (spec : CallRel) (ops : Array Oper) (A L : List Nat) (s : St) (K : St → Prop) : Prop :=
 bif zT L then cA Γ spec ops (fA false ops A) (TS L) s fun s => SG Γ spec ops s K else bif dY L 1000 then BL ops (zJ (vY L) ++ (bif BF L then zJ (J2 L) else [])) s fun s => cA Γ spec ops (fA (BF L) ops A) (zJ (J2 L)) s fun s => cA Γ spec ops (fA (BF L) ops A) (zJ (vY L)) s fun s => cA Γ spec ops (fA (BF L) ops A) (vY (vY L)) s K
 else cA Γ spec ops (fA false ops A) L s K
def yL : List Nat → List Nat
 | [] => []
 | k :: r => bif Nat.ble 2000 k then yL r else k :: yL r
def a3F (L : List Nat) (i : Nat) : Bool := dY L (2000 + i)
def XR : List Nat → Bool
 | [] => false
 | k :: r => bif Nat.ble 4000 k then true else XR r
def XQ : List Nat → List Nat
 | [] => []
 | k :: r => bif Nat.ble 4000 k then Nat.sub k 4000 :: XQ r else XQ r
def XP (s : St) : V → (V → Prop) → Prop
 | .ptr i off, K => match s.ob i with
  | some ⟨true, cs⟩ => bif eG cs then False else oB s (cs.drop off) fun r => K (.rp r)
  | _ => False
 | v, K => rZ s v K
def KK (s : St) : List Nat → (List (Nat × V) → Prop) → Prop
 | [], K => K []
 | k :: r, K => XP s (lk s.t k) fun v => KK s r fun vs => K ((k, v) :: vs)
def a0W : V → V
 | .sc v => .sc v
 | _ => .any
def lG (s2 : St) : List Oper → St → St
 | [], s => s
 | o :: r, s => match o.dst with
  | some d => lG s2 r { s with t := up s.t d (a0W (lk s2.t d)) }
  | none => lG s2 r s
def I7 (s2 : St) : List Oper → St → (St → Prop) → Prop
 | [], s, K => K s
 | o :: r, s, K => match o.dst with
  | some d => sU s (some d) (a0W (lk s2.t d)) fun s => I7 s2 r s K
  | none => I7 s2 r s K
def lmL (M : List Nat) : Bool := bif zT M then false else bif dY M 1000 then BF M else false
def flF (L : List Nat) (ops : Array Oper) (A : List Nat) : Nat → Bool := bif dY L 3999 then (fun i => dY L (3000 + i)) else fA (lmL (yL L)) ops A
def a1M : Bool → Bool → Bool
 | true, b => b
 | false, b => !b
def PW (ops : Array Oper) (A L : List Nat) : Bool := bif dY L 3999 then gI (fun i => a1M (dY L (3000 + i)) (fA (lmL (yL L)) ops A i)) ops.size else true
def JY (Γ : Tab) (spec : CallRel) (ops : Array Oper) (fl : Nat → Bool) (L : List Nat) (s : St) (K : St → Prop) : Prop :=
 bif zT L then cA Γ spec ops fl (TS L) s fun s => SG Γ spec ops s K else bif dY L 1000 then BL ops (zJ (vY L) ++ (bif BF L then zJ (J2 L) else [])) s fun s => cA Γ spec ops fl (zJ (J2 L)) s fun s => cA Γ spec ops fl (zJ (vY L)) s fun s => cA Γ spec ops fl (vY (vY L)) s K
 else cA Γ spec ops fl L s K
theorem AU {p : Nat → Bool} : ∀ {n : Nat}, gI p n = true → ∀ i, i < n → p i = true
 | n + 1, h, i, hi => by
  simp only [gI, Bool.and_eq_true] at h
  rcases Nat.lt_or_ge i n with h1 | h1
  ·exact AU h.2 i h1
  ·rw [show i = n from by omega]; exact h.1
theorem lJ {Γ : Tab} {spec : CallRel} {ops : Array Oper} {fl fl' : Nat → Bool} (h : ∀ i, i < ops.size → fl i = fl' i) : ∀ (L : List Nat) (s : St) (K : St → Prop), cA Γ spec ops fl L s K = cA Γ spec ops fl' L s K
 | [], s, K => rfl
 | i :: r, s, K => by
  unfold cA
  split
  ·rename_i o ho
   have hi : i < ops.size := (Array.getElem?_eq_some_iff.1 ho).1
   rw [h i hi]
   congr 1
   funext s2
   exact lJ h r s2 K
  ·exact lJ h r s K
theorem UI {Γ : Tab} {spec : CallRel} {ops : Array Oper} {A M : List Nat} {fl : Nat → Bool} {s : St} {K : St → Prop} (h : ∀ i, i < ops.size → fl i = fA (lmL M) ops A i) : JY Γ spec ops fl M s K = DR Γ spec ops A M s K := by
 unfold JY DR
 unfold lmL at h
 cases hl : zT M with
 | true =>
  rw [hl] at h
  simp only [cond_true] at h ⊢
  exact lJ h _ _ _
 | false =>
  rw [hl] at h
  simp only [cond_false] at h ⊢
  cases hm : dY M 1000 with
  | true =>
   rw [hm] at h
   simp only [cond_true] at h ⊢
   congr 1
   funext s1
   rw [lJ h]
   congr 1
   funext s2
   rw [lJ h]
   congr 1
   funext s3
   exact lJ h _ _ _
  | false =>
   rw [hm] at h
   simp only [cond_false] at h ⊢
   exact lJ h _ _ _
theorem X0 {ops : Array Oper} {A L : List Nat} (h : PW ops A L = true) (i : Nat) (hi : i < ops.size) : flF L ops A i = fA (lmL (yL L)) ops A i := by
 unfold PW at h
 unfold flF
 cases hm : dY L 3999 with
 | false => rfl
 | true =>
  rw [hm] at h
  simp only [cond_true] at h ⊢
  have h1 := AU h i hi
  revert h1
  generalize dY L (3000 + i) = a
  generalize fA (lmL (yL L)) ops A i = b
  cases a <;> cases b <;> simp [a1M]
def XS (Γ : Tab) (spec : CallRel) (ops : Array Oper) (A L : List Nat) (s : St) (K : St → Prop) : Prop :=
 bif XR L then KK s (XQ L) fun vs => JY Γ spec ops (flF L ops A) (yL L) ⟨s.N, vs, []⟩ fun s2 => I7 s2 ops.toList s K else JY Γ spec ops (flF L ops A) (yL L) s K
def a34 (np : Nat) (Γ : Tab) (spec : CallRel) (ops : Array Oper) (s : St) (K : St → Prop) : Prop :=
 ∃ L : List Nat, (JX np Γ ops (fE ops.toList []) (yL L) && PW ops (fE ops.toList []) L) = true ∧ XS Γ { spec with hid := a3F L } ops (fE ops.toList []) L s K
def HJ (np : Nat) (Γ : Tab) (spec : CallRel) (ops : Array Oper) (draw : Bool) (Q : X → St → Prop) (s : St) : Prop := match draw with
 | false => T2 Γ spec ops ops.toList s (Q .normal)
 | true => a34 np Γ spec ops s (Q .normal)
def PX (k : Nat) : Code → Option (Array Oper)
 | .region id ops _ => bif Nat.beq id k then some ops else none
 | .seq a b => match PX k a with
  | some r => some r
  | none => PX k b
 | .cond _ a b => match PX k a with
  | some r => some r
  | none => PX k b
 | .block _ c => PX k c
 | .loop c => PX k c
 | _ => none
noncomputable def QT (fn : Func) (k : Nat) : Array Oper := match fn.body with
 | some c => match PX k c with
  | some r => r
  | none => #[]
 | none => #[]
def VC (np : Nat) (Γ : Tab) (spec : CallRel) : Code → (X → St → Prop) → St → Prop
 | .skip, Q, s => Q .normal s
 | .region id ops draw, Q, s => bif spec.gvr id then HJ np Γ { spec with giv := true } ops draw Q s else bif spec.cut id then ∃ (ks : List (Nat × Nat)) (D : List Nat) (s1 : St) (ops1 : Array Oper), JU D (a0D np ks s) = s1 ∧ ops = ops1 ∧ HJ np Γ spec ops1 draw Q s1 else HJ np Γ spec ops draw Q s
 | .seq x y, Q, s => VC np Γ spec x (G9 Q fun s' => VC np Γ spec y Q s') s
 | .cond c x y, Q, s => match ev s c with
  | .sc (.bool b) => match b with
   | true => VC np Γ spec x Q s
   | false => VC np Γ spec y Q s
  | _ => False
 | .block id c, Q, s => VC np Γ spec c (WE id Q) s
 | .exit id, Q, s => Q (.exit id) s
 | .ret, Q, s => Q .ret s
 | .loop c, Q, s => a3R np (VC np Γ spec c) Q s
 | _, _, _ => False
mutual
def a0J (s : St) : V → (V → St → Prop) → Prop
 | .sc v, K => KT v (K (.sc v) s) (∃ sz, K (.tr sz 0 []) s)
 | .ro n cs, K => K (.ro n cs) s
 | .own i sz 0 n _ _, K => match s.ob i with
  | some ⟨false, cs⟩ => cs.length = n * sz ∧ K (.tr sz n cs) (s.put i none)
  | _ => False
 | .ptr i 0, K => match s.ob i with
  | some ⟨true, c :: cs⟩ => fT c = true ∧ cs.all fT = true ∧ K (.bp (c :: cs)) (s.put i none)
  | some ⟨false, c :: cs⟩ => K (.bp (c :: cs)) (s.put i none)
  | _ => False
 | .agg cs, K => IM s cs fun us s' => K (.agg us) s'
 | _, _ => False
def IM (s : St) : List V → (List V → St → Prop) → Prop
 | [], K => K [] s
 | c :: cs, K => a0J s c fun u s1 => IM s1 cs fun us s2 => K (u :: us) s2
end
def QW (Γ : Tab) (s : St) : List ResultVar → (List V → Prop) → Prop
 | [], K => K []
 | .tmp t :: r, K => QW Γ s r fun vs => K (lk s.t t :: vs)
 | .cell x t :: r, K => match lk s.t x, Γ t with
  | .ptr i off, some ti => match s.ob i with
   | some ⟨true, cs⟩ => bif eG cs then False else match dP cs off ti.size with
    | some c => QW Γ s r fun vs => K (y8 ti.agg c :: vs)
    | none => False
   | _ => False
  | _, _ => False
def one : List V → V
 | [v] => v
 | vs => .tup vs
def a1E (Γ : Tab) (fn : Func) (r : V) (s : St) : Prop := QW Γ s fn.results.toList fun vs => IM s vs fun us _ => one us = r
def DS (Γ : Tab) (fn : Func) (r : V) : X → St → Prop
 | .exit _, _ => False
 | _, s => a1E Γ fn r s
def x3 : Nat → List V → List (Nat × V)
 | _, [] => []
 | k, v :: r => (k, v) :: x3 (k + 1) r
def U0 : Nat → List V → (List (Nat × V) → Prop) → Prop
 | _, [], K => K []
 | k, v :: r, K => U0 (k + 1) r fun t => K ((k, v) :: t)
theorem CK : ∀ (k : Nat) (l : List V) (K : List (Nat × V) → Prop), U0 k l K = K (x3 k l)
 | k, [], K => rfl
 | k, v :: r, K => by simp only [U0, x3, CK (k + 1) r]
def a0C : Nat → (Nat → Prop) → Prop
 | 0, K => K 0
 | n + 1, K => K (n + 1)
theorem KS (n : Nat) (K : Nat → Prop) : a0C n K = K n := by cases n <;> rfl
def YT (fn : Func) (args : List V) : St := ⟨fn.ntmps, x3 0 args, []⟩
def a1Q (Γ : Tab) (spec : CallRel) (fn : Func) (args : List V) (r : V) : Prop := match fn.body with
 | some c => bif Nat.ble args.length fn.ntmps then a0C fn.ntmps fun n => U0 0 args fun t => VC 0 Γ spec c (DS Γ fn r) ⟨n, t, []⟩ else False
 | none => False
mutual
def ZS (s : St) (k : Nat) : V → (V → Prop) → Prop
 | .tr sz n _, K => match s.ob k with
  | some ⟨false, cs⟩ => cs.length = n * sz ∧ K (.tr sz n cs)
  | none => K .any
  | _ => False
 | .bp _, K => match s.ob k with
  | some ⟨false, cs⟩ => cs ≠ [] ∧ K (.bp cs)
  | none => K .any
  | _ => False
 | .agg cs, K => MW s k cs fun us => K (.agg us)
 | .fn f cs, K => MW s k cs fun us => K (.fn f us)
 | .sc v, K => K (.sc v)
 | .ro n cs, K => K (.ro n cs)
 | .rp cs, K => K (.rp cs)
 | _, _ => False
def MW (s : St) (k : Nat) : List V → (List V → Prop) → Prop
 | [], K => K []
 | c :: cs, K => ZS s k c fun u => MW s (k + nl c) cs fun us => K (u :: us)
end
def W1 (Γ : Tab) (fn : Func) (as : List V) (r : V) (outs : List V) (s : St) : Prop := QW Γ s fn.results.toList fun vs => IM s vs fun us s2 => one us = r ∧ MW s2 0 as fun os => os = outs
def a3E (Γ : Tab) (fn : Func) (as : List V) (r : V) (outs : List V) : X → St → Prop
 | .exit _, _ => False
 | _, s => W1 Γ fn as r outs s
def VX (np : Nat) (Γ : Tab) (spec : CallRel) (fn : Func) (as : List V) (r : V) (outs : List V) : Prop := match fn.body with
 | some c => bif Nat.ble as.length fn.ntmps then a0C fn.ntmps fun n => sZ (rV 0 as) fun vs => pF (k9 as) fun g => U0 0 vs fun t => VC np Γ spec c (a3E Γ fn as r outs) ⟨n, t, g⟩ else False
 | none => False
def rT (N : Nat) : List Nat → List Nat
 | [] => []
 | i :: r => bif Nat.blt i N then i :: rT N r else rT N r
def i4 (np : Nat) (s : St) : List Nat := rT s.g.length (oY s 100 (iP np 0) [])
def W0 (np : Nat) (Γ : Tab) (fn : Func) (Post : V → List (Option Obj) → Prop) (s : St) : Prop :=
 ∃ ks : List (Nat × Nat), QW Γ (jL s ks) fn.results.toList fun vs => IM (jL s ks) vs fun us s2 => pF (jU (i4 np s2) s2 0 (i4 np s2)) fun g2 => lF (one us) fun r => Post r g2
def a3D (np : Nat) (Γ : Tab) (fn : Func) (Post : V → List (Option Obj) → Prop) : X → St → Prop
 | .exit _, _ => False
 | _, s => W0 np Γ fn Post s
def VW (np : Nat) (Γ : Tab) (spec : CallRel) (fn : Func) (as : List V) (g : List (Option Obj)) (Post : V → List (Option Obj) → Prop) : Prop := match fn.body with
 | some c => bif Nat.ble as.length fn.ntmps then a0C fn.ntmps fun n => U0 0 as fun t => VC np Γ spec c (a3D np Γ fn Post) ⟨n, t, g⟩ else False
 | none => False
end Go.Proofs.YtboolngaahifdaaGreatD
namespace Go.Proofs.YtboolngaahifdaaGreatD
open Go
section
variable {Γ : Tab} {spec : CallRel} {o : Oper} {s s' : St} {K K' : V → St → Prop}
def LeG (g g' : List (Option Obj)) : Prop := ∀ i ob, aX g i = some ob → aX g' i = some ob
def LeB (H : Nat → Bool) (g g' : List (Option Obj)) : Prop := ∀ i cs, H i = false → aX g i = some ⟨true, cs⟩ → aX g' i = some ⟨true, cs⟩
variable {H : Nat → Bool}
theorem LeG.b {g g' : List (Option Obj)} (h : LeG g g') : LeB H g g' := fun i cs _ hi => h i _ hi
theorem LeG.refl (g : List (Option Obj)) : LeG g g := fun _ _ h => h
theorem LeB.refl (g : List (Option Obj)) : LeB H g g := fun _ _ _ h => h
theorem LeB.trans {a b c : List (Option Obj)} (h : LeB H a b) (k : LeB H b c) : LeB H a c := fun i cs hh hi => k i cs hh (h i cs hh hi)
theorem O4 : ∀ {g : List (Option Obj)} {more : List (Option Obj)} {i : Nat} {ob : Obj}, aX g i = some ob → aX (g ++ more) i = some ob
 | [], more, i, ob, h => by simp [aX] at h
 | x :: g, more, 0, ob, h => h
 | x :: g, more, i + 1, ob, h => O4 (g := g) h
theorem LeG.app (g more : List (Option Obj)) : LeG g (g ++ more) := fun _ _ h => O4 h
theorem LeB.put {g : List (Option Obj)} {i : Nat} {cs : List V} (h : aX g i = some ⟨false, cs⟩) : LeB H g (kD g i none) := fun j cs' _ hj => by
 rw [i7]
 by_cases hji : j = i
 ·subst hji
  rw [h] at hj
  cases hj
 ·rw [if_neg (fun he => hji he.1)]
  exact hj
theorem pQ : ∀ {g : List (Option Obj)} {k i : Nat} {ob : Obj}, aX (iQ H k g) i = some ob → H (k + i) = false ∧ ob.box = true ∧ aX g i = some ob
 | [], k, i, ob, h => by simp [iQ, aX] at h
 | some ⟨true, cs⟩ :: g, k, 0, ob, h => by
  cases hH : H k with
  | true => simp [iQ, aX, hH] at h
  | false => simp [iQ, aX, hH] at h; subst h; exact ⟨by first | exact hH | rfl, rfl, rfl⟩
 | some ⟨true, cs⟩ :: g, k, i + 1, ob, h => by
  have := pQ (g := g) (k := k + 1) (i := i) h
  rw [show k + (i + 1) = k + 1 + i from by omega]; exact this
 | some ⟨false, cs⟩ :: g, k, 0, ob, h => by simp [iQ, aX] at h
 | some ⟨false, cs⟩ :: g, k, i + 1, ob, h => by
  have := pQ (g := g) (k := k + 1) (i := i) h
  rw [show k + (i + 1) = k + 1 + i from by omega]; exact this
 | none :: g, k, 0, ob, h => by simp [iQ, aX] at h
 | none :: g, k, i + 1, ob, h => by
  have := pQ (g := g) (k := k + 1) (i := i) h
  rw [show k + (i + 1) = k + 1 + i from by omega]; exact this
theorem xA : ∀ {g : List (Option Obj)} {k i : Nat} {cs : List V}, H (k + i) = false → aX g i = some ⟨true, cs⟩ → aX (iQ H k g) i = some ⟨true, cs⟩
 | [], k, i, cs, hH, h => by simp [aX] at h
 | some ⟨true, cs⟩ :: g, k, 0, cs', hH, h => by
  rw [Nat.add_zero] at hH
  simpa [iQ, aX, hH] using h
 | some ⟨true, cs⟩ :: g, k, i + 1, cs', hH, h => xA (g := g) (k := k + 1) (i := i) (by rw [show k + 1 + i = k + (i + 1) from by omega]; exact hH) h
 | some ⟨false, cs⟩ :: g, k, 0, cs', hH, h => by simp [aX] at h
 | some ⟨false, cs⟩ :: g, k, i + 1, cs', hH, h => xA (g := g) (k := k + 1) (i := i) (by rw [show k + 1 + i = k + (i + 1) from by omega]; exact hH) h
 | none :: g, k, 0, cs', hH, h => by simp [aX] at h
 | none :: g, k, i + 1, cs', hH, h => xA (g := g) (k := k + 1) (i := i) (by rw [show k + 1 + i = k + (i + 1) from by omega]; exact hH) h
theorem LeB.boxes {g g' : List (Option Obj)} (h : LeB H g g') : LeG (iQ H 0 g) (iQ H 0 g') := fun i ob hi => by
 obtain ⟨hH, hb, hg⟩ := pQ hi
 obtain ⟨bx, cs⟩ := ob
 simp only at hb
 subst hb
 rw [Nat.zero_add] at hH
 exact xA (by rw [Nat.zero_add]; exact hH) (h i cs hH hg)
theorem LeG.ofBoxes (g : List (Option Obj)) : LeG (iQ H 0 g) g := fun i ob hi => (pQ hi).2.2
theorem oX : ∀ {ps : List (Nat × Operand)}, (∀ x ∈ ps.map (·.2), ev s x = ev s' x) → lL s ps = lL s' ps
 | [], _ => rfl
 | (i, x) :: r, h => by
  simp only [lL, h x (by simp), oX (ps := r) (fun y hy => h y (by simp at hy ⊢; exact .inr hy))]
theorem vV (v : V) : kL s v = kL s' v := by cases v <;> rfl
theorem qZ (place : Nat → Option (Nat × Nat)) : ∀ (ps : List (Nat × V)) (cells : List V), mO s place cells ps = mO s' place cells ps
 | [], cells => rfl
 | (i, v) :: r, cells => by
  simp only [mO, vV (s := s) (s' := s') v]
  split
  ·rename_i off sz vs _ _
   cases (Nat.beq vs.length sz && Nat.ble (off + vs.length) cells.length) with
   | false => rfl
   | true => exact qZ place r _
  ·rfl
theorem a05 (hle : LeG s.g s'.g) {v : V} {n : Nat} (h : GY s v = some n) : GY s' v = some n := by
 cases v with
 | sc v => cases v <;> exact h
 | sub i j =>
  simp only [GY] at h ⊢
  cases hob : s.ob i with
  | none => rw [hob] at h; cases h
  | some ob =>
   have := hle i ob hob
   rw [show s'.ob i = some ob from this]
   rw [hob] at h
   exact h
 | _ => exact h
theorem jP {b : Bool} {p : Prop} (h : bif b then p else False) : b = true ∧ p := by cases b <;> simp_all
theorem GO {b : Bool} {p : Prop} (h : bif b then False else p) : b = false ∧ p := by cases b <;> simp_all
theorem WA {op : BinOp} {k : IntKind} {a b : Int} {K : V → Prop} (h : U5 op k a b K) : ∃ v, K v ∧ ∀ K' : V → Prop, K' v → U5 op k a b K' := by
 cases op <;> simp only [U5] at h ⊢ <;> first | exact h.elim | exact ⟨_, h, fun K' hk => hk⟩ | exact ⟨_, h.2, fun K' hk => ⟨h.1, hk⟩⟩
theorem WB {op : BinOp} {a b : ByteArray} {K : V → Prop} (h : U6 op a b K) : ∃ v, K v ∧ ∀ K' : V → Prop, K' v → U6 op a b K' := by
 cases op <;> simp only [U6] at h ⊢ <;> first | exact h.elim | exact ⟨_, h, fun K' hk => hk⟩ | exact ⟨_, h.2, fun K' hk => ⟨h.1, hk⟩⟩
def Sum (Γ : Tab) (spec : CallRel) (o : Oper) (s : St) (K : V → St → Prop) : Prop :=
 ∃ v, K v s ∧ ∀ s' : St, (∀ x ∈ bB o.op, ev s x = ev s' x) → LeG s.g s'.g → ∀ K' : V → St → Prop, K' v s' → cM Γ spec false o s' K'
theorem YW {t : TypeId} {x : Operand} (hop : o.op = .load t x) (h : cM Γ spec false o s K) : Sum Γ spec o s K := by
 unfold Sum
 have key : ∀ {s' : St} {K' : V → St → Prop}, (match ev s' x, Γ t with
  | .ptr i off, some ti => match s'.ob i with
   | some ⟨true, cs⟩ => bif eG cs then False else match dP cs off ti.size with
    | some r => K' (y8 ti.agg r) s'
    | none => False
   | some ⟨false, cs⟩ => bif Nat.beq ti.size 0 then False else ∃ r, dP cs off ti.size = some r ∧ K' (y8 ti.agg (u7 i off r)) s'
   | none => False
  | .rp cs, some ti => ∃ r, dP cs 0 ti.size = some r ∧ K' (y8 ti.agg r) s'
  | .sp i j off, some ti => match s'.ob i with
   | some ⟨false, cs⟩ => bif Nat.beq ti.size 0 then False else ∃ sz n r q, cs[j]? = some (.tr sz n r) ∧ dP r off ti.size = some q ∧ (∀ c ∈ q, fT c = true) ∧ K' (y8 ti.agg q) s'
   | _ => False
  | _, _ => False) → cM Γ spec false o s' K' := by
  intro s' K' h
  unfold cM
  rw [hop]
  exact h
 have hag : ∀ {s' : St}, (∀ x ∈ bB o.op, ev s x = ev s' x) → ev s' x = ev s x := fun h => (h x (by rw [hop]; simp [bB])).symm
 unfold cM at h
 rw [hop] at h
 simp only at h
 cases hx : ev s x <;> cases ht : Γ t <;> rw [hx, ht] at h <;> simp only at h <;> try exact h.elim
 ·rename_i i off ti
  cases hob : s.ob i with
  | none => rw [hob] at h; exact h.elim
  | some ob =>
  obtain ⟨bx, cs⟩ := ob
  rw [hob] at h
  cases bx with
  | true =>
   obtain ⟨hnm, h⟩ := GO h
   cases hr : dP cs off ti.size with
   | none => rw [hr] at h; exact h.elim
   | some r =>
    rw [hr] at h
    refine ⟨_, h, fun s' h1 h2 K' hk => key ?_⟩
    rw [hag h1, hx, ht]
    simp only
    rw [show s'.ob i = _ from h2 i _ hob]
    simp only [hnm, cond_false, hr]
    exact hk
  | false =>
   obtain ⟨h0, r, hr, hK⟩ := GO h
   refine ⟨_, hK, fun s' h1 h2 K' hk => key ?_⟩
   rw [hag h1, hx, ht]
   simp only
   rw [show s'.ob i = _ from h2 i _ hob]
   simp only [h0, cond_false]
   exact ⟨r, hr, hk⟩
 ·obtain ⟨r, hr, hK⟩ := h
  refine ⟨_, hK, fun s' h1 h2 K' hk => key ?_⟩
  rw [hag h1, hx, ht]
  exact ⟨r, hr, hk⟩
 ·rename_i i j off ti
  cases hob : s.ob i with
  | none => rw [hob] at h; exact h.elim
  | some ob =>
  obtain ⟨bx, cs⟩ := ob
  rw [hob] at h
  cases bx with
  | true => exact h.elim
  | false =>
   obtain ⟨h0, sz, n, r, q, hj, hq, hf, hK⟩ := GO h
   refine ⟨_, hK, fun s' h1 h2 K' hk => key ?_⟩
   rw [hag h1, hx, ht]
   simp only
   rw [show s'.ob i = _ from h2 i _ hob]
   simp only [h0, cond_false]
   exact ⟨sz, n, r, q, hj, hq, hf, hk⟩
theorem HL {t : TypeId} {x ix : Operand} (hop : o.op = .indexAddr t x ix) (h : cM Γ spec false o s K) : Sum Γ spec o s K := by
 unfold Sum
 have hag : ∀ {s' : St}, (∀ x ∈ bB o.op, ev s x = ev s' x) → ev s' x = ev s x ∧ ev s' ix = ev s ix := fun h => ⟨(h x (by rw [hop]; simp [bB])).symm, (h ix (by rw [hop]; simp [bB])).symm⟩
 unfold cM at h
 rw [hop] at h
 simp only at h
 split at h
 ·rename_i hx hi ht
  obtain ⟨hz, h1, h2, hK⟩ := GO h
  refine ⟨_, hK, fun s' h3 h4 K' hk => ?_⟩
  unfold cM
  rw [hop]
  simp only [(hag h3).1, (hag h3).2, hx, hi, ht, hz, cond_false]
  exact ⟨h1, h2, hk⟩
 ·rename_i hx hi ht
  split at h
  ·rename_i ob hob
   obtain ⟨hz, h1, hK⟩ := jP h
   refine ⟨_, hK, fun s' h3 h4 K' hk => ?_⟩
   unfold cM
   rw [hop]
   simp only [(hag h3).1, (hag h3).2, hx, hi, ht]
   rw [show s'.ob _ = _ from h4 _ _ hob]
   simp only [hz, cond_true]
   exact ⟨h1, hk⟩
  ·exact h.elim
 ·rename_i hx hi ht
  split at h
  ·rename_i cs hob
   obtain ⟨n, r, hj, h1, hK⟩ := h
   refine ⟨_, hK, fun s' h3 h4 K' hk => ?_⟩
   unfold cM
   rw [hop]
   simp only [(hag h3).1, (hag h3).2, hx, hi, ht]
   rw [show s'.ob _ = _ from h4 _ _ hob]
   exact ⟨n, r, hj, h1, hk⟩
  ·exact h.elim
 ·rename_i hx hi ht
  split at h
  ·rename_i hT hob
   refine ⟨_, h.2, fun s' h3 h4 K' hk => ?_⟩
   unfold cM
   rw [hop]
   simp only [(hag h3).1, (hag h3).2, hx, hi, ht, hT]
   rw [show s'.ob _ = _ from h4 _ _ hob]
   exact ⟨h.1, hk⟩
  ·exact h.elim
 ·rename_i hx hi ht
  split at h
  ·rename_i hT
   refine ⟨_, h.2, fun s' h3 h4 K' hk => ?_⟩
   unfold cM
   rw [hop]
   simp only [(hag h3).1, (hag h3).2, hx, hi, ht, hT]
   exact ⟨h.1, hk⟩
  ·exact h.elim
 ·exact h.elim
theorem HK {t : TypeId} {x : Operand} {f : Nat} (hop : o.op = .fieldAddr t x f) (h : cM Γ spec false o s K) : Sum Γ spec o s K := by
 unfold Sum
 have hag : ∀ {s' : St}, (∀ x ∈ bB o.op, ev s x = ev s' x) → ev s' x = ev s x := fun h => (h x (by rw [hop]; simp [bB])).symm
 unfold cM at h
 rw [hop] at h
 simp only at h
 split at h
 ·rename_i hx hf
  split at h
  ·rename_i ob hob
   refine ⟨_, h, fun s' h3 h4 K' hk => ?_⟩
   unfold cM
   rw [hop]
   simp only [hag h3, hx, hf]
   rw [show s'.ob _ = _ from h4 _ _ hob]
   exact hk
  ·exact h.elim
 ·rename_i hx hf
  refine ⟨_, h, fun s' h3 h4 K' hk => ?_⟩
  unfold cM
  rw [hop]
  simp only [hag h3, hx, hf]
  exact hk
 ·rename_i hx hf
  refine ⟨_, h, fun s' h3 h4 K' hk => ?_⟩
  unfold cM
  rw [hop]
  simp only [hag h3, hx, hf]
  exact hk
 ·exact h.elim
theorem a14 {args : Array Operand} {ts : Array TypeId} (hop : o.op = .call { callee := .builtin .len, args, argTypes := ts }) (h : cM Γ spec false o s K) : Sum Γ spec o s K := by
 unfold Sum
 unfold cM at h
 rw [hop] at h
 simp only at h
 split at h
 ·rename_i x t hargs hts
  have hag : ∀ {s' : St}, (∀ x ∈ bB o.op, ev s x = ev s' x) → ev s' x = ev s x := fun h => (h x (by rw [hop]; simp [bB, hargs])).symm
  split at h
  ·rename_i b ti hx ht
   obtain ⟨hst, hK⟩ := jP h
   refine ⟨_, hK, fun s' h3 h4 K' hk => ?_⟩
   unfold cM
   rw [hop]
   simp only [hargs, hts, hag h3, hx, ht, hst, cond_true]
   exact hk
  ·rename_i i ti hx ht
   obtain ⟨hmt, h⟩ := jP h
   split at h
   ·rename_i cs hob
    obtain ⟨m, hm, hK⟩ := h
    refine ⟨_, hK, fun s' h3 h4 K' hk => ?_⟩
    unfold cM
    rw [hop]
    simp only [hargs, hts, hag h3, hx, ht, hmt, cond_true]
    rw [show s'.ob _ = _ from h4 _ _ hob]
    exact ⟨m, hm, hk⟩
   ·exact h.elim
  ·rename_i ti ht hv hv2
   split at h
   ·rename_i e n he hn
    refine ⟨_, h, fun s' h3 h4 K' hk => ?_⟩
    unfold cM
    rw [hop]
    simp only [hargs, hts]
    rw [hag h3, ht]
    have hl := a05 h4 hn
    generalize hq : ev s x = u at *
    split
    ·rename_i b ti' hu
     exact absurd rfl (hv b)
    ·rename_i b ti' hu
     exact absurd rfl (hv2 b)
    ·rename_i ti' _ _ hti
     cases hti
     simp only [he, hl]
     exact hk
    ·rename_i hti; simp at hti
   ·exact h.elim
  ·exact h.elim
 ·exact h.elim
theorem HQ {s s' : St} {d : Nat} {x : Option Operand} (h : ∀ y ∈ x.toList, ev s y = ev s' y) : eY s d x = eY s' d x := by
 cases x with
 | none => rfl
 | some x => simp only [eY, h x (by simp)]
theorem VN {t : TypeId} {x : Operand} {lo hi : Option Operand} (hop : o.op = .slice t x lo hi none) (h : cM Γ spec false o s K) : Sum Γ spec o s K := by
 unfold Sum
 have hag : ∀ {s' : St}, (∀ x ∈ bB o.op, ev s x = ev s' x) → ev s' x = ev s x ∧ (∀ d, eY s' d lo = eY s d lo) ∧ (∀ d, eY s' d hi = eY s d hi) := fun h =>
  ⟨(h x (by rw [hop]; simp [bB])).symm, fun d => (HQ fun y hy => h y (by rw [hop]; simp only [bB, List.mem_cons, List.mem_append]; exact .inr (.inl hy))).symm, fun d => (HQ fun y hy => h y (by rw [hop]; simp only [bB, List.mem_cons, List.mem_append]; exact .inr (.inr hy))).symm⟩
 unfold cM at h
 rw [hop] at h
 simp only at h
 split at h
 ·rename_i n cs te hx ht
  split at h
  ·rename_i l hh hl hhh
   obtain ⟨hb, hcl, r, hr, hK⟩ := h
   refine ⟨_, hK, fun s' h3 h4 K' hk => ?_⟩
   unfold cM
   rw [hop]
   simp only [(hag h3).1, (hag h3).2.1, (hag h3).2.2, hx, ht, hl, hhh]
   exact ⟨hb, hcl, r, hr, hk⟩
  ·exact h.elim
 ·rename_i i sz off n lo0 hi0 te hx ht
  split at h
  ·rename_i l hh hl hhh
   simp only [Bool.false_and, cond_false] at h
   obtain ⟨hz, hb, hK⟩ := jP h
   refine ⟨_, hK, fun s' h3 h4 K' hk => ?_⟩
   unfold cM
   rw [hop]
   simp only [(hag h3).1, (hag h3).2.1, (hag h3).2.2, hx, ht, hl, hhh, Bool.false_and, cond_false]
   simp only [hz, cond_true]
   exact ⟨hb, hk⟩
  ·exact h.elim
 ·rename_i b hx ht
  split at h
  ·rename_i l hh hl hhh
   obtain ⟨hs, hb, hK⟩ := h
   refine ⟨_, hK, fun s' h3 h4 K' hk => ?_⟩
   unfold cM
   rw [hop]
   simp only [(hag h3).1, (hag h3).2.1, (hag h3).2.2, hx, ht, hl, hhh]
   exact ⟨hs, hb, hk⟩
  ·exact h.elim
 ·exact h.elim
theorem NZ {op : BinOp} {e : Option Nat} {b : Bool} {K : V → Prop} (h : QH op e b K) : ∃ v, K v ∧ ∀ K' : V → Prop, K' v → QH op e b K' := by
 unfold QH at h ⊢
 split at h
 ·exact ⟨_, h, fun _ h => h⟩
 ·exact ⟨_, h, fun _ h => h⟩
 ·exact h.elim
theorem FB (h0 : wc o.op = 0) (h : cM Γ spec false o s K) : Sum Γ spec o s K := by
 have h' := h
 unfold cM at h
 split at h
 ·rename_i x hop
  refine ⟨_, h, fun s' h1 h2 K' hk => ?_⟩
  unfold cM; rw [hop]
  rw [h1 x (by rw [hop]; simp [bB])] at hk
  exact hk
 ·rename_i x hop
  refine ⟨_, h, fun s' h1 h2 K' hk => ?_⟩
  unfold cM; rw [hop]
  rw [h1 x (by rw [hop]; simp [bB])] at hk
  exact hk
 ·rename_i c x y hop
  split at h
  ·rename_i t hc
   refine ⟨if t then ev s x else ev s y, ?_, fun s' h1 h2 K' hk => ?_⟩
   ·cases t with
    | true => exact h
    | false => exact h
   ·unfold cM; rw [hop]
    simp only [← h1 c (by rw [hop]; simp [bB]), ← h1 x (by rw [hop]; simp [bB]), ← h1 y (by rw [hop]; simp [bB]), hc]
    cases t with
    | true => exact hk
    | false => exact hk
  ·exact h.elim
 ·rename_i op t x y t' hop
  split at h
  ·rename_i k m k' n hx hy
   obtain ⟨hs, h⟩ := jP h
   obtain ⟨v, hv, hsum⟩ := WA h
   refine ⟨v, hv, fun s' h1 h2 K' hk => ?_⟩
   unfold cM; rw [hop]
   simp only [← h1 x (by rw [hop]; simp [bB]), ← h1 y (by rw [hop]; simp [bB]), hx, hy, hs, cond_true]
   exact hsum _ hk
  ·rename_i m n hx hy
   obtain ⟨v, hv, hsum⟩ := WB h
   refine ⟨v, hv, fun s' h1 h2 K' hk => ?_⟩
   unfold cM; rw [hop]
   simp only [← h1 x (by rw [hop]; simp [bB]), ← h1 y (by rw [hop]; simp [bB]), hx, hy]
   exact hsum _ hk
  ·rename_i m n hx hy
   split at h
   ·rename_i hb
    refine ⟨_, h, fun s' h1 h2 K' hk => ?_⟩
    unfold cM; rw [hop]
    simp only [← h1 x (by rw [hop]; simp [bB]), ← h1 y (by rw [hop]; simp [bB]), hx, hy, hb]
    exact hk
   ·rename_i hb
    refine ⟨_, h, fun s' h1 h2 K' hk => ?_⟩
    unfold cM; rw [hop]
    simp only [← h1 x (by rw [hop]; simp [bB]), ← h1 y (by rw [hop]; simp [bB]), hx, hy, hb]
    exact hk
   ·exact h.elim
  ·rename_i n cs hx hy
   obtain ⟨hne, h⟩ := h
   obtain ⟨v, hv, hsum⟩ := NZ h
   refine ⟨v, hv, fun s' h1 h2 K' hk => ?_⟩
   unfold cM; rw [hop]
   simp only [← h1 x (by rw [hop]; simp [bB]), ← h1 y (by rw [hop]; simp [bB]), hx, hy]
   exact ⟨hne, hsum _ hk⟩
  ·rename_i hx hy
   obtain ⟨v, hv, hsum⟩ := NZ h
   refine ⟨v, hv, fun s' h1 h2 K' hk => ?_⟩
   unfold cM; rw [hop]
   simp only [← h1 x (by rw [hop]; simp [bB]), ← h1 y (by rw [hop]; simp [bB]), hx, hy]
   exact hsum _ hk
  ·exact h.elim
 ·rename_i t x hop
  split at h
  ·rename_i b hx
   refine ⟨_, h, fun s' h1 h2 K' hk => ?_⟩
   unfold cM; rw [hop]
   simp only [← h1 x (by rw [hop]; simp [bB]), hx]
   exact hk
  ·exact h.elim
 ·rename_i t x hop
  split at h
  ·rename_i b hx
   refine ⟨_, h, fun s' h1 h2 K' hk => ?_⟩
   unfold cM; rw [hop]
   simp only [← h1 x (by rw [hop]; simp [bB]), hx]
   exact hk
  ·exact h.elim
 ·rename_i x ix hop
  split at h
  ·rename_i vs hx
   split at h
   ·rename_i v hv
    refine ⟨_, h, fun s' h1 h2 K' hk => ?_⟩
    unfold cM; rw [hop]
    simp only [← h1 x (by rw [hop]; simp [bB]), hx, hv]
    exact hk
   ·exact h.elim
  ·exact h.elim
 ·rename_i t x f hop
  split at h
  ·rename_i cs d te hx hf hft
   obtain ⟨hag, h⟩ := GO h
   split at h
   ·rename_i c hc
    refine ⟨_, h, fun s' h1 h2 K' hk => ?_⟩
    unfold cM; rw [hop]
    simp only [← h1 x (by rw [hop]; simp [bB]), hx, hf, hft, hag, cond_false, hc]
    exact hk
   ·exact h.elim
  ·exact h.elim
 ·rename_i hop; rw [hop] at h0; simp [wc] at h0
 ·rename_i hop; rw [hop] at h0; simp [wc] at h0
 ·rename_i x hop
  split at h
  ·rename_i i off hx
   split at h
   ·rename_i ob hob
    refine ⟨_, h, fun s' h1 h2 K' hk => ?_⟩
    unfold cM; rw [hop]
    simp only [← h1 x (by rw [hop]; simp [bB]), hx]
    rw [show s'.ob _ = _ from h2 _ _ hob]
    exact hk
   ·exact h.elim
  ·rename_i cs hx
   refine ⟨_, h, fun s' h1 h2 K' hk => ?_⟩
   unfold cM; rw [hop]
   simp only [← h1 x (by rw [hop]; simp [bB]), hx]
   exact hk
  ·exact h.elim
 ·rename_i hop; exact YW hop h'
 ·rename_i hop; rw [hop] at h0; simp [wc] at h0
 ·rename_i hop; exact HK hop h'
 ·rename_i hop; exact HL hop h'
 ·rename_i t x ix hop
  split at h
  ·rename_i b k i hx hi
   obtain ⟨ht, hb, hK⟩ := h
   refine ⟨_, hK, fun s' h1 h2 K' hk => ?_⟩
   unfold cM; rw [hop]
   simp only [← h1 x (by rw [hop]; simp [bB]), ← h1 ix (by rw [hop]; simp [bB]), hx, hi]
   exact ⟨ht, hb, hk⟩
  ·exact h.elim
 ·rename_i t parts hop
  split at h
  ·rename_i ti ht
   obtain ⟨hfl, h⟩ := GO h
   split at h
   ·rename_i cs hf
    refine ⟨_, h, fun s' h1 h2 K' hk => ?_⟩
    unfold cM; rw [hop]
    rw [oX (s' := s') (fun x hx => h1 x (by rw [hop]; simpa [bB] using hx)), qZ (s' := s')] at hf
    simp only [ht, hfl, cond_false, hf]
    exact hk
   ·exact h.elim
  ·exact h.elim
 ·rename_i hop; rw [hop] at h0; simp [wc] at h0
 ·rename_i hop; exact VN hop h'
 ·rename_i hop; rw [hop] at h0; simp [wc] at h0
 ·rename_i hop; rw [hop] at h0; simp [wc] at h0
 ·rename_i src dst x hop
  split at h
  ·rename_i k' n k k0 hx hk hs
   refine ⟨_, h, fun s' h1 h2 K' hkk => ?_⟩
   unfold cM; rw [hop]
   simp only [← h1 x (by rw [hop]; simp [bB]), hx, hk, hs]
   exact hkk
  ·exact h.elim
  ·exact h.elim
 ·rename_i hop; exact a14 hop h'
 ·rename_i hop; rw [hop] at h0; simp [wc] at h0
 ·rename_i hop; rw [hop] at h0; simp [wc] at h0
 ·rename_i hop; rw [hop] at h0; simp [wc] at h0
 ·rename_i hop; rw [hop] at h0; simp [wc] at h0
 ·rename_i hop; rw [hop] at h0; simp [wc] at h0
 ·rename_i f first captured hop
  split at h
  ·rename_i hf
   refine ⟨_, h, fun s' h1 h2 K' hk => ?_⟩
   unfold cM; rw [hop]
   simp only [hf]
   rw [List.map_congr_left (f := ev s') (g := ev s) (fun x hx => (h1 x (by rw [hop]; simpa [bB] using hx)).symm)]
   exact hk
  ·exact h.elim
 ·rename_i hop; rw [hop] at h0; simp [wc] at h0
 ·rename_i t x ix c hop
  split at h
  ·rename_i i k ti hx hi ht
   obtain ⟨hmt, h⟩ := jP h
   split at h
   ·rename_i cs hob
    obtain ⟨m, hm, hK⟩ := h
    cases c with
    | true =>
     refine ⟨_, hK, fun s' h1 h2 K' hk => ?_⟩
     unfold cM; rw [hop]
     simp only [← h1 x (by rw [hop]; simp [bB]), ← h1 ix (by rw [hop]; simp [bB]), hx, hi, ht, hmt, cond_true]
     rw [show s'.ob _ = _ from h2 _ _ hob]
     exact ⟨m, hm, hk⟩
    | false =>
     refine ⟨_, hK, fun s' h1 h2 K' hk => ?_⟩
     unfold cM; rw [hop]
     simp only [← h1 x (by rw [hop]; simp [bB]), ← h1 ix (by rw [hop]; simp [bB]), hx, hi, ht, hmt, cond_true]
     rw [show s'.ob _ = _ from h2 _ _ hob]
     exact ⟨m, hm, hk⟩
   ·exact h.elim
  ·exact h.elim
 ·rename_i hop; rw [hop] at h0; simp [wc] at h0
 ·exact h.elim
end
end Go.Proofs.YtboolngaahifdaaGreatD
namespace Go.Proofs.YtboolngaahifdaaGreatD
open Go
section
variable {Γ : Tab} {spec : CallRel} {o : Oper} {N N' : Nat} {t t' : List (Nat × V)} {g : List (Option Obj)} {H : Nat → Bool}
theorem LeB.putSome {g : List (Option Obj)} {i : Nat} {cs ds : List V} (h : aX g i = some ⟨false, cs⟩) : LeB H g (kD g i (some ⟨false, ds⟩)) := fun j cs' _ hj => by
 rw [i7]
 by_cases hji : j = i
 ·subst hji
  rw [h] at hj
  cases hj
 ·rw [if_neg (fun he => hji he.1)]
  exact hj
theorem WJ (s : St) (f : Nat) (args : List V) (K : V → St → Prop) : qX spec false s f args K = pR spec s f args K := by
 unfold qX
 simp
theorem RV (s : St) (f : Nat) (args : List V) (K : V → St → Prop) : DF spec false s f args K = pR spec s f args K := by
 unfold DF
 simp
theorem Q4 {v : V} {K K' : V → St → Prop} (h : l9 ⟨N, t, g⟩ v K) (hK : ∀ u g', LeB H g g' → K u ⟨N, t, g'⟩ → K' u ⟨N', t', g'⟩) : l9 ⟨N', t', g⟩ v K' := by
 cases v with
 | sc v => exact qF h (hK _ _ (LeB.refl g)) (fun ⟨sz, h⟩ => ⟨sz, hK _ _ (LeB.refl g) h⟩)
 | ro n cs => exact hK _ _ (LeB.refl g) h
 | sub i j =>
  simp only [l9] at h ⊢
  cases hob : aX g i with
  | none => rw [show St.ob ⟨N, t, g⟩ i = none from hob] at h; exact h.elim
  | some ob =>
  obtain ⟨bx, cs⟩ := ob
  rw [show St.ob ⟨N, t, g⟩ i = _ from hob] at h
  rw [show St.ob ⟨N', t', g⟩ i = _ from hob]
  cases bx with
  | true => exact h.elim
  | false =>
   obtain ⟨sz, n, r, h1, h2⟩ := h
   exact ⟨sz, n, r, h1, hK _ _ (LeB.putSome hob) h2⟩
 | own i sz off n lo hi =>
  cases off with
  | succ off => exact h.elim
  | zero =>
  simp only [l9] at h ⊢
  cases hob : aX g i with
  | none => rw [show St.ob ⟨N, t, g⟩ i = none from hob] at h; exact h.elim
  | some ob =>
  obtain ⟨bx, cs⟩ := ob
  rw [show St.ob ⟨N, t, g⟩ i = _ from hob] at h
  rw [show St.ob ⟨N', t', g⟩ i = _ from hob]
  cases bx with
  | true => exact h.elim
  | false => exact ⟨h.1, hK _ _ (LeB.put hob) h.2⟩
 | _ => exact h.elim
theorem B6 : ∀ {vs : List V} {g : List (Option Obj)} {K K' : List V → St → Prop}, jT ⟨N, t, g⟩ vs K → (∀ us g', LeB H g g' → K us ⟨N, t, g'⟩ → K' us ⟨N', t', g'⟩) → jT ⟨N', t', g⟩ vs K'
 | [], g, K, K', h, hK => hK _ _ (LeB.refl g) h
 | v :: vs, g, K, K', h, hK => Q4 h fun u g' hle h1 => B6 h1 fun us g2 hle2 h2 => hK _ _ (hle.trans hle2) h2
theorem VL {sz : Nat} {v : V} {K K' : Nat → List V → St → Prop} (h : LU ⟨N, t, g⟩ sz v K) (hK : ∀ m u g', LeB H g g' → K m u ⟨N, t, g'⟩ → K' m u ⟨N', t', g'⟩) : LU ⟨N', t', g⟩ sz v K' := by
 cases v with
 | sc v =>
  simp only [LU] at h ⊢
  split at h
  ·rename_i heq; cases heq
  ·rename_i heq; cases heq; exact hK _ _ _ (LeB.refl g) h
  ·rename_i heq; cases heq
  ·rename_i heq; cases heq
  ·exact h.elim
 | ro n cs => exact ⟨h.1, h.2.1, hK _ _ _ (LeB.refl g) h.2.2⟩
 | own i sz' off n lo hi =>
  simp only [LU] at h ⊢
  cases hob : aX g i with
  | none => rw [show St.ob ⟨N, t, g⟩ i = none from hob] at h; exact h.elim
  | some ob =>
  obtain ⟨bx, cs⟩ := ob
  rw [show St.ob ⟨N, t, g⟩ i = _ from hob] at h
  rw [show St.ob ⟨N', t', g⟩ i = _ from hob]
  cases bx with
  | true => exact h.elim
  | false =>
   obtain ⟨hb, r, hr, h⟩ := jP h
   simp only [hb, cond_true]
   exact ⟨r, hr, h.imp (fun h => ⟨h.1, hK _ _ _ (LeB.refl g) h.2⟩) (fun h => ⟨h.1, hK _ _ _ (LeB.put hob) h.2⟩)⟩
 | sub i j =>
  simp only [LU] at h ⊢
  cases hob : aX g i with
  | none => rw [show St.ob ⟨N, t, g⟩ i = none from hob] at h; exact h.elim
  | some ob =>
  obtain ⟨bx, cs⟩ := ob
  rw [show St.ob ⟨N, t, g⟩ i = _ from hob] at h
  rw [show St.ob ⟨N', t', g⟩ i = _ from hob]
  cases bx with
  | true => exact h.elim
  | false =>
   obtain ⟨m, r, h1, h2, h3⟩ := h
   exact ⟨m, r, h1, h2, hK _ _ _ (LeB.refl g) h3⟩
 | _ => exact h.elim
theorem R0 {sz : Nat} {v w : V} {K K' : V → St → Prop} (h : IV ⟨N, t, g⟩ sz v w K) (hK : ∀ u g', LeB H g g' → K u ⟨N, t, g'⟩ → K' u ⟨N', t', g'⟩) : IV ⟨N', t', g⟩ sz v w K' := by
 unfold IV at h ⊢
 split at h
 ·rename_i i sz1 n lo hi j sz2 off m lo2 hi2
  simp only
  cases hob : aX g i with
  | none => rw [show St.ob ⟨N, t, g⟩ i = none from hob] at h; exact h.elim
  | some ob =>
  obtain ⟨bx, cs⟩ := ob
  rw [show St.ob ⟨N, t, g⟩ i = _ from hob] at h
  rw [show St.ob ⟨N', t', g⟩ i = _ from hob]
  cases bx with
  | true => exact h.elim
  | false =>
   obtain ⟨hb, h1, r, hr, hs, cs', hcs, h2⟩ := jP h
   simp only [hb, cond_true]
   exact ⟨h1, r, hr, hs, cs', hcs, hK _ _ ((LeB.put hob).trans (LeG.app _ _).b) h2⟩
 ·exact h.elim
mutual
theorem FV : ∀ {v : V} {K K' : V → Prop}, rZ ⟨N, t, g⟩ v K → (∀ u, K u → K' u) → rZ ⟨N', t', g⟩ v K'
 | .sc v, K, K', h, hK => qF h (hK _) (hK _)
 | .ro n cs, K, K', h, hK => hK _ h
 | .own i sz off n lo hi, K, K', h, hK => by
  simp only [rZ] at h ⊢
  cases hob : aX g i with
  | none => rw [show St.ob ⟨N, t, g⟩ i = none from hob] at h; exact h.elim
  | some ob =>
  obtain ⟨bx, cs⟩ := ob
  rw [show St.ob ⟨N, t, g⟩ i = _ from hob] at h
  rw [show St.ob ⟨N', t', g⟩ i = _ from hob]
  cases bx with
  | true => exact h.elim
  | false =>
   obtain ⟨r, r', h1, h2, h3⟩ := h
   exact ⟨r, r', h1, h2, hK _ h3⟩
 | .sub i j, K, K', h, hK => by
  simp only [rZ] at h ⊢
  cases hob : aX g i with
  | none => rw [show St.ob ⟨N, t, g⟩ i = none from hob] at h; exact h.elim
  | some ob =>
  obtain ⟨bx, cs⟩ := ob
  rw [show St.ob ⟨N, t, g⟩ i = _ from hob] at h
  rw [show St.ob ⟨N', t', g⟩ i = _ from hob]
  cases bx with
  | true => exact h.elim
  | false =>
   obtain ⟨sz, n, r, r', h1, h2, h3⟩ := h
   exact ⟨sz, n, r, r', h1, h2, hK _ h3⟩
 | .agg cs, K, K', h, hK => kE (vs := cs) h fun us hu => hK _ hu
 | .fn f cs, K, K', h, hK => kE (vs := cs) h fun us hu => hK _ hu
 | .rp cs, K, K', h, hK => hK _ h
 | .ptr i off, K, K', h, hK => by
  simp only [rZ] at h ⊢
  cases hob : aX g i with
  | none => rw [show St.ob ⟨N, t, g⟩ i = none from hob] at h; exact h.elim
  | some ob =>
  obtain ⟨bx, cs⟩ := ob
  rw [show St.ob ⟨N, t, g⟩ i = _ from hob] at h
  rw [show St.ob ⟨N', t', g⟩ i = _ from hob]
  cases bx with
  | true =>
   simp only at h ⊢
   cases hb : cs.all fT with
   | true =>
    rw [hb] at h
    obtain ⟨r, h1, h2⟩ := h
    exact ⟨r, h1, hK _ h2⟩
   | false =>
    rw [hb] at h
    obtain ⟨d, r, h1, h2⟩ := h
    exact ⟨d, r, h1, hK _ h2⟩
  | false =>
   obtain ⟨hb, r, h1, h2⟩ := GO h
   simp only [hb, cond_false]
   exact ⟨r, h1, hK _ h2⟩
 | .tr _ _ _, K, K', h, hK => h.elim
 | .bp _, K, K', h, hK => h.elim
 | .sp _ _ _, K, K', h, hK => h.elim
 | .mref _, K, K', h, hK => h.elim
 | .tup _, K, K', h, hK => h.elim
 | .any, K, K', h, hK => h.elim
theorem kE : ∀ {vs : List V} {K K' : List V → Prop}, oB ⟨N, t, g⟩ vs K → (∀ u, K u → K' u) → oB ⟨N', t', g⟩ vs K'
 | [], K, K', h, hK => hK _ h
 | v :: vs, K, K', h, hK => FV (v := v) h fun u hu => kE (vs := vs) hu fun us hus => hK _ hus
end
mutual
theorem QA : ∀ {v : V} {X : bM} {K K' : V → bM → Prop}, kQ ⟨N, t, g⟩ X v K → (∀ u X, K u X → K' u X) → kQ ⟨N', t', g⟩ X v K'
 | .sc v, X, K, K', h, hK => qF h (hK _ _) (fun ⟨sz, h⟩ => ⟨sz, hK _ _ h⟩)
 | .ro n cs, X, K, K', h, hK => hK _ _ h
 | .rp cs, X, K, K', h, hK => hK _ _ h
 | .own i sz 0 n lo hi, X, K, K', h, hK => by
  simp only [kQ] at h ⊢
  cases hob : aX g i with
  | none => rw [show St.ob ⟨N, t, g⟩ i = none from hob] at h; exact h.elim
  | some ob =>
  obtain ⟨bx, cs⟩ := ob
  rw [show St.ob ⟨N, t, g⟩ i = _ from hob] at h
  rw [show St.ob ⟨N', t', g⟩ i = _ from hob]
  cases bx with
  | true => exact h.elim
  | false =>
   obtain ⟨h1, h2, h3⟩ := jP h
   simp only [h1, cond_true]
   exact ⟨h2, hK _ _ h3⟩
 | .own i sz (_ + 1) n lo hi, X, K, K', h, hK => h.elim
 | .ptr i 0, X, K, K', h, hK => by
  simp only [kQ] at h ⊢
  cases hob : aX g i with
  | none => rw [show St.ob ⟨N, t, g⟩ i = none from hob] at h; exact h.elim
  | some ob =>
  obtain ⟨bx, cs⟩ := ob
  rw [show St.ob ⟨N, t, g⟩ i = _ from hob] at h
  rw [show St.ob ⟨N', t', g⟩ i = _ from hob]
  cases bx with
  | true => exact h.elim
  | false =>
   obtain ⟨h1, h2, h3⟩ := jP h
   simp only [h1, cond_true]
   exact ⟨h2, hK _ _ h3⟩
 | .ptr i (_ + 1), X, K, K', h, hK => h.elim
 | .sub i j, X, K, K', h, hK => by
  simp only [kQ] at h ⊢
  cases hob : aX g i with
  | none => rw [show St.ob ⟨N, t, g⟩ i = none from hob] at h; exact h.elim
  | some ob =>
  obtain ⟨bx, cs⟩ := ob
  rw [show St.ob ⟨N, t, g⟩ i = _ from hob] at h
  rw [show St.ob ⟨N', t', g⟩ i = _ from hob]
  cases bx with
  | true => exact h.elim
  | false =>
   obtain ⟨h1, h2, sz, n, r, h3, h4⟩ := jP h
   simp only [h1, cond_true]
   exact ⟨h2, sz, n, r, h3, hK _ _ h4⟩
 | .agg cs, X, K, K', h, hK => oT (vs := cs) h fun us X h => hK _ _ h
 | .fn f cs, X, K, K', h, hK => oT (vs := cs) h fun us X h => hK _ _ h
 | .tr _ _ _, X, K, K', h, hK => h.elim
 | .bp _, X, K, K', h, hK => h.elim
 | .sp _ _ _, X, K, K', h, hK => h.elim
 | .mref _, X, K, K', h, hK => h.elim
 | .tup _, X, K, K', h, hK => h.elim
 | .any, X, K, K', h, hK => h.elim
theorem oT : ∀ {vs : List V} {X : bM} {K K' : List V → bM → Prop}, o4 ⟨N, t, g⟩ X vs K → (∀ us X, K us X → K' us X) → o4 ⟨N', t', g⟩ X vs K'
 | [], X, K, K', h, hK => hK _ _ h
 | v :: vs, X, K, K', h, hK => QA (v := v) h fun u X hu => oT (vs := vs) hu fun us X hus => hK _ _ hus
end
mutual
def O2 (g : List (Option Obj)) : V → Prop
 | .own i .. => ∀ cs, aX g i ≠ some ⟨true, cs⟩
 | .ptr i _ => ∀ cs, aX g i ≠ some ⟨true, cs⟩
 | .sub i _ => ∀ cs, aX g i ≠ some ⟨true, cs⟩
 | .agg cs => wG g cs
 | .fn _ cs => wG g cs
 | _ => True
def wG (g : List (Option Obj)) : List V → Prop
 | [] => True
 | c :: cs => O2 g c ∧ wG g cs
end
mutual
theorem XL : ∀ {v : V} {X : bM} {K : V → bM → Prop}, kQ ⟨N, t, g⟩ X v K → O2 g v ∧ ∃ u X', K u X'
 | .sc v, X, K, h => ⟨trivial, (lI h).elim (fun h => ⟨_, _, h⟩) fun ⟨_, sz, h⟩ => ⟨_, _, h⟩⟩
 | .ro n cs, X, K, h => ⟨trivial, _, _, h⟩
 | .rp cs, X, K, h => ⟨trivial, _, _, h⟩
 | .own i sz 0 n lo hi, X, K, h => by
  simp only [kQ] at h
  cases hob : aX g i with
  | none => rw [show St.ob ⟨N, t, g⟩ i = none from hob] at h; exact h.elim
  | some ob =>
  obtain ⟨bx, cs⟩ := ob
  rw [show St.ob ⟨N, t, g⟩ i = _ from hob] at h
  cases bx with
  | true => exact h.elim
  | false =>
   obtain ⟨h1, h2, h3⟩ := jP h
   exact ⟨fun cs' hc => (by rw [hob] at hc; cases hc), _, _, h3⟩
 | .own i sz (_ + 1) n lo hi, X, K, h => h.elim
 | .ptr i 0, X, K, h => by
  simp only [kQ] at h
  cases hob : aX g i with
  | none => rw [show St.ob ⟨N, t, g⟩ i = none from hob] at h; exact h.elim
  | some ob =>
  obtain ⟨bx, cs⟩ := ob
  rw [show St.ob ⟨N, t, g⟩ i = _ from hob] at h
  cases bx with
  | true => exact h.elim
  | false =>
   obtain ⟨h1, h2, h3⟩ := jP h
   exact ⟨fun cs' hc => (by rw [hob] at hc; cases hc), _, _, h3⟩
 | .ptr i (_ + 1), X, K, h => h.elim
 | .sub i j, X, K, h => by
  simp only [kQ] at h
  cases hob : aX g i with
  | none => rw [show St.ob ⟨N, t, g⟩ i = none from hob] at h; exact h.elim
  | some ob =>
  obtain ⟨bx, cs⟩ := ob
  rw [show St.ob ⟨N, t, g⟩ i = _ from hob] at h
  cases bx with
  | true => exact h.elim
  | false =>
   obtain ⟨h1, h2, sz, n, r, h3, h4⟩ := jP h
   exact ⟨fun cs' hc => (by rw [hob] at hc; cases hc), _, _, h4⟩
 | .agg cs, X, K, h => by
  obtain ⟨h1, us, X', h2⟩ := uN (vs := cs) h
  exact ⟨h1, _, _, h2⟩
 | .fn f cs, X, K, h => by
  obtain ⟨h1, us, X', h2⟩ := uN (vs := cs) h
  exact ⟨h1, _, _, h2⟩
 | .tr _ _ _, X, K, h => h.elim
 | .bp _, X, K, h => h.elim
 | .sp _ _ _, X, K, h => h.elim
 | .mref _, X, K, h => h.elim
 | .tup _, X, K, h => h.elim
 | .any, X, K, h => h.elim
theorem uN : ∀ {vs : List V} {X : bM} {K : List V → bM → Prop}, o4 ⟨N, t, g⟩ X vs K → wG g vs ∧ ∃ us X', K us X'
 | [], X, K, h => ⟨trivial, _, _, h⟩
 | v :: vs, X, K, h => by
  obtain ⟨h1, u, X1, h2⟩ := XL (v := v) h
  obtain ⟨h3, us, X2, h4⟩ := uN (vs := vs) h2
  exact ⟨⟨h1, h3⟩, _, _, h4⟩
end
def EqB (g g' : List (Option Obj)) : Prop := ∀ i cs, aX g i = some ⟨true, cs⟩ ↔ aX g' i = some ⟨true, cs⟩
theorem EqB.refl (g : List (Option Obj)) : EqB g g := fun _ _ => Iff.rfl
theorem EqB.trans {a b c : List (Option Obj)} (h : EqB a b) (k : EqB b c) : EqB a c := fun i cs => (h i cs).trans (k i cs)
theorem EqB.le {a b : List (Option Obj)} (h : EqB a b) : LeB H a b := fun i cs _ hi => (h i cs).1 hi
theorem EqB.put {i : Nat} {x : Option Obj} (h : ∀ cs, aX g i ≠ some ⟨true, cs⟩) (hx : ∀ cs, x ≠ some ⟨true, cs⟩) : EqB g (kD g i x) := by
 intro j cs
 rw [i7]
 by_cases hji : j = i ∧ i < g.length
 ·rw [if_pos hji]
  constructor
  ·intro hj; rw [hji.1] at hj; exact absurd hj (h cs)
  ·intro hj; exact absurd hj (hx cs)
 ·rw [if_neg hji]
mutual
theorem V0 {g' : List (Option Obj)} (he : EqB g g') : ∀ {v : V}, O2 g v → O2 g' v
 | .own .., h => fun cs hc => h cs ((he _ cs).2 hc)
 | .ptr .., h => fun cs hc => h cs ((he _ cs).2 hc)
 | .sub .., h => fun cs hc => h cs ((he _ cs).2 hc)
 | .agg cs, h => r9 he (vs := cs) h
 | .fn _ cs, h => r9 he (vs := cs) h
 | .sc _, h => trivial
 | .ro _ _, h => trivial
 | .rp _, h => trivial
 | .tr _ _ _, h => trivial
 | .bp _, h => trivial
 | .sp _ _ _, h => trivial
 | .mref _, h => trivial
 | .tup _, h => trivial
 | .any, h => trivial
theorem r9 {g' : List (Option Obj)} (he : EqB g g') : ∀ {vs : List V}, wG g vs → wG g' vs
 | [], h => trivial
 | v :: vs, h => ⟨V0 he h.1, r9 he h.2⟩
end
mutual
theorem PH : ∀ {v u : V} {g : List (Option Obj)} {K K' : St → Prop}, O2 g v → eN ⟨N, t, g⟩ v u K → (∀ g', EqB g g' → K ⟨N, t, g'⟩ → K' ⟨N', t', g'⟩) → eN ⟨N', t', g⟩ v u K'
 | .own i sz off n lo hi, u, g, K, K', hb, h, hK => by
  cases u <;> simp only [eN] at h ⊢ <;> first | exact h.elim | exact hK _ (EqB.put hb (fun cs => nofun)) h
 | .ptr i off, u, g, K, K', hb, h, hK => by
  cases u <;> simp only [eN] at h ⊢ <;> first | exact h.elim | exact hK _ (EqB.put hb (fun cs => nofun)) h
 | .sub i j, u, g, K, K', hb, h, hK => by
  cases u <;> simp only [eN] at h ⊢ <;> try exact h.elim
  ·cases hob : aX g i with
   | none => rw [show St.ob ⟨N, t, g⟩ i = none from hob] at h; exact h.elim
   | some ob =>
   obtain ⟨bx, cs⟩ := ob
   rw [show St.ob ⟨N, t, g⟩ i = _ from hob] at h
   rw [show St.ob ⟨N', t', g⟩ i = _ from hob]
   cases bx with
   | true => exact h.elim
   | false =>
    obtain ⟨cs', hc, h⟩ := h
    exact ⟨cs', hc, hK _ (EqB.put hb (fun cs => nofun)) h⟩
  ·cases hob : aX g i with
   | none => rw [show St.ob ⟨N, t, g⟩ i = none from hob] at h; exact h.elim
   | some ob =>
   obtain ⟨bx, cs⟩ := ob
   rw [show St.ob ⟨N, t, g⟩ i = _ from hob] at h
   rw [show St.ob ⟨N', t', g⟩ i = _ from hob]
   cases bx with
   | true => exact h.elim
   | false => exact hK _ (EqB.put hb (fun cs => nofun)) h
 | .sc v, u, g, K, K', hb, h, hK => by
  cases u <;> simp only [eN] at h ⊢ <;> first | exact h.elim | exact hK _ (EqB.refl g) h
 | .ro n cs, u, g, K, K', hb, h, hK => by
  cases u <;> simp only [eN] at h ⊢ <;> first | exact h.elim | exact hK _ (EqB.refl g) h
 | .rp cs, u, g, K, K', hb, h, hK => by
  cases u <;> simp only [eN] at h ⊢ <;> first | exact h.elim | exact hK _ (EqB.refl g) h
 | .agg cs, u, g, K, K', hb, h, hK => by
  cases u <;> simp only [eN] at h ⊢ <;> try exact h.elim
  exact oL (vs := cs) hb h hK
 | .fn f cs, u, g, K, K', hb, h, hK => by
  cases u <;> simp only [eN] at h ⊢ <;> try exact h.elim
  exact oL (vs := cs) hb h hK
 | .tr _ _ _, u, g, K, K', hb, h, hK => h.elim
 | .bp _, u, g, K, K', hb, h, hK => h.elim
 | .sp _ _ _, u, g, K, K', hb, h, hK => h.elim
 | .mref _, u, g, K, K', hb, h, hK => h.elim
 | .tup _, u, g, K, K', hb, h, hK => h.elim
 | .any, u, g, K, K', hb, h, hK => h.elim
theorem oL : ∀ {vs us : List V} {g : List (Option Obj)} {K K' : St → Prop}, wG g vs → pB ⟨N, t, g⟩ vs us K → (∀ g', EqB g g' → K ⟨N, t, g'⟩ → K' ⟨N', t', g'⟩) → pB ⟨N', t', g⟩ vs us K'
 | [], [], g, K, K', hb, h, hK => hK _ (EqB.refl g) h
 | v :: vs, u :: us, g, K, K', hb, h, hK => PH (v := v) hb.1 h fun g' he h1 => oL (vs := vs) (r9 he hb.2) h1 fun g2 he2 h2 => hK _ (he.trans he2) h2
 | [], _ :: _, g, K, K', hb, h, hK => h.elim
 | _ :: _, [], g, K, K', hb, h, hK => h.elim
end
theorem LK {s s' : St} (h : s.g = s'.g) {π : List Nat} : ∀ {l : List Nat} {j : Nat}, jU π s j l = jU π s' j l
 | [], j => rfl
 | i :: r, j => by
  have : s.ob i = s'.ob i := by simp only [St.ob, h]
  simp only [jU, this, LK h]
theorem t8 {π : List Nat} : ∀ {vs : List V} {K K' : List V → Prop}, w5 ⟨N, t, g⟩ π vs K → (∀ u, K u → K' u) → w5 ⟨N', t', g⟩ π vs K'
 | [], K, K', h, hK => hK _ h
 | v :: vs, K, K', h, hK => by
  unfold w5 X7 at h ⊢
  cases hb : SI π v with
  | true =>
   rw [hb] at h
   exact t8 (vs := vs) h fun us hus => hK _ hus
  | false =>
   rw [hb] at h
   exact FV (v := v) h fun u hu => t8 (vs := vs) hu fun us hus => hK _ hus
theorem zM : ∀ {g : List (Option Obj)} {k : Nat}, eR [] k g = g
 | [], k => rfl
 | x :: r, k => by simp only [eR, dY, cond_false, zM]
theorem BV {s : St} {π : List Nat} : ∀ {l : List Nat} {j : Nat}, u9 H l (jU π s j l) = true → ∀ i ∈ l, H i = true ∨ ∀ cs, aX s.g i ≠ some ⟨true, cs⟩
 | [], j, h, i, hi => by cases hi
 | k :: r, j, h, i, hi => by
  simp only [jU] at h
  have h1 : ∃ b ds, (bif UP j (cH 0 π k) then wL π (s.ob k) else none) = some ⟨b, ds⟩ ∧ (b = false ∨ H k = true) ∧ u9 H r (jU π s (j + 1) r) = true := by
   cases hq : (bif UP j (cH 0 π k) then wL π (s.ob k) else none) with
   | none => rw [hq] at h; simp [u9] at h
   | some ob =>
    obtain ⟨bx, ds⟩ := ob
    rw [hq] at h
    simp only [u9, Bool.and_eq_true, Bool.or_eq_true, Bool.not_eq_true'] at h
    exact ⟨bx, ds, rfl, h.1, h.2⟩
  obtain ⟨b, ds, h2, h3, h4⟩ := h1
  rcases List.mem_cons.1 hi with rfl | hi
  ·rcases h3 with rfl | h3
   ·right
    intro cs hc
    cases hb : UP j (cH 0 π i) with
    | false => rw [hb] at h2; cases h2
    | true =>
     rw [hb] at h2
     have : s.ob i = some ⟨true, cs⟩ := hc
     rw [this] at h2
     simp [wL] at h2
   ·exact .inl h3
  ·exact BV h4 i hi
theorem U1 {π : List Nat} {g2 : List (Option Obj)} (h : ∀ i ∈ π, H i = true ∨ ∀ cs, aX g i ≠ some ⟨true, cs⟩) : LeB H g (eE π g g2) := by
 unfold eE
 generalize UV (bk π g.length) g2 = m
 have key : ∀ (π : List Nat) (m g' : List (Option Obj)), (∀ i ∈ π, H i = true ∨ ∀ cs, aX g i ≠ some ⟨true, cs⟩) → LeB H g g' → LeB H g (rF π m g') := by
  intro π
  induction π with
  | nil => intro m g' _ hl; exact hl.trans (LeG.app _ _).b
  | cons p r ih =>
   intro m g' hh hl
   cases m with
   | nil => exact hl
   | cons x m =>
    refine ih m _ (fun i hi => hh i (List.mem_cons_of_mem _ hi)) fun i cs hH hi => ?_
    rw [i7, if_neg (fun hc => ?_)]
    ·exact hl i cs hH hi
    ·rcases hh p (List.mem_cons_self ..) with h1 | h1
     ·rw [hc.1, h1] at hH; cases hH
     ·exact h1 cs (by rw [← hc.1]; exact hi)
 exact key π m g h (LeB.refl g)
theorem AY {f : Nat} {args : List V} {K K' : V → St → Prop} (hns : ∀ X, (∀ k, kB X (lk t k) = true) → ∀ k, kB X (lk t' k) = true) (h : pR spec ⟨N, t, g⟩ f args K ∨ wC spec ⟨N, t, g⟩ f args K ∨ EA spec ⟨N, t, g⟩ f args K) (hK : ∀ v g', LeB spec.hid g g' → K v ⟨N, t, g'⟩ → K' v ⟨N', t', g'⟩) : pR spec ⟨N', t', g⟩ f args K' ∨ wC spec ⟨N', t', g⟩ f args K' ∨ EA spec ⟨N', t', g⟩ f args K' := by
 rcases h with h | h | h
 ·left
  refine kE h fun us hu => ?_
  obtain ⟨r, h1, h2, h3⟩ := hu
  exact ⟨r, h1, h2, h3.imp (hK _ _ (LeB.refl g)) (hK _ _ (LeG.app _ _).b)⟩
 ·right; left
  have hnb := (uN h).1
  refine oT h fun us X hu => ?_
  obtain ⟨h1, h2, r, o, os, h3, h4⟩ := hu
  exact ⟨hns X h1, h2, r, o, os, h3, oL hnb h4 fun g' he h5 => h5.imp (hK _ _ he.le) (hK _ _ (he.le.trans (LeG.app _ _).b))⟩
 ·right; right
  obtain ⟨π, h1, h2, h⟩ := h
  refine ⟨π, hns _ h1, ?_, ?_⟩
  ·have e : jU π ⟨N', t', g⟩ 0 π = jU π ⟨N, t, g⟩ 0 π := LK (s := ⟨N', t', g⟩) (s' := ⟨N, t, g⟩) rfl
   rw [e]; exact h2
  ·unfold E9 at h ⊢
   obtain ⟨hc, h⟩ := jP h
   have hre : jU π { N := N', t := t', g := eR [] 0 g } 0 π = jU π { N := N, t := t, g := eR [] 0 g } 0 π := LK (s := ⟨N', t', eR [] 0 g⟩) (s' := ⟨N, t, eR [] 0 g⟩) rfl
   simp only [hre, hc, cond_true]
   refine t8 h fun us hu => ?_
   obtain ⟨Post, h3, h4⟩ := hu
   refine ⟨Post, h3, fun r g2 hp => ?_⟩
   have hle := U1 (g := g) (g2 := g2) (BV h2)
   have h4 := h4 r g2 hp
   rw [zM] at h4
   simp only [zM]
   exact h4.imp (hK _ _ hle) (hK _ _ (hle.trans (LeG.app _ _).b))
theorem a0K {K K' : V → St → Prop} (hag : ∀ x ∈ bB o.op, ev ⟨N, t, g⟩ x = ev ⟨N', t', g⟩ x) (hns : ∀ X, (∀ k, kB X (lk t k) = true) → ∀ k, kB X (lk t' k) = true) (h : IK spec o ⟨N, t, g⟩ K) (hK : ∀ v g', LeB spec.hid g g' → K v ⟨N, t, g'⟩ → K' v ⟨N', t', g'⟩) : IK spec o ⟨N', t', g⟩ K' := by
 unfold IK at h ⊢
 split at h <;> rename_i hop <;> (try rw [hop] at hag)
 ·rename_i f args ts
  have he : args.toList.map (ev ⟨N', t', g⟩) = args.toList.map (ev ⟨N, t, g⟩) := List.map_congr_left fun x hx => (hag x (by simpa [bB] using hx)).symm
  rw [he]
  exact AY hns h hK
 ·rename_i tt args ts
  have he : args.toList.map (ev ⟨N', t', g⟩) = args.toList.map (ev ⟨N, t, g⟩) := List.map_congr_left fun x hx => (hag x (by simp only [bB, List.mem_cons]; exact .inr hx)).symm
  have ht : lk t' tt = lk t tt := (hag (.tmp tt) (by simp [bB])).symm
  simp only at h ⊢
  rw [ht]
  split at h
  ·rw [he]
   exact AY hns h hK
  ·exact h.elim
 ·exact h.elim
theorem JQ {op : Op} (h : dD op = true) : wc op = 1 := by
 unfold dD at h
 split at h
 ·rfl
 ·rfl
 ·cases h
def a1R (H : Nat → Bool) (c : Nat) (g g' : List (Option Obj)) : Prop := (c = 1 → LeG g g') ∧ (c = 2 → LeB H g g')
theorem a1C {K K' : V → St → Prop} (hw : wc o.op ≠ 0) (hag : ∀ x ∈ bB o.op, ev ⟨N, t, g⟩ x = ev ⟨N', t', g⟩ x) (h : cM Γ spec false o ⟨N, t, g⟩ K) (hK : ∀ v g', a1R H (wc o.op) g g' → K v ⟨N, t, g'⟩ → K' v ⟨N', t', g'⟩) : cM Γ spec false o ⟨N', t', g⟩ K' := by
 unfold cM at h ⊢
 split at h <;> rename_i hop <;> (try rw [hop] at hag hw hK) <;> try (exact absurd rfl hw)
 ·rename_i ti
  split at h
  ·rename_i ti ht
   simp only [ht]
   exact hK _ _ ⟨fun _ => LeG.app _ _, fun h => by simp [wc] at h⟩ h
  ·exact h.elim
 ·rename_i ti x
  rw [← hag x (by simp [bB])]
  split at h
  ·rename_i cs hc
   rw [vV (s' := ⟨N', t', g⟩)] at hc
   simp only [hc]
   exact hK _ _ ⟨fun _ => LeG.app _ _, fun h => by simp [wc] at h⟩ h
  ·exact h.elim
 ·rename_i ti x y
  rw [← hag x (by simp [bB]), ← hag y (by simp [bB]), ← vV (s := ⟨N, t, g⟩)]
  split at h
  ·rename_i i off vs ti' hx hy ht
   obtain ⟨hl, h⟩ := jP h
   simp only [hx, hy, ht, hl, cond_true]
   cases hob : aX g i with
   | none => rw [show St.ob ⟨N, t, g⟩ i = none from hob] at h; exact h.elim
   | some ob =>
   obtain ⟨bx, cs⟩ := ob
   rw [show St.ob ⟨N, t, g⟩ i = _ from hob] at h
   rw [show St.ob ⟨N', t', g⟩ i = _ from hob]
   cases bx with
   | true =>
    obtain ⟨hb, h⟩ := jP h
    simp only [hb, cond_true]
    exact hK _ _ ⟨fun h => by simp [wc] at h, fun h => by simp [wc] at h⟩ h
   | false =>
    obtain ⟨hb, h⟩ := GO h
    simp only [hb, cond_false]
    split at h
    ·rename_i hfl
     obtain ⟨r, hr, cs', hcs, h⟩ := h
     exact ⟨r, hr, cs', hcs, hK _ _ ⟨fun h => by simp [wc] at h, fun h => by simp [wc] at h⟩ h⟩
    ·simp only [Bool.false_and, cond_false] at h
  ·rename_i i j off vs ti' hx hy ht
   obtain ⟨hl, h⟩ := jP h
   simp only [hx, hy, ht, hl, cond_true]
   cases hob : aX g i with
   | none => rw [show St.ob ⟨N, t, g⟩ i = none from hob] at h; exact h.elim
   | some ob =>
   obtain ⟨bx, cs⟩ := ob
   rw [show St.ob ⟨N, t, g⟩ i = _ from hob] at h
   rw [show St.ob ⟨N', t', g⟩ i = _ from hob]
   cases bx with
   | true => exact h.elim
   | false =>
    obtain ⟨sz, n, r, q, h1, h2, cs', hcs, h3⟩ := h
    exact ⟨sz, n, r, q, h1, h2, cs', hcs, hK _ _ ⟨fun h => by simp [wc] at h, fun h => by simp [wc] at h⟩ h3⟩
  ·exact h.elim
 ·rename_i ti len parts
  split at h
  ·rename_i te ht
   obtain ⟨hb, h⟩ := jP h
   simp only [ht, hb, cond_true]
   rw [oX (s' := ⟨N', t', g⟩) (fun x hx => hag x (by simpa [bB] using hx))] at h
   split at h
   ·rename_i cs hf
    rw [qZ (s' := ⟨N', t', g⟩)] at hf
    simp only [hf]
    refine B6 (H := H) h fun us g' hle h1 => hK _ _ ⟨fun h => by simp [wc] at h, fun _ => hle.trans (LeG.app _ _).b⟩ h1
   ·exact h.elim
  ·exact h.elim
 ·rename_i ti x lo hi mx
  have hbnd : ∀ (d : Nat) (y : Option Operand), (∀ z ∈ y, z ∈ bB (.slice ti x lo (some hi) (some mx))) → eY ⟨N', t', g⟩ d y = eY ⟨N, t, g⟩ d y := fun d y hy => by
   cases y with
   | none => rfl
   | some z => simp only [eY, hag z (hy z rfl)]
  rw [← hag x (by simp [bB]), hbnd 0 lo (fun z hz => by
   have hz' : lo = some z := hz
   subst hz'
   simp [bB]), ← hag mx (by rw [show bB (.slice ti x lo (some hi) (some mx)) = x :: (lo.toList ++ [hi]) ++ [mx] from rfl]; simp)]
  split at h
  ·rename_i n cs te km m hx ht hm
   rw [hbnd n (some hi) (fun z hz => by cases hz; simp [bB])]
   split at h
   ·rename_i l hh hl hhh
    obtain ⟨hb, hcl, r, hr, hK'⟩ := h
    exact ⟨hb, hcl, r, hr, hK _ _ ⟨fun h => by simp [wc] at h, fun h => by simp [wc] at h⟩ hK'⟩
   ·exact h.elim
  ·rename_i i sz off n lo0 hi0 te km m hx ht hm
   rw [hbnd n (some hi) (fun z hz => by cases hz; simp [bB])]
   split at h
   ·rename_i l hh ob hl hhh hob
    obtain ⟨hz, hb, hK'⟩ := jP h
    rw [show St.ob ⟨N', t', g⟩ i = some ob from hob]
    simp only [hz, cond_true, hl, hhh]
    exact ⟨hb, hK _ _ ⟨fun h => by simp [wc] at h, fun h => by simp [wc] at h⟩ hK'⟩
   ·exact h.elim
  ·exact h.elim
 ·rename_i ti x y
  rw [← hag x (by simp [bB]), ← hag y (by simp [bB])]
  split at h
  ·rename_i k l k' c te hx hy ht
   obtain ⟨hb, hlc, r, hr, h⟩ := jP h
   simp only [hx, hy, ht, hb, cond_true]
   exact ⟨hlc, r, hr, hK _ _ ⟨fun _ => LeG.app _ _, fun h => by simp [wc] at h⟩ h⟩
  ·exact h.elim
 ·rename_i args ts
  split at h
  ·rename_i x y tt u hargs hts
   split at h
   ·rename_i te e' ht hu
    obtain ⟨hb, h⟩ := jP h
    simp only [ht, hu, hb, cond_true]
    rw [← hag y (by simp [bB, hargs]), ← hag x (by simp [bB, hargs])]
    cases hsb : (TJ (ev ⟨N, t, g⟩ x) (ev ⟨N, t, g⟩ y) && !spec.giv) with
    | true =>
     rw [hsb] at h
     exact R0 (H := H) h fun v g' hle h1 => hK _ _ ⟨fun h => by simp [wc] at h, fun _ => hle⟩ h1
    | false =>
    rw [hsb] at h
    simp only [cond_false] at h ⊢
    refine VL (H := H) h fun m u g' hle h1 => ?_
    revert h1
    generalize ev ⟨N, t, g⟩ x = vx
    intro h1
    split at h1
    ·exact ⟨h1.1, hK _ _ ⟨fun h => by simp [wc] at h, fun _ => hle.trans (LeG.app _ _).b⟩ h1.2⟩
    ·rename_i i sz n lo hi
     simp only
     cases hob : aX g' i with
     | none => rw [show St.ob ⟨N, t, g'⟩ i = none from hob] at h1; exact h1.elim
     | some ob =>
     obtain ⟨bx, cs⟩ := ob
     rw [show St.ob ⟨N, t, g'⟩ i = _ from hob] at h1
     rw [show St.ob ⟨N', t', g'⟩ i = _ from hob]
     cases bx with
     | true => exact h1.elim
     | false =>
      obtain ⟨hb2, h2, h3, cs', hcs, h4⟩ := jP h1
      simp only [hb2, cond_true]
      exact ⟨h2, h3, cs', hcs, hK _ _ ⟨fun h => by simp [wc] at h, fun _ => (hle.trans (LeB.put hob)).trans (LeG.app _ _).b⟩ h4⟩
    ·rename_i i sz off n lo hi
     simp only
     cases hob : aX g' i with
     | none => rw [show St.ob ⟨N, t, g'⟩ i = none from hob] at h1; exact h1.elim
     | some ob =>
     obtain ⟨bx, cs⟩ := ob
     rw [show St.ob ⟨N, t, g'⟩ i = _ from hob] at h1
     rw [show St.ob ⟨N', t', g'⟩ i = _ from hob]
     cases bx with
     | true => exact h1.elim
     | false =>
      obtain ⟨hb2, h2, h3, cs', hcs, h4⟩ := jP h1
      simp only [hb2, cond_true]
      exact ⟨h2, h3, cs', hcs, hK _ _ ⟨fun h => by simp [wc] at h, fun _ => (hle.trans (LeB.put hob)).trans (LeG.app _ _).b⟩ h4⟩
    ·exact h1.elim
   ·exact h.elim
  ·exact h.elim
 ·rename_i args ts
  split at h
  ·rename_i x y hargs
   rw [← hag x (by simp [bB, hargs]), ← hag y (by simp [bB, hargs])]
   split at h
   ·exact hK _ _ ⟨fun h => by simp [wc] at h, fun h => by simp [wc] at h⟩ h
   ·exact h.elim
  ·exact h.elim
 ·rename_i args ts
  split at h
  ·rename_i x y hargs
   rw [← hag x (by simp [bB, hargs]), ← hag y (by simp [bB, hargs])]
   split at h
   ·exact hK _ _ ⟨fun h => by simp [wc] at h, fun h => by simp [wc] at h⟩ h
   ·exact h.elim
  ·exact h.elim
 ·rename_i f args ts
  have he : args.toList.map (ev ⟨N', t', g⟩) = args.toList.map (ev ⟨N, t, g⟩) := List.map_congr_left fun x hx => (hag x (by simpa [bB] using hx)).symm
  rw [he, WJ]
  rw [WJ] at h
  refine kE h fun us hu => ?_
  obtain ⟨r, h1, h2, h3⟩ := hu
  exact ⟨r, h1, h2, h3.imp (hK _ _ ⟨fun _ => LeG.refl g, fun h => by simp [wc] at h⟩) (hK _ _ ⟨fun _ => LeG.app _ _, fun h => by simp [wc] at h⟩)⟩
 ·rename_i tt args ts
  have he : args.toList.map (ev ⟨N', t', g⟩) = args.toList.map (ev ⟨N, t, g⟩) := List.map_congr_left fun x hx => (hag x (by simp only [bB, List.mem_cons]; exact .inr hx)).symm
  have ht : lk t' tt = lk t tt := (hag (.tmp tt) (by simp [bB])).symm
  simp only at h ⊢
  rw [ht]
  split at h
  ·rw [he, RV]
   rw [RV] at h
   refine kE h fun us hu => ?_
   obtain ⟨r, h1, h2, h3⟩ := hu
   exact ⟨r, h1, h2, h3.imp (hK _ _ ⟨fun _ => LeG.refl g, fun h => by simp [wc] at h⟩) (hK _ _ ⟨fun _ => LeG.app _ _, fun h => by simp [wc] at h⟩)⟩
  ·exact h.elim
 ·exact hK _ _ ⟨fun _ => LeG.app _ _, fun h => by simp [wc] at h⟩ h
 ·rename_i ti x ix y
  rw [← hag x (by simp [bB]), ← hag ix (by simp [bB]), ← hag y (by simp [bB])]
  split at h
  ·rename_i i k v te hx hi hy ht
   obtain ⟨hmt, h⟩ := jP h
   simp only [hx, hi, hy, ht, hmt, cond_true]
   cases hob : aX g i with
   | none => rw [show St.ob ⟨N, t, g⟩ i = none from hob] at h; exact h.elim
   | some ob =>
   obtain ⟨bx, cs⟩ := ob
   rw [show St.ob ⟨N, t, g⟩ i = _ from hob] at h
   rw [show St.ob ⟨N', t', g⟩ i = _ from hob]
   cases bx with
   | false => exact h.elim
   | true =>
    obtain ⟨m, hm, m', hm', h⟩ := h
    exact ⟨m, hm, m', hm', hK _ _ ⟨fun h => by simp [wc] at h, fun h => by simp [wc] at h⟩ h⟩
  ·exact h.elim
 ·exact h.elim
theorem a12 {s : St} {K : V → St → Prop} (h0 : m9 o.op = true) (hh : J5 H s o.op) (h : cM Γ spec false o s K) : cM Γ spec false o s fun v s' => K v s' ∧ LeB H s.g s'.g := by
 unfold m9 at h0
 split at h0
 ·rename_i ti x y hop
  unfold cM at h ⊢
  rw [hop] at h hh ⊢
  simp only at h ⊢
  simp only [J5] at hh
  split at h
  ·rename_i i off vs ti' hx hy ht
   rw [hx] at hh
   simp only at hh
   obtain ⟨hl, h⟩ := jP h
   simp only [hx, hy, ht, hl, cond_true]
   cases hob : s.ob i with
   | none => rw [hob] at h; exact h.elim
   | some ob =>
   obtain ⟨bx, cs⟩ := ob
   rw [hob] at h hh
   cases bx with
   | true =>
    obtain ⟨hb, h⟩ := jP h
    simp only [hb, cond_true]
    refine ⟨h, fun j cs' hj ho => ?_⟩
    show aX (kD s.g i _) j = _
    rw [i7]
    have hji : j ≠ i := fun he => by rw [he] at hj; rw [hh] at hj; cases hj
    rw [if_neg (fun he => hji he.1)]
    exact ho
   | false =>
    obtain ⟨hb, h⟩ := GO h
    simp only [hb, cond_false]
    split at h
    ·rename_i hfl
     obtain ⟨r, hr, cs', hcs, h⟩ := h
     exact ⟨r, hr, cs', hcs, h, LeB.putSome hob⟩
    ·simp only [Bool.false_and, cond_false] at h
  ·rename_i i j off vs ti' hx hy ht
   obtain ⟨hl, h⟩ := jP h
   simp only [hx, hy, ht, hl, cond_true]
   cases hob : s.ob i with
   | none => rw [hob] at h; exact h.elim
   | some ob =>
   obtain ⟨bx, cs⟩ := ob
   rw [hob] at h
   cases bx with
   | true => exact h.elim
   | false =>
    obtain ⟨sz, n, r, q, h1, h2, cs', hcs, h3⟩ := h
    exact ⟨sz, n, r, q, h1, h2, cs', hcs, h3, LeB.putSome hob⟩
  ·exact h.elim
 ·cases h0
theorem UM {s s' : St} (hag : ∀ x ∈ bB o.op, ev s x = ev s' x) (hg : s'.g = s.g) (h : J5 H s o.op) : J5 H s' o.op := by
 cases hop : o.op <;> rw [hop] at h hag <;> try (exact h.elim)
 rename_i ti x y
 simp only [J5] at h ⊢
 rw [← hag x (by simp [bB])]
 have hob : ∀ i, s'.ob i = s.ob i := fun i => by simp only [St.ob, hg]
 split
 ·rename_i i off hx
  rw [hx] at h
  simp only at h
  rw [hob]
  exact h
 ·trivial
theorem a08 {s : St} {K : V → St → Prop} (h : EQ Γ o s K) : ∃ v, K v s ∧ ∀ s' : St, (∀ x ∈ bB o.op, ev s x = ev s' x) → ∀ K' : V → St → Prop, K' v s' → EQ Γ o s' K' := by
 unfold EQ at h
 split at h
 ·rename_i ti len parts hop
  split at h
  ·rename_i te ht
   obtain ⟨hb, h⟩ := jP h
   split at h
   ·rename_i cs hf
    obtain ⟨hfl, h⟩ := jP h
    refine ⟨_, h, fun s' hag K' hk => ?_⟩
    unfold EQ
    rw [hop]
    simp only [ht, hb, cond_true]
    rw [hop] at hag
    rw [← oX (s := s) (fun x hx => hag x (by simpa [bB] using hx)), qZ (s' := s), hf]
    simp only [hfl, cond_true]
    exact hk
   ·exact h.elim
  ·exact h.elim
 ·exact h.elim
theorem TN {op : Op} (h : m9 op = true) : wc op = 3 := by cases op <;> simp_all [m9, wc]
theorem KI {op : Op} (h : nZ op = true) : wc op = 2 := by cases op <;> simp_all [nZ, wc]
theorem ZP {op : Op} (h : dD op = true) : m9 op = false ∧ nZ op = false := by
 unfold dD at h
 split at h
 ·exact ⟨rfl, rfl⟩
 ·exact ⟨rfl, rfl⟩
 ·cases h
end
end Go.Proofs.YtboolngaahifdaaGreatD
namespace Go.Proofs.YtboolngaahifdaaGreatD
open Go
theorem KJ : ∀ (t : List (Nat × V)) (d : Nat) (v : V) (k : Nat), lk (up t d v) k = if k = d then v else lk t k
 | [], d, v, k => by
  simp only [up, lk]
  cases h : Nat.beq d k with
  | true => rw [if_pos (Nat.eq_of_beq_eq_true h).symm]; rfl
  | false => rw [if_neg (fun he => by rw [he] at h; simp at h)]; rfl
 | (j, u) :: r, d, v, k => by
  simp only [up]
  cases h1 : Nat.beq j d with
  | true =>
   have hjd := Nat.eq_of_beq_eq_true h1
   subst hjd
   simp only [cond_true, lk]
   cases h : Nat.beq j k with
   | true => rw [if_pos (Nat.eq_of_beq_eq_true h).symm]; rfl
   | false => rw [if_neg (fun he => by rw [he] at h; simp at h)]; rfl
  | false =>
   simp only [cond_false]
   cases h2 : Nat.blt d j with
   | true =>
    simp only [cond_true, lk]
    cases h : Nat.beq d k with
    | true => rw [if_pos (Nat.eq_of_beq_eq_true h).symm]; rfl
    | false => rw [if_neg (fun he => by rw [he] at h; simp at h)]; rfl
   | false =>
    simp only [cond_false, lk]
    cases h : Nat.beq j k with
    | true =>
     have hjk := Nat.eq_of_beq_eq_true h
     rw [if_neg (fun he => by rw [← he, ← hjk] at h1; simp at h1)]
     rfl
    | false =>
     simp only [cond_false]
     exact KJ r d v k
section
variable {Γ : Tab} {spec : CallRel} {ops : Array Oper} {o : Oper} {f : Bool}
def St.upd (s : St) (d : Option Nat) (v : V) : St := match d with
 | none => s
 | some d => { s with t := up s.t d v }
def w4 (s : St) (d : Option Nat) : Prop := ∀ k, d = some k → k < s.N
theorem cR (s : St) (d : Option Nat) (v : V) (K : St → Prop) : sU s d v K ↔ w4 s d ∧ K (s.upd d v) := by
 rw [S7]
 cases d with
 | none => exact ⟨fun h => ⟨fun k hk => (by cases hk), h⟩, fun h => h.2⟩
 | some d =>
  constructor
  ·intro h
   obtain ⟨h1, h2⟩ := jP h
   exact ⟨fun k hk => by cases hk; have := Nat.le_of_ble_eq_true h1; omega, h2⟩
  ·rintro ⟨h1, h2⟩
   have : Nat.blt d s.N = true := by
    have := h1 d rfl
    simp only [Nat.blt]
    exact Nat.ble_eq_true_of_le this
   simp only [this, cond_true]
   exact h2
def Eqv (s s' : St) : Prop := s.N = s'.N ∧ s.g = s'.g ∧ ∀ k, lk s.t k = lk s'.t k
theorem Eqv.refl (s : St) : Eqv s s := ⟨rfl, rfl, fun _ => rfl⟩
theorem Eqv.symm {s s' : St} (h : Eqv s s') : Eqv s' s := ⟨h.1.symm, h.2.1.symm, fun k => (h.2.2 k).symm⟩
theorem Eqv.trans {a b c : St} (h : Eqv a b) (k : Eqv b c) : Eqv a c := ⟨h.1.trans k.1, h.2.1.trans k.2.1, fun i => (h.2.2 i).trans (k.2.2 i)⟩
theorem iY (s : St) (d : Option Nat) (v : V) (k : Nat) : lk (s.upd d v).t k = if d = some k then v else lk s.t k := by
 cases d with
 | none => simp [St.upd]
 | some d =>
  simp only [St.upd, KJ, Option.some.injEq]
  by_cases h : k = d
  ·rw [if_pos h, if_pos h.symm]
  ·rw [if_neg h, if_neg (fun he => h he.symm)]
theorem PB (s : St) (d : Option Nat) (v : V) : (s.upd d v).N = s.N := by cases d <;> rfl
theorem n5 (s : St) (d : Option Nat) (v : V) : (s.upd d v).g = s.g := by cases d <;> rfl
theorem Eqv.upd {s s' : St} (h : Eqv s s') (d : Option Nat) (v : V) : Eqv (s.upd d v) (s'.upd d v) :=
 ⟨by rw [PB, PB]; exact h.1, by rw [n5, n5]; exact h.2.1, fun k => by rw [iY, iY, h.2.2 k]⟩
theorem Eqv.ev {s s' : St} (h : Eqv s s') (x : Operand) : ev s x = ev s' x := by
 cases x with
 | tmp t => exact h.2.2 t
 | _ => rfl
theorem u5 (s : St) {d e : Option Nat} (v u : V) (h : ∀ k, d = some k → e ≠ some k) : Eqv ((s.upd d v).upd e u) ((s.upd e u).upd d v) := by
 refine ⟨by simp [PB], by simp [n5], fun k => ?_⟩
 rw [iY, iY, iY, iY]
 by_cases h1 : e = some k
 ·rw [if_pos h1, if_neg (fun hd => h k hd h1), if_pos h1]
 ·rw [if_neg h1]
  by_cases h2 : d = some k
  ·rw [if_pos h2, if_pos h2]
  ·rw [if_neg h2, if_neg h2, if_neg h1]
structure Agree (ops : Array Oper) (o : Oper) (s s' : St) : Prop where
 N : s'.N = s.N
 ev : ∀ x ∈ bB o.op, ev s x = ev s' x
 gd : ∀ j w, o.guard = some (j, w) → ∀ d, (ops[j]?).bind (·.dst) = some d → lk s.t d = lk s'.t d
theorem Agree.ofEqv {s s' : St} (h : Eqv s s') : Agree ops o s s' := ⟨h.1.symm, fun x _ => h.ev x, fun _ _ _ d _ => h.2.2 d⟩
theorem Agree.symm {s s' : St} (h : Agree ops o s s') : Agree ops o s' s := ⟨h.N.symm, fun x hx => (h.ev x hx).symm, fun j w hg d hd => (h.gd j w hg d hd).symm⟩
theorem fJ {s s' : St} (h : Agree ops o s s') {yes no yes' no' : Prop} (hw : mJ s ops o yes no) (hy : yes → yes') (hn : no → no') : mJ s' ops o yes' no' := by
 rw [vT] at hw ⊢
 unfold wX at hw ⊢
 cases hg : o.guard with
 | none => rw [hg] at hw; exact hy hw
 | some jw =>
  obtain ⟨j, w⟩ := jw
  rw [hg] at hw
  simp only at hw ⊢
  cases hd : (ops[j]?).bind (·.dst) with
  | none => rw [hd] at hw; exact hw.elim
  | some d =>
   rw [hd] at hw
   simp only [Option.map_some] at hw ⊢
   rw [← h.gd j w hg d hd]
   split at hw
   ·exact ⟨fun hb => hy (hw.1 hb), fun hb => hn (hw.2 hb)⟩
   ·exact hn hw
   ·exact hw.elim
theorem rR {s : St} {yes no : Prop} (hw : mJ s ops o yes no) : (mJ s ops o True False ∧ yes) ∨ (mJ s ops o False True ∧ no) := by
 simp only [vT] at hw ⊢
 unfold wX at hw ⊢
 cases hg : o.guard with
 | none => rw [hg] at hw; exact .inl ⟨trivial, hw⟩
 | some jw =>
  obtain ⟨j, w⟩ := jw
  rw [hg] at hw
  simp only at hw ⊢
  split at hw
  ·rename_i b hb
   by_cases hbw : b = w
   ·exact .inl ⟨⟨fun _ => trivial, fun h => by rw [hbw] at h; cases w <;> cases h⟩, hw.1 hbw⟩
   ·exact .inr ⟨⟨fun h => absurd h hbw, fun _ => trivial⟩, hw.2 (by cases b <;> cases w <;> simp_all)⟩
  ·exact .inr ⟨trivial, hw⟩
  ·exact hw.elim
theorem lN {s : St} {K : St → Prop} (h0 : wc o.op = 0) (h : dO Γ spec ops f o s K) :
  ∃ v, w4 s o.dst ∧ K (s.upd o.dst v) ∧ ∀ s' : St, Agree ops o s s' → (f = true ∧ LeB spec.hid s.g s'.g ∨ LeG s.g s'.g) → ∀ K' : St → Prop, K' (s'.upd o.dst v) → dO Γ spec ops f o s' K' := by
 have hfit : ∀ {s' : St}, Agree ops o s s' → w4 s o.dst → w4 s' o.dst := fun ha hf k hk => by rw [ha.N]; exact hf k hk
 unfold dO at h
 rcases rR h with ⟨hw, hy⟩ | ⟨hw, hn⟩
 ·
  have hval : ∃ v, sU s o.dst v K ∧ ∀ s' : St, Agree ops o s s' → (f = true ∧ LeB spec.hid s.g s'.g ∨ LeG s.g s'.g) → ∀ K' : V → St → Prop, K' v s' → mD Γ spec f o s' K' := by
   have hnc : (f && dD o.op) = false := by
    cases hq : dD o.op with
    | false => simp
    | true => rw [JQ hq] at h0; cases h0
   have hns : (f && m9 o.op) = false := by
    cases hq : m9 o.op with
    | false => simp
    | true => have := TN hq; omega
   have hnl : (f && nZ o.op) = false := by
    cases hq : nZ o.op with
    | false => simp
    | true => have := KI hq; omega
   unfold mD at hy
   cases hf : (f && Nat.beq (wc o.op) 0) with
   | false =>
    simp only [hf, hnc, hns, hnl, cond_false] at hy
    obtain ⟨v, h1, h2⟩ := FB h0 hy
    refine ⟨v, h1, fun s' ha hle K' hk => ?_⟩
    unfold mD
    simp only [hf, hnc, hns, hnl, cond_false]
    refine h2 s' ha.ev ?_ K' hk
    rcases hle with ⟨hft, _⟩ | hle
    ·rw [hft, h0] at hf; simp at hf
    ·exact hle
   | true =>
    simp only [hf, cond_true] at hy
    obtain ⟨v, h1, h2⟩ := FB h0 hy
    refine ⟨v, h1, fun s' ha hle K' hk => ?_⟩
    unfold mD
    simp only [hf, cond_true]
    refine h2 { s' with g := iQ spec.hid 0 s'.g } (fun x hx => ?_) ?_ (fun v _ => K' v s') hk
    ·have := ha.ev x hx
     cases x <;> exact this
    ·rcases hle with ⟨_, hle⟩ | hle
     ·exact hle.boxes
     ·exact hle.b.boxes
  obtain ⟨v, h1, h2⟩ := hval
  obtain ⟨h3, h4⟩ := (cR _ _ _ _).1 h1
  refine ⟨v, h3, h4, fun s' ha hle K' hk => ?_⟩
  unfold dO
  exact fJ ha hw (fun _ => h2 s' ha hle _ ((cR _ _ _ _).2 ⟨hfit ha h3, hk⟩)) False.elim
 ·obtain ⟨h5, h6⟩ := (cR _ _ _ _).1 hn
  refine ⟨.tup [], h5, h6, fun s' ha hle K' hk => ?_⟩
  unfold dO
  exact fJ ha hw False.elim fun _ => (cR _ _ _ _).2 ⟨hfit ha h5, hk⟩
theorem OZ {s : St} {K : V → St → Prop} (h0 : oA o.op = true) (h : cM Γ spec false o s K) : ∃ v, K v s ∧ ∀ s' : St, (∀ x ∈ bB o.op, ev s x = ev s' x) → ∀ K' : V → St → Prop, K' v s' → cM Γ spec false o s' K' := by
 unfold cM at h
 cases hop : o.op <;> rw [hop] at h0 <;> simp only [oA, Bool.false_eq_true] at h0
 case move x =>
  rw [hop] at h
  refine ⟨_, h, fun s' h1 K' hk => ?_⟩
  unfold cM; rw [hop]
  rw [h1 x (by simp [bB])] at hk
  exact hk
 case assign x =>
  rw [hop] at h
  refine ⟨_, h, fun s' h1 K' hk => ?_⟩
  unfold cM; rw [hop]
  rw [h1 x (by simp [bB])] at hk
  exact hk
 case pick c x y =>
  rw [hop] at h
  simp only at h
  split at h
  ·rename_i t hc
   refine ⟨if t then ev s x else ev s y, ?_, fun s' h1 K' hk => ?_⟩
   ·cases t with
    | true => exact h
    | false => exact h
   ·unfold cM; rw [hop]
    simp only [← h1 c (by simp [bB]), ← h1 x (by simp [bB]), ← h1 y (by simp [bB]), hc]
    cases t with
    | true => exact hk
    | false => exact hk
  ·exact h.elim
 case extract x ix =>
  rw [hop] at h
  simp only at h
  split at h
  ·rename_i vs hx
   split at h
   ·rename_i v hv
    refine ⟨_, h, fun s' h1 K' hk => ?_⟩
    unfold cM; rw [hop]
    simp only [← h1 x (by simp [bB]), hx, hv]
    exact hk
   ·exact h.elim
  ·exact h.elim
 case field t x f =>
  rw [hop] at h
  simp only at h
  split at h
  ·rename_i cs d te hx hf hft
   cases hag : te.agg with
   | true => rw [hag] at h; exact h.elim
   | false =>
   rw [hag] at h
   simp only [cond_false] at h
   split at h
   ·rename_i c hc
    refine ⟨_, h, fun s' h1 K' hk => ?_⟩
    unfold cM; rw [hop]
    simp only [← h1 x (by simp [bB]), hx, hf, hft, hag, cond_false, hc]
    exact hk
   ·exact h.elim
  ·exact h.elim
theorem TM {op : Op} (h : oA op = true) : wc op = 0 := by cases op <;> simp_all [oA, wc]
theorem VI {s : St} {K : St → Prop} (h0 : oA o.op = true) (h : dO Γ spec ops f o s K) :
  ∃ v, w4 s o.dst ∧ K (s.upd o.dst v) ∧ ∀ s' : St, Agree ops o s s' → ∀ K' : St → Prop, K' (s'.upd o.dst v) → dO Γ spec ops f o s' K' := by
 have hw0 := TM h0
 have hfit : ∀ {s' : St}, Agree ops o s s' → w4 s o.dst → w4 s' o.dst := fun ha hf k hk => by rw [ha.N]; exact hf k hk
 unfold dO at h
 rcases rR h with ⟨hw, hy⟩ | ⟨hw, hn⟩
 ·have hval : ∃ v, sU s o.dst v K ∧ ∀ s' : St, Agree ops o s s' → ∀ K' : V → St → Prop, K' v s' → mD Γ spec f o s' K' := by
   have hnc : (f && dD o.op) = false := by
    cases hq : dD o.op with
    | false => simp
    | true =>
     have := JQ hq
     rw [TM h0] at this
     cases this
   have hns : (f && m9 o.op) = false := by
    cases hq : m9 o.op with
    | false => simp
    | true => have := TN hq; omega
   have hnl : (f && nZ o.op) = false := by
    cases hq : nZ o.op with
    | false => simp
    | true => have := KI hq; omega
   unfold mD at hy
   cases hf : (f && Nat.beq (wc o.op) 0) with
   | false =>
    simp only [hf, hnc, hns, hnl, cond_false] at hy
    obtain ⟨v, h1, h2⟩ := OZ h0 hy
    refine ⟨v, h1, fun s' ha K' hk => ?_⟩
    unfold mD
    simp only [hf, hnc, hns, hnl, cond_false]
    exact h2 s' ha.ev K' hk
   | true =>
    simp only [hf, cond_true] at hy
    obtain ⟨v, h1, h2⟩ := OZ h0 hy
    refine ⟨v, h1, fun s' ha K' hk => ?_⟩
    unfold mD
    simp only [hf, cond_true]
    refine h2 { s' with g := iQ spec.hid 0 s'.g } (fun x hx => ?_) (fun v _ => K' v s') hk
    have := ha.ev x hx
    cases x <;> exact this
  obtain ⟨v, h1, h2⟩ := hval
  obtain ⟨h3, h4⟩ := (cR _ _ _ _).1 h1
  refine ⟨v, h3, h4, fun s' ha K' hk => ?_⟩
  unfold dO
  exact fJ ha hw (fun _ => h2 s' ha _ ((cR _ _ _ _).2 ⟨hfit ha h3, hk⟩)) False.elim
 ·obtain ⟨h5, h6⟩ := (cR _ _ _ _).1 hn
  refine ⟨.tup [], h5, h6, fun s' ha K' hk => ?_⟩
  unfold dO
  exact fJ ha hw False.elim fun _ => (cR _ _ _ _).2 ⟨hfit ha h5, hk⟩
theorem NR {s : St} {K : St → Prop} (h0 : (f && nZ o.op) = true) (h : dO Γ spec ops f o s K) :
  ∃ v, w4 s o.dst ∧ K (s.upd o.dst v) ∧ ∀ s' : St, Agree ops o s s' → ∀ K' : St → Prop, K' (s'.upd o.dst v) → dO Γ spec ops f o s' K' := by
 have hfit : ∀ {s' : St}, Agree ops o s s' → w4 s o.dst → w4 s' o.dst := fun ha hf k hk => by rw [ha.N]; exact hf k hk
 have hl : nZ o.op = true := by simp only [Bool.and_eq_true] at h0; exact h0.2
 have hw := KI hl
 have hb : (f && Nat.beq (wc o.op) 0) = false := by rw [hw]; cases f <;> rfl
 have hnc : (f && dD o.op) = false := by
  cases hq : dD o.op with
  | false => simp
  | true => have := (ZP hq).2; rw [this] at hl; cases hl
 have hns : (f && m9 o.op) = false := by
  cases hq : m9 o.op with
  | false => simp
  | true => have := TN hq; omega
 unfold dO at h
 rcases rR h with ⟨hw, hy⟩ | ⟨hw, hn⟩
 ·unfold mD at hy
  simp only [hb, hnc, hns, h0, cond_false, cond_true] at hy
  obtain ⟨v, h1, h2⟩ := a08 hy
  obtain ⟨h3, h4⟩ := (cR _ _ _ _).1 h1
  refine ⟨v, h3, h4, fun s' ha K' hk => ?_⟩
  unfold dO
  refine fJ ha hw (fun _ => ?_) False.elim
  unfold mD
  simp only [hb, hnc, hns, h0, cond_false, cond_true]
  exact h2 s' ha.ev _ ((cR _ _ _ _).2 ⟨hfit ha h3, hk⟩)
 ·obtain ⟨h5, h6⟩ := (cR _ _ _ _).1 hn
  refine ⟨.tup [], h5, h6, fun s' ha K' hk => ?_⟩
  unfold dO
  exact fJ ha hw False.elim fun _ => (cR _ _ _ _).2 ⟨hfit ha h5, hk⟩
theorem FD {s : St} {K : St → Prop} (h0 : OH f o.op = true) (h : dO Γ spec ops f o s K) :
  ∃ v, w4 s o.dst ∧ K (s.upd o.dst v) ∧ ∀ s' : St, Agree ops o s s' → ∀ K' : St → Prop, K' (s'.upd o.dst v) → dO Γ spec ops f o s' K' := by
 unfold OH at h0
 rcases Bool.or_eq_true_iff.1 h0 with h0 | h0
 ·exact VI h0 h
 ·exact NR h0 h
def a35 (H : Nat → Bool) (f : Bool) (op : Op) (g g' : List (Option Obj)) : Prop := a1R H (wc op) g g' ∧ ((f && m9 op) = true → LeB H g g')
theorem GK {s s' : St} {K K' : St → Prop} (h0 : wc o.op ≠ 0) (hnc : (f && dD o.op) = false) (h : dO Γ spec ops f o s K) (ha : Agree ops o s s') (hg : s'.g = s.g) (hK : ∀ v g', a35 spec.hid f o.op s.g g' → K (St.upd { s with g := g' } o.dst v) → K' (St.upd { s' with g := g' } o.dst v)) : dO Γ spec ops f o s' K' := by
 have hfit : w4 s o.dst → w4 s' o.dst := fun hf k hk => by rw [ha.N]; exact hf k hk
 have hb : (f && Nat.beq (wc o.op) 0) = false := by
  have : Nat.beq (wc o.op) 0 = false := by
   cases hq : Nat.beq (wc o.op) 0 with
   | false => rfl
   | true => exact absurd (Nat.eq_of_beq_eq_true hq) h0
  rw [this]; simp
 cases hlt : (f && nZ o.op) with
 | true =>
  obtain ⟨v, h1, h2, h3⟩ := NR hlt h
  have hns : (f && m9 o.op) = false := by
   cases hq : m9 o.op with
   | false => simp
   | true =>
    have := TN hq
    simp only [Bool.and_eq_true] at hlt
    have := KI hlt.2
    omega
  refine h3 s' ha K' ?_
  have := hK v s.g ⟨⟨fun _ => LeG.refl _, fun _ => LeB.refl _⟩, fun h => by rw [hns] at h; cases h⟩ h2
  rw [← hg] at this
  exact this
 | false =>
 unfold dO at h ⊢
 refine fJ ha h (fun hy => ?_) (fun hn => ?_)
 ·have key : ∀ K0 : V → St → Prop, cM Γ spec false o s (fun v s1 => K0 v s1) → (∀ v g', a1R spec.hid (wc o.op) s.g g' → K0 v { s with g := g' } → sU { s' with g := g' } o.dst v K') → cM Γ spec false o s' fun v s1 => sU s1 o.dst v K' := by
   intro K0 hk hk2
   obtain ⟨N, t, g⟩ := s
   obtain ⟨N', t', g'⟩ := s'
   simp only at hg
   subst hg
   exact a1C (H := spec.hid) h0 ha.ev hk fun v g2 hkeep h1 => hk2 v g2 hkeep h1
  cases hst : (f && m9 o.op) with
  | true =>
   unfold mD at hy ⊢
   simp only [hb, hnc, hst, cond_false, cond_true] at hy ⊢
   have hs2 : m9 o.op = true := by simp only [Bool.and_eq_true] at hst; exact hst.2
   refine ⟨UM ha.ev hg hy.1, key _ (a12 hs2 hy.1 hy.2) fun v g2 hkeep h1 => ?_⟩
   obtain ⟨h2, h3⟩ := (cR _ _ _ _).1 h1.1
   exact (cR _ _ _ _).2 ⟨fun k hk => by have := h2 k hk; rw [show ({ s' with g := g2 } : St).N = s.N from ha.N]; exact this, hK v g2 ⟨hkeep, fun _ => h1.2⟩ h3⟩
  | false =>
   unfold mD at hy ⊢
   simp only [hb, hnc, hst, hlt, cond_false] at hy ⊢
   refine key _ hy fun v g2 hkeep h1 => ?_
   obtain ⟨h2, h3⟩ := (cR _ _ _ _).1 h1
   exact (cR _ _ _ _).2 ⟨fun k hk => by have := h2 k hk; rw [show ({ s' with g := g2 } : St).N = s.N from ha.N]; exact this, hK v g2 ⟨hkeep, fun h => by rw [hst] at h; cases h⟩ h3⟩
 ·obtain ⟨h2, h3⟩ := (cR _ _ _ _).1 hn
  refine (cR _ _ _ _).2 ⟨hfit h2, ?_⟩
  have := hK (.tup []) s.g ⟨⟨fun _ => LeG.refl _, fun _ => LeB.refl _⟩, fun _ => LeB.refl _⟩ h3
  rw [← hg] at this
  exact this
theorem uP {s s' : St} {K K' : St → Prop} (hc : (f && dD o.op) = true) (h : dO Γ spec ops f o s K) (ha : Agree ops o s s') (hg : s'.g = s.g) (hns : ∀ X, (∀ k, kB X (lk s.t k) = true) → ∀ k, kB X (lk s'.t k) = true) (hK : ∀ v g', LeB spec.hid s.g g' → K (St.upd { s with g := g' } o.dst v) → K' (St.upd { s' with g := g' } o.dst v)) : dO Γ spec ops f o s' K' := by
 have hfit : w4 s o.dst → w4 s' o.dst := fun hf k hk => by rw [ha.N]; exact hf k hk
 have hb : (f && Nat.beq (wc o.op) 0) = false := by
  simp only [Bool.and_eq_true] at hc
  rw [JQ hc.2]
  cases f <;> rfl
 unfold dO at h ⊢
 refine fJ ha h (fun hy => ?_) (fun hn => ?_)
 ·unfold mD at hy ⊢
  simp only [hb, hc, cond_false, cond_true] at hy ⊢
  obtain ⟨N, t, g⟩ := s
  obtain ⟨N', t', g'⟩ := s'
  simp only at hg
  subst hg
  refine a0K ha.ev hns hy fun v g2 hkeep h1 => ?_
  obtain ⟨h2, h3⟩ := (cR _ _ _ _).1 h1
  exact (cR _ _ _ _).2 ⟨fun k hk => by have := h2 k hk; rw [show ({ N := N', t := t', g := g2 } : St).N = N from ha.N]; exact this, hK v g2 hkeep h3⟩
 ·obtain ⟨h2, h3⟩ := (cR _ _ _ _).1 hn
  refine (cR _ _ _ _).2 ⟨hfit h2, ?_⟩
  have := hK (.tup []) s.g (LeB.refl _) h3
  rw [← hg] at this
  exact this
end
end Go.Proofs.YtboolngaahifdaaGreatD
namespace Go.Proofs.YtboolngaahifdaaGreatD
open Go
section
variable {Γ : Tab} {spec : CallRel} {ops : Array Oper} {o oi oj : Oper} {f fi fj : Bool}
theorem qC : ∀ {l : List Operand} {d : Nat}, NG d l = false → Operand.tmp d ∉ l
 | [], d, _, h => by cases h
 | .tmp t :: r, d, h, hm => by
  simp only [NG] at h
  cases hb : Nat.beq t d with
  | true => rw [hb] at h; cases h
  | false =>
   rw [hb] at h
   simp only [List.mem_cons] at hm
   rcases hm with hm | hm
   ·cases hm; simp at hb
   ·exact qC h hm
 | .const v :: r, d, h, hm => by
  simp only [List.mem_cons, reduceCtorEq, false_or] at hm
  exact qC (l := r) h hm
 | .global v :: r, d, h, hm => by
  simp only [List.mem_cons, reduceCtorEq, false_or] at hm
  exact qC (l := r) h hm
 | .func v :: r, d, h, hm => by
  simp only [List.mem_cons, reduceCtorEq, false_or] at hm
  exact qC (l := r) h hm
theorem gK {d : Option Nat} (h : pH ops o d = false) (s : St) (g : List (Option Obj)) (v : V) : Agree ops o s (St.upd { s with g := g } d v) := by
 refine ⟨by rw [PB], fun x hx => ?_, fun j w hg e he => ?_⟩
 ·cases x with
  | tmp t =>
   show lk s.t t = lk (St.upd { s with g := g } d v).t t
   rw [iY]
   split
   ·rename_i hd
    subst hd
    simp only [pH, XT, Bool.or_eq_false_iff] at h
    exact absurd hx (qC h.1)
   ·rfl
  | _ => rfl
 ·rw [iY]
  split
  ·rename_i hd
   subst hd
   simp only [pH, XT, Bool.or_eq_false_iff, hg, he] at h
   have := h.2
   simp at this
  ·rfl
theorem YU {s s' : St} {K K' : St → Prop} (he : Eqv s s') (h : dO Γ spec ops f o s K) (hK : ∀ s1 s1', Eqv s1 s1' → K s1 → K' s1') : dO Γ spec ops f o s' K' := by
 by_cases h0 : wc o.op = 0
 ·obtain ⟨v, h1, h2, h3⟩ := lN h0 h
  refine h3 s' (Agree.ofEqv he) (.inr ?_) K' (hK _ _ (he.upd _ _) h2)
  rw [he.2.1]
  exact LeG.refl _
 ·cases hc : (f && dD o.op) with
  | false =>
   refine GK h0 hc h (Agree.ofEqv he) he.2.1.symm fun v g' _ h1 => hK _ _ ?_ h1
   exact Eqv.upd (s := { s with g := g' }) (s' := { s' with g := g' }) ⟨he.1, rfl, he.2.2⟩ _ _
  | true =>
   refine uP hc h (Agree.ofEqv he) he.2.1.symm (fun X hX k => by rw [← he.2.2 k]; exact hX k) fun v g' _ h1 => hK _ _ ?_ h1
   exact Eqv.upd (s := { s with g := g' }) (s' := { s' with g := g' }) ⟨he.1, rfl, he.2.2⟩ _ _
theorem CT {fl : Nat → Bool} {K : St → Prop} (hK : ∀ s s', Eqv s s' → K s → K s') : ∀ (l : List Nat) {s s' : St}, Eqv s s' → cA Γ spec ops fl l s K → cA Γ spec ops fl l s' K
 | [], s, s', he, h => hK _ _ he h
 | i :: r, s, s', he, h => by
  simp only [cA] at h ⊢
  split at h
  ·exact YU he h fun s1 s1' he1 h1 => CT hK r he1 h1
  ·exact CT hK r he h
theorem swap {s : St} {K : St → Prop} (hK : ∀ s s', Eqv s s' → K s → K s') (hnc : (fi && dD oi.op) = false) (hsw : (bif fi && m9 oi.op then J1 ops oj oi fj else P6 ops oj oi fj) = true) (h : dO Γ spec ops fj oj s fun s1 => dO Γ spec ops fi oi s1 K) : dO Γ spec ops fi oi s fun s1 => dO Γ spec ops fj oj s1 K := by
 have hall : ((wc oj.op = 0 ∧ (wc oi.op = 0 ∨ wc oi.op = 1 ∨ (fj = true ∧ (wc oi.op = 2 ∨ (fi && m9 oi.op) = true)))) ∨ OH fj oj.op = true) ∧ pH ops oj oi.dst = false ∧ pH ops oi oj.dst = false ∧ vO oj.dst oi.dst = false := by
  cases hst : (fi && m9 oi.op) with
  | true =>
   rw [hst] at hsw
   simp only [cond_true, J1, Bool.and_eq_true, Bool.or_eq_true, Bool.not_eq_true'] at hsw
   obtain ⟨⟨⟨hcl, hl1⟩, hl2⟩, hd⟩ := hsw
   exact ⟨hcl.imp (fun h => ⟨Nat.eq_of_beq_eq_true h.1, .inr (.inr ⟨h.2, .inr rfl⟩)⟩) id, hl1, hl2, hd⟩
  | false =>
   rw [hst] at hsw
   simp only [cond_false, P6, RY, Bool.and_eq_true, Bool.or_eq_true, Bool.not_eq_true'] at hsw
   obtain ⟨⟨⟨hcl, hl1⟩, hl2⟩, hd⟩ := hsw
   refine ⟨hcl.imp (fun h => ⟨Nat.eq_of_beq_eq_true h.1, ?_⟩) id, hl1, hl2, hd⟩
   rcases h.2 with (h | h) | h
   ·exact .inl (Nat.eq_of_beq_eq_true h)
   ·exact .inr (.inl (Nat.eq_of_beq_eq_true h))
   ·exact .inr (.inr ⟨h.2, .inl (Nat.eq_of_beq_eq_true h.1)⟩)
 obtain ⟨hcl, hl1, hl2, hd⟩ := hall
 have hne : ∀ k, oi.dst = some k → oj.dst ≠ some k := by
  intro k hk he
  rw [hk, he] at hd
  simp [vO] at hd
 rcases hcl with ⟨h0, hc⟩ | hso
 rotate_left
 ·obtain ⟨vj, hf, hi, hrep⟩ := FD hso h
  by_cases hi0 : wc oi.op = 0
  ·obtain ⟨vi, hfi, hKi, hrepi⟩ := lN hi0 hi
   refine hrepi s (Agree.symm (gK hl2 s s.g vj)) (.inr (by rw [n5]; exact LeG.refl _)) _ ?_
   refine hrep _ (gK hl1 s s.g vi) _ ?_
   exact hK _ _ (Eqv.symm (u5 s vi vj hne)) hKi
  ·refine GK hi0 hnc hi (Agree.symm (gK hl2 s s.g vj)) (n5 s oj.dst vj).symm fun v g' hkeep h1 => ?_
   refine hrep _ (gK hl1 s g' v) _ ?_
   refine hK _ _ ?_ h1
   refine Eqv.trans ?_ (Eqv.symm (u5 { s with g := g' } v vj hne))
   have he : ({ s.upd oj.dst vj with g := g' } : St) = St.upd { s with g := g' } oj.dst vj := by cases oj.dst <;> rfl
   rw [he]
   exact Eqv.refl _
 obtain ⟨vj, hf, hi, hrep⟩ := lN h0 h
 by_cases hi0 : wc oi.op = 0
 ·obtain ⟨vi, hfi, hKi, hrepi⟩ := lN hi0 hi
  refine hrepi s (Agree.symm (gK hl2 s s.g vj)) (.inr (by rw [n5]; exact LeG.refl _)) _ ?_
  refine hrep _ (gK hl1 s s.g vi) (.inr (by rw [n5]; exact LeG.refl _)) _ ?_
  exact hK _ _ (Eqv.symm (u5 s vi vj hne)) hKi
 ·refine GK hi0 hnc hi (Agree.symm (gK hl2 s s.g vj)) (n5 s oj.dst vj).symm fun v g' hkeep h1 => ?_
  rw [n5] at hkeep
  refine hrep _ (gK hl1 s g' v) ?_ _ ?_
  ·rw [n5]
   rcases hc with hc | hc | ⟨hfj, hc | hc⟩
   ·exact absurd hc hi0
   ·exact .inr (hkeep.1.1 hc)
   ·exact .inl ⟨hfj, hkeep.1.2 hc⟩
   ·exact .inl ⟨hfj, hkeep.2 hc⟩
  ·refine hK _ _ ?_ h1
   refine Eqv.trans ?_ (Eqv.symm (u5 { s with g := g' } v vj hne))
   have he : ({ s.upd oj.dst vj with g := g' } : St) = St.upd { s with g := g' } oj.dst vj := by cases oj.dst <;> rfl
   rw [he]
   exact Eqv.refl _
theorem TO {K : St → Prop} {s : St} (h : dO Γ spec ops f o s K) : dO Γ spec ops f o s fun s2 => K s2 ∧ ∀ k, o.dst ≠ some k → lk s2.t k = lk s.t k := by
 by_cases h0 : wc o.op = 0
 ·obtain ⟨v, h1, h2, h3⟩ := lN h0 h
  exact h3 s (Agree.ofEqv (Eqv.refl s)) (.inr (LeG.refl _)) _ ⟨h2, fun k hk => by rw [iY, if_neg hk]⟩
 ·cases hc : (f && dD o.op) with
  | false => exact GK h0 hc h (Agree.ofEqv (Eqv.refl s)) rfl fun v g' _ h1 => ⟨h1, fun k hk => by rw [iY, if_neg hk]⟩
  | true => exact uP hc h (Agree.ofEqv (Eqv.refl s)) rfl (fun _ h => h) fun v g' _ h1 => ⟨h1, fun k hk => by rw [iY, if_neg hk]⟩
theorem G2 {K K' : St → Prop} {s : St} (h : dO Γ spec ops f o s K) (hK : ∀ s, K s → K' s) : dO Γ spec ops f o s K' := by
 by_cases h0 : wc o.op = 0
 ·obtain ⟨v, h1, h2, h3⟩ := lN h0 h
  exact h3 s (Agree.ofEqv (Eqv.refl s)) (.inr (LeG.refl _)) _ (hK _ h2)
 ·cases hc : (f && dD o.op) with
  | false => exact GK h0 hc h (Agree.ofEqv (Eqv.refl s)) rfl fun v g' _ h1 => hK _ h1
  | true => exact uP hc h (Agree.ofEqv (Eqv.refl s)) rfl (fun _ h => h) fun v g' _ h1 => hK _ h1
theorem a3P {s : St} {K : St → Prop} (hK : ∀ s s', Eqv s s' → K s → K s') (hc : (fi && dD oi.op) = true) (hsw : J1 ops oj oi fj = true) (hany : ∀ d, oj.dst = some d → lk s.t d = .any) (h : dO Γ spec ops fj oj s fun s1 => dO Γ spec ops fi oi s1 K) : dO Γ spec ops fi oi s fun s1 => dO Γ spec ops fj oj s1 K := by
 simp only [J1, Bool.and_eq_true, Bool.or_eq_true, Bool.not_eq_true'] at hsw
 obtain ⟨⟨⟨hcl, hl1⟩, hl2⟩, hd⟩ := hsw
 have hne : ∀ k, oi.dst = some k → oj.dst ≠ some k := by
  intro k hk he
  rw [hk, he] at hd
  simp [vO] at hd
 have key : ∃ vj, dO Γ spec ops fi oi (s.upd oj.dst vj) K ∧ ∀ s' : St, Agree ops oj s s' → LeB spec.hid s.g s'.g → ∀ K' : St → Prop, K' (s'.upd oj.dst vj) → dO Γ spec ops fj oj s' K' := by
  rcases hcl with ⟨h0, hfj⟩ | hso
  ·obtain ⟨vj, hf, hi, hrep⟩ := lN (Nat.eq_of_beq_eq_true h0) h
   exact ⟨vj, hi, fun s' ha hle K' hk => hrep s' ha (.inl ⟨hfj, hle⟩) K' hk⟩
  ·obtain ⟨vj, hf, hi, hrep⟩ := FD hso h
   exact ⟨vj, hi, fun s' ha hle K' hk => hrep s' ha K' hk⟩
 obtain ⟨vj, hi, hrep⟩ := key
 refine uP hc hi (Agree.symm (gK hl2 s s.g vj)) (n5 s oj.dst vj).symm (fun X hX k => ?_) fun v g' hle h1 => ?_
 ·by_cases hk : oj.dst = some k
  ·rw [hany k hk]
   rfl
  ·have := hX k
   rwa [iY, if_neg hk] at this
 ·rw [n5] at hle
  refine hrep _ (gK hl1 s g' v) (by rw [n5]; exact hle) _ ?_
  refine hK _ _ ?_ h1
  refine Eqv.trans ?_ (Eqv.symm (u5 { s with g := g' } v vj hne))
  have he : ({ s.upd oj.dst vj with g := g' } : St) = St.upd { s with g := g' } oj.dst vj := by cases oj.dst <;> rfl
  rw [he]
  exact Eqv.refl _
theorem N2 {fl : Nat → Bool} {K : St → Prop} (hK : ∀ s s', Eqv s s' → K s → K s') {i : Nat} (hi : ops[i]? = some oi) (hnc : (fl i && dD oi.op) = false) {post : List Nat} : ∀ (pre : List Nat) {s : St}, (∀ j ∈ pre, ∃ oj, ops[j]? = some oj ∧ yS ops oj oi (fl j) (fl i) = true) →
  cA Γ spec ops fl (pre ++ i :: post) s K → dO Γ spec ops (fl i) oi s fun s1 => cA Γ spec ops fl (pre ++ post) s1 K
 | [], s, _, h => by
  simp only [List.nil_append, cA, hi] at h
  exact h
 | j :: pre, s, hp, h => by
  obtain ⟨oj, hj, hsw⟩ := hp j (by simp)
  unfold yS at hsw
  rw [hnc] at hsw
  simp only [cond_false] at hsw
  simp only [List.cons_append, cA, hj] at h ⊢
  refine swap (fun s s' he h => CT hK _ he h) hnc hsw ?_
  exact G2 h fun s1 h1 => N2 hK hi hnc pre (fun j' hj' => hp j' (by simp [hj'])) h1
theorem X4 {fl : Nat → Bool} {K : St → Prop} (hK : ∀ s s', Eqv s s' → K s → K s') {i : Nat} (hi : ops[i]? = some oi) (hc : (fl i && dD oi.op) = true) {post : List Nat} : ∀ (pre : List Nat) {s : St}, (∀ j ∈ pre, ∃ oj, ops[j]? = some oj ∧ yS ops oj oi (fl j) (fl i) = true) →
  (∀ j ∈ pre, ∀ oj d, ops[j]? = some oj → oj.dst = some d → lk s.t d = .any) → pre.Pairwise (fun j k => ∀ oj ok d, ops[j]? = some oj → ops[k]? = some ok → ok.dst = some d → oj.dst ≠ some d) →
  cA Γ spec ops fl (pre ++ i :: post) s K → dO Γ spec ops (fl i) oi s fun s1 => cA Γ spec ops fl (pre ++ post) s1 K
 | [], s, _, _, _, h => by
  simp only [List.nil_append, cA, hi] at h
  exact h
 | j :: pre, s, hp, hany, hpw, h => by
  obtain ⟨oj, hj, hsw⟩ := hp j (by simp)
  unfold yS at hsw
  rw [hc] at hsw
  simp only [List.cons_append, cA, hj] at h ⊢
  obtain ⟨hp1, hp2⟩ := List.pairwise_cons.1 hpw
  refine a3P (fun s s' he h => CT hK _ he h) hc hsw (fun d hd => hany j (by simp) oj d hj hd) ?_
  refine G2 (TO h) fun s1 h1 => ?_
  refine X4 hK hi hc pre (fun j' hj' => hp j' (by simp [hj'])) (fun j' hj' ok d hok hd => ?_) hp2 h1.1
  rw [h1.2 d (hp1 j' hj' oj ok d hj hok hd)]
  exact hany j' (by simp [hj']) ok d hok hd
theorem eW {p : Nat → Bool} : ∀ {n : Nat}, gI p n = true → ∀ i, i < n → p i = true
 | n + 1, h, i, hi => by
  simp only [gI, Bool.and_eq_true] at h
  rcases Nat.lt_succ_iff_lt_or_eq.1 hi with h1 | rfl
  ·exact eW h.2 i h1
  ·exact h.1
theorem qD : ∀ {l : List Nat} {i : Nat}, dY l i = true → i ∈ l
 | [], i, h => by cases h
 | k :: r, i, h => by
  simp only [dY] at h
  cases hb : Nat.beq k i with
  | true => rw [Nat.eq_of_beq_eq_true hb]; simp
  | false => rw [hb] at h; simp [qD (l := r) h]
theorem iN {p : Nat → Nat → Bool} : ∀ {l : List Nat}, kR p l = true → l.Pairwise fun j i => p j i = true
 | [], _ => List.Pairwise.nil
 | j :: r, h => by
  simp only [kR, Bool.and_eq_true] at h
  exact List.Pairwise.cons (fun i hi => List.all_eq_true.1 h.1 i hi) (iN h.2)
theorem qY (acc : List Nat) (j : Nat) : ∀ (es : List Edge), Nat.testBit (m4 acc es) j = true → ∃ e ∈ es, Region.binds .any e = true ∧ (e.on = j ∨ Nat.testBit (acc.getD e.on 0) j = true)
 | [], h => by simp [m4] at h
 | e :: r, h => by
  simp only [m4] at h
  cases hb : Region.binds .any e with
  | false =>
   rw [hb] at h
   obtain ⟨e', h1, h2⟩ := qY acc j r h
   exact ⟨e', by simp [h1], h2⟩
  | true =>
   rw [hb] at h
   have h' : ((1 <<< e.on ||| acc.getD e.on 0) ||| m4 acc r).testBit j = true := h
   rw [Nat.testBit_or, Nat.testBit_or] at h'
   simp only [Bool.or_eq_true] at h'
   rcases h' with (h' | h') | h'
   ·refine ⟨e, by simp, hb, .inl ?_⟩
    rw [Nat.shiftLeft_eq, Nat.one_mul, Nat.testBit_two_pow] at h'
    exact of_decide_eq_true h'
   ·exact ⟨e, by simp, hb, .inr h'⟩
   ·obtain ⟨e', h1, h2⟩ := qY acc j r h'
    exact ⟨e', by simp [h1], h2⟩
theorem MB : ∀ (os : List Oper) (acc : List Nat) (i j : Nat), Nat.testBit ((fE os acc).getD i 0) j = true → (i < acc.length ∧ Nat.testBit (acc.getD i 0) j = true) ∨ (∃ o, acc.length ≤ i ∧ os[i - acc.length]? = some o ∧ ∃ e ∈ o.after.toList, Region.binds .any e = true ∧ (e.on = j ∨ (e.on < i ∧ Nat.testBit ((fE os acc).getD e.on 0) j = true)))
 | [], acc, i, j, h => by
  simp only [fE] at h
  left
  refine ⟨?_, h⟩
  rcases Nat.lt_or_ge i acc.length with h1 | h1
  ·exact h1
  ·rw [List.getD_eq_getElem?_getD, List.getElem?_eq_none h1] at h
   simp at h
 | o :: os, acc, i, j, h => by
  have hpre : ∀ (os : List Oper) (acc : List Nat) (k : Nat), k < acc.length → (fE os acc).getD k 0 = acc.getD k 0 := by
   intro os
   induction os with
   | nil => intro acc k hk; rfl
   | cons o os ih =>
    intro acc k hk
    simp only [fE]
    rw [ih _ k (by simp; omega)]
    simp only [List.getD_eq_getElem?_getD, List.getElem?_append_left hk]
  have h' := h
  simp only [fE] at h ⊢
  rcases MB os _ i j h with ⟨h1, h2⟩ | ⟨o', h1, h2, e, he, hb, h3⟩
  ·simp only [List.length_append, List.length_cons, List.length_nil, Nat.zero_add] at h1
   rcases Nat.lt_succ_iff_lt_or_eq.1 h1 with h4 | h4
   ·left
    refine ⟨h4, ?_⟩
    rw [List.getD_eq_getElem?_getD, List.getElem?_append_left h4] at h2
    rw [List.getD_eq_getElem?_getD]
    exact h2
   ·right
    subst h4
    rw [List.getD_eq_getElem?_getD, List.getElem?_append_right (Nat.le_refl _)] at h2
    simp only [Nat.sub_self, List.getElem?_cons_zero, Option.getD_some] at h2
    obtain ⟨e, he, hb, h3⟩ := qY acc j _ h2
    refine ⟨o, Nat.le_refl _, by simp, e, he, hb, h3.imp id fun h5 => ?_⟩
    have hlt : e.on < acc.length := by
     rcases Nat.lt_or_ge e.on acc.length with h6 | h6
     ·exact h6
     ·rw [List.getD_eq_getElem?_getD, List.getElem?_eq_none h6] at h5
      simp at h5
    refine ⟨hlt, ?_⟩
    rw [hpre os (acc ++ [m4 acc o.after.toList]) e.on (by simp; omega), List.getD_eq_getElem?_getD, List.getElem?_append_left hlt]
    rwa [List.getD_eq_getElem?_getD] at h5
  ·right
   simp only [List.length_append, List.length_cons, List.length_nil, Nat.zero_add] at h1 h2
   refine ⟨o', by omega, ?_, e, he, hb, h3⟩
   rw [show i - acc.length = (i - (acc.length + 1)) + 1 from by omega, List.getElem?_cons_succ]
   exact h2
theorem nR {listed : Array Bool} (hd : ∀ i o, ops[i]? = some o → listed.getD i false = true → ∀ e ∈ o.after, Region.binds .any e = true → listed.getD e.on false = true) :
  ∀ (i j : Nat) (o : Oper), ops[i]? = some o → (∀ e ∈ o.after, Region.binds .any e = true → listed.getD e.on false = true) → Nat.testBit ((fE ops.toList []).getD i 0) j = true → listed.getD j false = true := by
 intro i
 induction i using Nat.strongRecOn with
 | _ i ih =>
  intro j o ho hr h
  rcases MB ops.toList [] i j h with ⟨h1, _⟩ | ⟨o', _, h2, e, he, hb, h3⟩
  ·simp at h1
  ·have hoo : o' = o := by
    simp at h2
    rw [ho] at h2
    exact (Option.some.inj h2).symm
   subst hoo
   have hl := hr e (by simpa using he) hb
   rcases h3 with rfl | ⟨h4, h5⟩
   ·exact hl
   ·cases hoe : ops[e.on]? with
    | none =>
     have hi := (Array.getElem?_eq_some_iff.1 ho).1
     rw [Array.getElem?_eq_none_iff] at hoe
     omega
    | some oe => exact ih e.on h4 j oe hoe (hd e.on oe hoe hl) h5
end
end Go.Proofs.YtboolngaahifdaaGreatD
