/- The conditions of whole functions, computed from the text. -/
import Derived.Test.YtiplgkbgkmomlaaD2
set_option linter.unusedVariables false
set_option linter.unusedSimpArgs false
namespace Go.Proofs.YtiplgkbgkmomlaaD
open Go

/-! ### A state's objects under new names -/
def posAt (j : Nat) : List Nat → Nat → Option Nat
  | [], _ => none
  | k :: r, i => bif Nat.beq k i then some j else posAt (j + 1) r i
mutual
def renV (π : List Nat) : V → V
  | .own i sz off n _ _ => match posAt 0 π i with
    | some k => .own k sz off n n none
    | none => .any
  | .sub i j => match posAt 0 π i with
    | some k => .sub k j
    | none => .any
  | .ptr i off => match posAt 0 π i with
    | some k => .ptr k off
    | none => .any
  | .sp i j off => match posAt 0 π i with
    | some k => .sp k j off
    | none => .any
  | .agg cs => .agg (renVs π cs)
  | .tup cs => .tup (renVs π cs)
  | .fn f cs => .fn f (renVs π cs)
  | v => v
def renVs (π : List Nat) : List V → List V
  | [] => []
  | c :: cs => renV π c :: renVs π cs
end
def renO (π : List Nat) : Option Obj → Option Obj
  | some ⟨true, cs⟩ => some ⟨true, renVs π cs⟩
  | x => x
def isAt (j : Nat) : Option Nat → Bool
  | some k => Nat.beq k j
  | none => false
def renG (π : List Nat) (s : St) : Nat → List Nat → List (Option Obj)
  | _, [] => []
  | j, i :: r => (bif isAt j (posAt 0 π i) then renO π (s.ob i) else none) :: renG π s (j + 1) r
def keepT (π : List Nat) (t : List (Nat × V)) : List Nat → List (Nat × V)
  | [] => []
  | k :: r => (k, renV π (lk t k)) :: keepT π t r
mutual
def refsV : V → List Nat
  | .own i .. => [i]
  | .sub i _ => [i]
  | .ptr i _ => [i]
  | .sp i _ _ => [i]
  | .agg cs => refsVs cs
  | .tup cs => refsVs cs
  | .fn _ cs => refsVs cs
  | _ => []
def refsVs : List V → List Nat
  | [] => []
  | c :: cs => refsV c ++ refsVs cs
end
def refsO : Option Obj → List Nat
  | some ⟨true, cs⟩ => refsVs cs
  | _ => []
def reach (s : St) : Nat → List Nat → List Nat → List Nat
  | 0, _, d => d
  | _ + 1, [], d => d
  | f + 1, i :: r, d => bif memb d i then reach s f r d else reach s f (r ++ refsO (s.ob i)) (d ++ [i])
def refsT (t : List (Nat × V)) : List Nat → List Nat
  | [] => []
  | k :: r => refsV (lk t k) ++ refsT t r
/-- A nil slice in a slot becomes an empty row of the state's own; so does one in field f of the box that a slot points to, with sz + 100 (f + 1) for sz. -/
def nameOne (s : St) (k sz : Nat) : St := match lk s.t k with
  | .sc (.slice none 0 0) => { s with t := up s.t k (.own s.g.length sz 0 0 0 none), g := s.g ++ [some ⟨false, []⟩] }
  | .ptr i 0 => match s.ob i with
    | some ⟨true, cs⟩ => match cs[Nat.pred (Nat.div sz 100)]? with
      | some (.sc (.slice none 0 0)) => { s with g := setOb (s.g ++ [some ⟨false, []⟩]) i (some ⟨true, cs.set (Nat.pred (Nat.div sz 100)) (.own s.g.length (Nat.mod sz 100) 0 0 0 none)⟩) }
      | _ => s
    | _ => s
  | _ => s
def nameNil : St → List (Nat × Nat) → St
  | s, [] => s
  | s, (k, sz) :: r => bif Nat.beq sz 0 then nameNil s r else nameNil (nameOne s k sz) r
def fsts : List (Nat × Nat) → List Nat
  | [] => []
  | (k, _) :: r => k :: fsts r
def renS (π : List Nat) (ks : List Nat) (s : St) : St := ⟨s.N, keepT π s.t ks, renG π s 0 π⟩
def upto : Nat → Nat → List Nat
  | 0, _ => []
  | n + 1, k => k :: upto n (k + 1)
def normS (np : Nat) (ks : List Nat) (s : St) : St := renS (reach s 100 (upto np 0 ++ refsT s.t ks) []) ks s
/-- np: so many objects keep their names. -/
def norm (np : Nat) (ks : List (Nat × Nat)) (s : St) : St := normS np (fsts ks) (nameNil s ks)

/-! ### Code -/
def thenK (Q : X → St → Prop) (next : St → Prop) : X → St → Prop
  | .normal, s => next s
  | e, s => Q e s
def blockK (id : Nat) (Q : X → St → Prop) : X → St → Prop
  | .exit i, s => bif Nat.beq i id then Q .normal s else Q (.exit i) s
  | e, s => Q e s
/-- A loop: the slots that are kept (with the size of an element, where a nil slice is to be named), what holds at its head where at most so many rounds are left. -/
def Loop (np : Nat) (body : (X → St → Prop) → St → Prop) (Q : X → St → Prop) (s : St) : Prop :=
  ∃ (ks : List (Nat × Nat)) (I : Nat → St → Prop) (m : Nat), I m (norm np ks s) ∧ ∀ m s1, I m s1 → body (thenK Q fun s2 => ∃ m', m' < m ∧ I m' (norm np ks s2)) s1
/-! ### Regions whose order is drawn -/
/-- 0: it makes and writes nothing. 1: new objects only. 2: rows are given up or grow. 3: it writes. -/
def wc : Op → Nat
  | .alloc _ => 1
  | .box _ _ => 1
  | .call { callee := .value (.func _), .. } => 1
  | .call { callee := .value (.tmp _), .. } => 1
  | .makeFunc _ _ _ => 0
  | .call { callee := .builtin .append, .. } => 2
  | .buildSlice _ _ _ => 2
  | .makeSlice _ _ _ => 1
  | .store _ _ _ => 3
  | .call { callee := .builtin .len, .. } => 0
  | .move _ => 0
  | .assign _ => 0
  | .pick _ _ _ => 0
  | .binOp _ _ _ _ _ => 0
  | .unOp _ _ _ => 0
  | .extract _ _ => 0
  | .nilCheck _ => 0
  | .load _ _ => 0
  | .fieldAddr _ _ _ => 0
  | .indexAddr _ _ _ => 0
  | .index _ _ _ => 0
  | .build _ _ => 0
  | .slice _ _ _ _ none => 0
  | .convert _ _ _ => 0
  | _ => 9
def opnds : Op → List Operand
  | .alloc _ => []
  | .box _ x => [x]
  | .call { callee := .value (.tmp t), args, .. } => .tmp t :: args.toList
  | .call { args, .. } => args.toList
  | .makeFunc _ _ c => c.toList
  | .buildSlice _ _ ps => ps.toList.map (·.2)
  | .makeSlice _ x y => [x, y]
  | .store _ x y => [x, y]
  | .move x => [x]
  | .assign x => [x]
  | .pick c a b => [c, a, b]
  | .binOp _ _ x y _ => [x, y]
  | .unOp _ _ x => [x]
  | .extract x _ => [x]
  | .nilCheck x => [x]
  | .load _ x => [x]
  | .fieldAddr _ x _ => [x]
  | .indexAddr _ x i => [x, i]
  | .index _ x i => [x, i]
  | .build _ ps => ps.toList.map (·.2)
  | .slice _ x lo hi _ => x :: (lo.toList ++ hi.toList)
  | .convert _ _ x => [x]
  | _ => []
def isTmp (d : Nat) : List Operand → Bool
  | [] => false
  | .tmp t :: r => bif Nat.beq t d then true else isTmp d r
  | _ :: r => isTmp d r
/-- Does o look at slot d? -/
def looks (ops : Array Oper) (o : Oper) (d : Nat) : Bool :=
  isTmp d (opnds o.op) || (match o.guard with
    | some (j, _) => (match (ops[j]?).bind (·.dst) with
      | some e => Nat.beq e d
      | none => false)
    | none => false)
def looksD (ops : Array Oper) (o : Oper) : Option Nat → Bool
  | some d => looks ops o d
  | none => false
def sameD : Option Nat → Option Nat → Bool
  | some a, some b => Nat.beq a b
  | _, _ => false
def classOk (cj ci : Nat) (fj : Bool) : Bool := Nat.beq cj 0 && (Nat.beq ci 0 || Nat.beq ci 1 || (Nat.beq ci 2 && fj))
/-- It looks at slots alone. -/
def slotOnly : Op → Bool
  | .move _ => true
  | .assign _ => true
  | .pick _ _ _ => true
  | .extract _ _ => true
  | _ => false
/-- j stands ahead of i in the chosen order, and may as well stand behind it. -/
def swapB (ops : Array Oper) (oj oi : Oper) (fj : Bool) : Bool :=
  (classOk (wc oj.op) (wc oi.op) fj || slotOnly oj.op) && !(looksD ops oj oi.dst) && !(looksD ops oi oj.dst) && !(sameD oj.dst oi.dst)
def edgeMask (acc : List Nat) : List Edge → Nat
  | [] => 0
  | e :: r => bif Region.binds .any e then Nat.lor (Nat.lor (Nat.shiftLeft 1 e.on) (acc.getD e.on 0)) (edgeMask acc r) else edgeMask acc r
def ancs : List Oper → List Nat → List Nat
  | [], acc => acc
  | o :: os, acc => ancs os (acc ++ [edgeMask acc o.after.toList])
def allBelow (p : Nat → Bool) : Nat → Bool
  | 0 => true
  | n + 1 => p n && allBelow p n
/-- Those that are worked out on boxes alone: a row may be given up before or behind them. -/
def flagOf (ops : Array Oper) (A : List Nat) (k : Nat) : Bool :=
  !(allBelow (fun m => match ops[m]? with
    | some o => !(Nat.beq (wc o.op) 2) || Nat.beq m k || Nat.testBit (A.getD k 0) m || Nat.testBit (A.getD m 0) k
    | none => true) ops.size)
def pairOk (ops : Array Oper) (A : List Nat) (j i : Nat) : Bool :=
  !(Nat.beq j i) && (Nat.testBit (A.getD i 0) j || (match ops[j]?, ops[i]? with
    | some oj, some oi => swapB ops oj oi (flagOf ops A j)
    | _, _ => false))
def pairsAll (p : Nat → Nat → Bool) : List Nat → Bool
  | [] => true
  | j :: r => r.all (p j) && pairsAll p r
/-- The chosen order has all operations; what stands in it otherwise than the text's own edges ask may be turned round. -/
def edgesOk (ops : Array Oper) : Bool :=
  allBelow (fun i => match ops[i]? with
    | some o => o.after.toList.all fun e => !(Region.binds .any e) || Nat.blt e.on i
    | none => true) ops.size
def drawnOk (ops : Array Oper) (A L : List Nat) : Bool := pairsAll (pairOk ops A) L && allBelow (fun i => memb L i) ops.size && L.all (fun i => Nat.blt i ops.size) && edgesOk ops
def boxesG : List (Option Obj) → List (Option Obj)
  | [] => []
  | some ⟨true, cs⟩ :: r => some ⟨true, cs⟩ :: boxesG r
  | _ :: r => none :: boxesG r
def opVCf (Γ : Tab) (spec : CallRel) (f : Bool) (o : Oper) (s : St) (K : V → St → Prop) : Prop :=
  bif f && Nat.beq (wc o.op) 0 then opVC Γ spec false o { s with g := boxesG s.g } (fun v _ => K v s) else opVC Γ spec false o s K
def stepF (Γ : Tab) (spec : CallRel) (ops : Array Oper) (f : Bool) (o : Oper) (s : St) (K : St → Prop) : Prop :=
  Wanted s ops o (opVCf Γ spec f o s fun v s' => dstK s' o.dst v K) (dstK s o.dst (.tup []) K)
def opsVCf (Γ : Tab) (spec : CallRel) (ops : Array Oper) (fl : Nat → Bool) : List Nat → St → (St → Prop) → Prop
  | [], s, K => K s
  | i :: r, s, K => match ops[i]? with
    | some o => stepF Γ spec ops (fl i) o s fun s2 => opsVCf Γ spec ops fl r s2 K
    | none => opsVCf Γ spec ops fl r s K
/-! An order in three parts (with 1000 between): operations; new variables that may be made at any time among these; operations that stand behind all of them. -/
def cutA : List Nat → List Nat
  | [] => []
  | k :: r => bif Nat.beq k 1000 then [] else k :: cutA r
def cutB : List Nat → List Nat
  | [] => []
  | k :: r => bif Nat.beq k 1000 then r else cutB r
def allocFree (Γ : Tab) (o : Oper) : Bool := match o.op, o.guard, o.dst with
  | .alloc t, none, some _ => (Γ t).isSome
  | _, _, _ => false
def awayB (ops : Array Oper) (j i : Nat) : Bool := match ops[j]?, ops[i]? with
  | some oj, some oi => !(looksD ops oj oi.dst) && !(sameD oj.dst oi.dst)
  | _, _ => false
def freeB (Γ : Tab) (ops : Array Oper) (i : Nat) : Bool := match ops[i]? with
  | some o => allocFree Γ o
  | none => false
/-- It may stand behind the new variables and among what stands behind all. -/
def goodB (ops : Array Oper) (A AL L2 : List Nat) (j : Nat) : Bool := match ops[j]? with
  | some oj => AL.all (fun i => match ops[i]? with
      | some oi => swapB ops oj oi (flagOf ops A j)
      | none => false) && L2.all (fun i => pairOk ops A j i)
  | none => false
def partsOk (Γ : Tab) (ops : Array Oper) (A L1 AL L2 : List Nat) : Bool :=
  pairsAll (pairOk ops A) L1 && pairsAll (pairOk ops A) L2 && allBelow (fun i => memb L1 i || memb AL i || memb L2 i) ops.size && (L1 ++ AL ++ L2).all (fun i => Nat.blt i ops.size) && edgesOk ops
    && AL.all (freeB Γ ops) && L1.all (fun j => AL.all (awayB ops j)) && pairsAll (awayB ops) AL && L2.all (fun i => (AL.all fun j => Nat.testBit (A.getD i 0) j && !(Nat.beq i j)) && L1.all fun j => (Nat.testBit (A.getD i 0) j || goodB ops A AL L2 j) && !(Nat.beq i j)) && AL.all (fun i => !(memb L1 i))
def maskK (ops : Array Oper) : List Nat → St → (St → Prop) → Prop
  | [], s, K => K s
  | i :: r, s, K => match ops[i]? with
    | some o => dstK s o.dst .any fun s => maskK ops r s K
    | none => False
def drawnB (np : Nat) (Γ : Tab) (ops : Array Oper) (A L : List Nat) : Bool :=
  bif memb L 1000 then Nat.beq np 0 && partsOk Γ ops A (cutA L) (cutA (cutB L)) (cutB (cutB L)) else drawnOk ops A L
def drawnV (Γ : Tab) (spec : CallRel) (ops : Array Oper) (A L : List Nat) (s : St) (K : St → Prop) : Prop :=
  bif memb L 1000 then maskK ops (cutA (cutB L)) s fun s => opsVCf Γ spec ops (flagOf ops A) (cutA L) s fun s => opsVCf Γ spec ops (flagOf ops A) (cutA (cutB L)) s fun s => opsVCf Γ spec ops (flagOf ops A) (cutB (cutB L)) s K
  else opsVCf Γ spec ops (flagOf ops A) L s K
def Drawn (np : Nat) (Γ : Tab) (spec : CallRel) (ops : Array Oper) (s : St) (K : St → Prop) : Prop :=
  ∃ L : List Nat, drawnB np Γ ops (ancs ops.toList []) L = true ∧ drawnV Γ spec ops (ancs ops.toList []) L s K

def VC (np : Nat) (Γ : Tab) (spec : CallRel) : Code → (X → St → Prop) → St → Prop
  | .skip, Q, s => Q .normal s
  | .region _ ops draw, Q, s => match draw with
    | false => opsVC Γ spec ops ops.toList s (Q .normal)
    | true => Drawn np Γ spec ops s (Q .normal)
  | .seq x y, Q, s => VC np Γ spec x (thenK Q fun s' => VC np Γ spec y Q s') s
  | .cond c x y, Q, s => match ev s c with
    | .sc (.bool b) => match b with
      | true => VC np Γ spec x Q s
      | false => VC np Γ spec y Q s
    | _ => False
  | .block id c, Q, s => VC np Γ spec c (blockK id Q) s
  | .exit id, Q, s => Q (.exit id) s
  | .ret, Q, s => Q .ret s
  | .loop c, Q, s => Loop np (VC np Γ spec c) Q s
  | _, _, _ => False

mutual
def outK (s : St) : V → (V → St → Prop) → Prop
  | .sc v, K => nilK v (K (.sc v) s) (∃ sz, K (.tr sz 0 []) s)
  | .ro n cs, K => K (.ro n cs) s
  | .own i sz 0 n _ _, K => match s.ob i with
    | some ⟨false, cs⟩ => cs.length = n * sz ∧ K (.tr sz n cs) (s.put i none)
    | _ => False
  | .agg cs, K => outsK s cs fun us s' => K (.agg us) s'
  | _, _ => False
def outsK (s : St) : List V → (List V → St → Prop) → Prop
  | [], K => K [] s
  | c :: cs, K => outK s c fun u s1 => outsK s1 cs fun us s2 => K (u :: us) s2
end
def resK (Γ : Tab) (s : St) : List ResultVar → (List V → Prop) → Prop
  | [], K => K []
  | .tmp t :: r, K => resK Γ s r fun vs => K (lk s.t t :: vs)
  | .cell x t :: r, K => match lk s.t x, Γ t with
    | .ptr i off, some ti => match s.ob i with
      | some ⟨true, cs⟩ => match takeN cs off ti.size with
        | some c => resK Γ s r fun vs => K (pack ti.agg c :: vs)
        | none => False
      | _ => False
    | _, _ => False
def one : List V → V
  | [v] => v
  | vs => .tup vs
def RetVC (Γ : Tab) (fn : Func) (r : V) (s : St) : Prop := resK Γ s fn.results.toList fun vs => outsK s vs fun us _ => one us = r
def endK (Γ : Tab) (fn : Func) (r : V) : X → St → Prop
  | .exit _, _ => False
  | _, s => RetVC Γ fn r s
def argT : Nat → List V → List (Nat × V)
  | _, [] => []
  | k, v :: r => (k, v) :: argT (k + 1) r
def argK : Nat → List V → (List (Nat × V) → Prop) → Prop
  | _, [], K => K []
  | k, v :: r, K => argK (k + 1) r fun t => K ((k, v) :: t)
theorem argK_eq : ∀ (k : Nat) (l : List V) (K : List (Nat × V) → Prop), argK k l K = K (argT k l)
  | k, [], K => rfl
  | k, v :: r, K => by simp only [argK, argT, argK_eq (k + 1) r]
def natK : Nat → (Nat → Prop) → Prop
  | 0, K => K 0
  | n + 1, K => K (n + 1)
theorem natK_eq (n : Nat) (K : Nat → Prop) : natK n K = K n := by cases n <;> rfl
def startS (fn : Func) (args : List V) : St := ⟨fn.ntmps, argT 0 args, []⟩
def FnVC (Γ : Tab) (spec : CallRel) (fn : Func) (args : List V) (r : V) : Prop := match fn.body with
  | some c => bif Nat.ble args.length fn.ntmps then natK fn.ntmps fun n => argK 0 args fun t => VC 0 Γ spec c (endK Γ fn r) ⟨n, t, []⟩ else False
  | none => False
/-! ### Functions that write to what they are lent -/
mutual
/-- What the arguments are at the end: k is the first object's number. -/
def finK (s : St) (k : Nat) : V → (V → Prop) → Prop
  | .tr sz n _, K => match s.ob k with
    | some ⟨false, cs⟩ => cs.length = n * sz ∧ K (.tr sz n cs)
    | none => K .any
    | _ => False
  | .bp _, K => match s.ob k with
    | some ⟨false, cs⟩ => cs ≠ [] ∧ K (.bp cs)
    | none => K .any
    | _ => False
  | .agg cs, K => finsK s k cs fun us => K (.agg us)
  | .fn f cs, K => finsK s k cs fun us => K (.fn f us)
  | .sc v, K => K (.sc v)
  | .ro n cs, K => K (.ro n cs)
  | .rp cs, K => K (.rp cs)
  | _, _ => False
def finsK (s : St) (k : Nat) : List V → (List V → Prop) → Prop
  | [], K => K []
  | c :: cs, K => finK s k c fun u => finsK s (k + nl c) cs fun us => K (u :: us)
end
def RetVCL (Γ : Tab) (fn : Func) (as : List V) (r : V) (outs : List V) (s : St) : Prop := resK Γ s fn.results.toList fun vs => outsK s vs fun us s2 => one us = r ∧ finsK s2 0 as fun os => os = outs
def endLK (Γ : Tab) (fn : Func) (as : List V) (r : V) (outs : List V) : X → St → Prop
  | .exit _, _ => False
  | _, s => RetVCL Γ fn as r outs s
def FnVCL (np : Nat) (Γ : Tab) (spec : CallRel) (fn : Func) (as : List V) (r : V) (outs : List V) : Prop := match fn.body with
  | some c => bif Nat.ble as.length fn.ntmps then natK fn.ntmps fun n => forceL (impVs 0 as) fun vs => forceG (impOs as) fun g => argK 0 vs fun t => VC np Γ spec c (endLK Γ fn as r outs) ⟨n, t, g⟩ else False
  | none => False
end Go.Proofs.YtiplgkbgkmomlaaD
