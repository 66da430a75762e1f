/- The conditions of operations, regions and code, computed from the text. -/
import Derived.Test.YtiplgkbgkmomlaaD1
set_option linter.unusedVariables false
set_option linter.unusedSimpArgs false
namespace Go.Proofs.YtiplgkbgkmomlaaD
open Go

/-- The contract of a function that reads its arguments only: see D3. -/
abbrev CallRel := Nat → List V → V → List V → Prop

def callK (spec : CallRel) (s : St) (f : Nat) (args : List V) (K : V → St → Prop) : Prop :=
  snapsK s args fun as => ∃ r, spec f as r [] ∧ (roOnlys args = true ∨ closed r) ∧ (K (roV r) s ∨ K (impV s.g.length r) { s with g := s.g ++ impO r })

/-- A call that writes to what it is lent. -/
def lcallK (spec : CallRel) (s : St) (f : Nat) (args : List V) (K : V → St → Prop) : Prop :=
  lendsK s [] args fun as X => bif noSubT X s.t && noSubG X s.g then ∃ r o os, spec f as r (o :: os) ∧ backsK s args (o :: os) fun s => (K (roV r) s ∨ K (impV s.g.length r) { s with g := s.g ++ impO r }) else False
def callsK (spec : CallRel) (l : Bool) (s : St) (f : Nat) (args : List V) (K : V → St → Prop) : Prop :=
  match roOnlys args || !l with
  | true => callK spec s f args K
  | false => callK spec s f args K ∨ lcallK spec s f args K

/-- A call of a function value whose arguments are given up: what they hold is read only from there on. -/
def fcallK (spec : CallRel) (s : St) (f : Nat) (args : List V) (K : V → St → Prop) : Prop :=
  ∃ D : List Nat, (inDs D args && boxIn D 0 s.g) = true ∧ snapsK s args fun as => ∃ r, spec f as r [] ∧ ∃ g, dropG D 0 s.g = g ∧ (K (roV r) { s with g := g } ∨ K (impV s.g.length r) { s with g := g ++ impO r })
def callsV (spec : CallRel) (l : Bool) (s : St) (f : Nat) (args : List V) (K : V → St → Prop) : Prop :=
  match roOnlys args || !l with
  | true => callK spec s f args K
  | false => callK spec s f args K ∨ lcallK spec s f args K ∨ fcallK spec s f args K

/-- A bound of a slice expression. -/
def bndV (s : St) (d : Nat) : Option Operand → Option Int
  | none => some d
  | some x => match ev s x with
    | .sc (.int _ l) => some l
    | _ => none

/-- append of a row's rest to its own beginning. -/
def selfB : V → V → Bool
  | .own i _ 0 _ _ _, .own j _ _ _ _ _ => Nat.beq i j
  | _, _ => false
def selfK (s : St) (z : Nat) : V → V → (V → St → Prop) → Prop
  | .own i sz 0 n _ _, .own _ sz' off m _ _, K => match s.ob i with
    | some ⟨false, cs⟩ => bif Nat.beq sz z && Nat.beq sz' z then ((n + m ≤ 1099511627776 ∧ n * sz ≤ off ∧ n * sz ≤ cs.length) ∧ ∃ r, takeN cs off (m * sz) = some r ∧ (∀ c ∈ r, solid c = true) ∧ ∃ cs', cs.take (n * sz) ++ r = cs' ∧ K (.own s.g.length sz 0 (n + m) (n + m) none) ((s.put i none).add ⟨false, cs'⟩)) else False
    | _ => False
  | _, _, _ => False
def bytesOf (bs : List Int) : ByteArray := bs.foldl (fun r n => r.push (UInt8.ofNat n.toNat)) ByteArray.empty
/-- One operation: what is asked, and with what it goes on. -/
def opVC (Γ : Tab) (spec : CallRel) (l : Bool) (o : Oper) (s : St) (K : V → St → Prop) : Prop :=
  match o.op with
  | .move x | .assign x => K (ev s x) s
  | .pick c a b => match ev s c with
    | .sc (.bool t) => match t with
      | true => K (ev s a) s
      | false => K (ev s b) s
    | _ => False
  | .binOp op t x y _ => match ev s x, ev s y with
    | .sc (.int k a), .sc (.int k' b) => bif sameK k k' then binI op k a b (fun v => K v s) else False
    | .sc (.string a), .sc (.string b) => binS op a b (fun v => K v s)
    | .sc (.bool a), .sc (.bool b) => match op, (Γ t).map (·.boo) with
      | .eql, some true => K (.sc (.bool (a == b))) s
      | .neq, some true => K (.sc (.bool (a != b))) s
      | _, _ => False
    | .ro _ cs, .sc (.slice none 0 0) => cs ≠ [] ∧ nilC op ((Γ t).bind (·.elem)) false (fun v => K v s)
    | .sc (.slice none 0 0), .sc (.slice none 0 0) => nilC op ((Γ t).bind (·.elem)) true (fun v => K v s)
    | _, _ => False
  | .unOp .not _ x => match ev s x with
    | .sc (.bool t) => K (.sc (.bool (!t))) s
    | _ => False
  | .unOp .neg _ x => match ev s x with
    | .sc (.int k a) => K (.sc (.int k (k.wrap (0 - a)))) s
    | _ => False
  | .extract t ix => match ev s t with
    | .tup vs => match vs[ix]? with
      | some v => K v s
      | none => False
    | _ => False
  | .alloc t => match Γ t with
    | some ti => K (.ptr s.g.length 0) (s.add ⟨true, ti.zero.map .sc⟩)
    | none => False
  | .box _ x => match cellsV s (ev s x) with
    | some cs => K (.ptr s.g.length 0) (s.add ⟨true, cs⟩)
    | none => False
  | .nilCheck x => match ev s x with
    | .ptr i off => match s.ob i with
      | some _ => K (.ptr i off) s
      | none => False
    | .rp cs => K (.rp cs) s
    | _ => False
  | .load t x => match ev s x, Γ t with
    | .ptr i off, some ti => match s.ob i with
      | some ⟨true, cs⟩ => match takeN cs off ti.size with
        | some r => K (pack ti.agg r) s
        | none => False
      | some ⟨false, cs⟩ => bif Nat.beq ti.size 0 then False else ∃ r, takeN cs off ti.size = some r ∧ K (pack ti.agg (views i off r)) s
      | none => False
    | .rp cs, some ti => ∃ r, takeN cs 0 ti.size = some r ∧ K (pack ti.agg r) s
    | .sp i j off, some ti => match s.ob i with
      | some ⟨false, cs⟩ => bif Nat.beq ti.size 0 then False else ∃ sz n r q, cs[j]? = some (.tr sz n r) ∧ takeN r off ti.size = some q ∧ (∀ c ∈ q, flat c = true) ∧ K (pack ti.agg q) s
      | _ => False
    | _, _ => False
  | .store t x y => match ev s x, cellsV s (ev s y), Γ t with
    | .ptr i off, some vs, some ti => bif Nat.beq vs.length ti.size then (match s.ob i with
      | some ⟨true, cs⟩ => bif vs.all solid && Nat.ble (off + ti.size) cs.length then K .any (s.put i (some ⟨true, setC cs off vs⟩)) else False
      | some ⟨false, cs⟩ => bif Nat.beq ti.size 0 then False else match vs.all flat with
        | true => ∃ r, takeN cs off ti.size = some r ∧ ∃ cs', setC cs off vs = cs' ∧ K .any (s.put i (some ⟨false, cs'⟩))
        | false => bif l && (noSubT [(i, none)] s.t && noSubG [(i, none)] s.g) then (∃ r, takeN cs off ti.size = some r ∧ intosK s vs fun us s1 => match s1.ob i with
          | some ⟨false, cs1⟩ => off + ti.size ≤ cs1.length ∧ ∃ cs', setC cs1 off us = cs' ∧ K .any (s1.put i (some ⟨false, cs'⟩))
          | _ => False) else False
      | none => False) else False
    | .sp i j off, some vs, some ti => bif Nat.beq vs.length ti.size && vs.all flat && !(Nat.beq ti.size 0) then (match s.ob i with
      | some ⟨false, cs⟩ => ∃ sz n r q, cs[j]? = some (.tr sz n r) ∧ takeN r off ti.size = some q ∧ ∃ cs', cs.set j (.tr sz n (setC r off vs)) = cs' ∧ K .any (s.put i (some ⟨false, cs'⟩))
      | _ => False) else False
    | _, _, _ => False
  | .fieldAddr t x f => match ev s x, (Γ t).bind fun ti => nth ti.fields f with
    | .ptr i off, some d => match s.ob i with
      | some _ => K (.ptr i (off + d)) s
      | none => False
    | .rp cs, some d => K (.rp (cs.drop d)) s
    | .sp i j off, some d => K (.sp i j (off + d)) s
    | _, _ => False
  | .indexAddr t x ix => match ev s x, ev s ix, (Γ t).bind fun ti => ti.elem.bind Γ with
    | .ro n cs, .sc (.int _ i), some te => bif Nat.beq te.size 0 then False else (0 ≤ i ∧ i < n) ∧ cs.length = n * te.size ∧ K (.rp (cs.drop (i.toNat * te.size))) s
    | .own k sz off n _ _, .sc (.int _ i), some te => match s.ob k with
      | some _ => bif Nat.beq sz te.size then ((0 ≤ i ∧ i < n) ∧ K (.ptr k (off + i.toNat * te.size)) s) else False
      | none => False
    | .sub k j, .sc (.int _ i), some te => match s.ob k with
      | some ⟨false, cs⟩ => ∃ n r, cs[j]? = some (.tr te.size n r) ∧ (0 ≤ i ∧ i < n) ∧ K (.sp k j (i.toNat * te.size)) s
      | _ => False
    | _, _, _ => False
  | .index t x ix => match ev s x, ev s ix with
    | .sc (.string b), .sc (.int _ i) => (∃ ti, Γ t = some ti ∧ ti.str = true) ∧ ∃ h : 0 ≤ i ∧ i.toNat < b.size, K (.sc (.int .u8 ((b[i.toNat]'h.2).toNat : Int))) s
    | _, _ => False
  | .build t parts => match Γ t with
    | some ti => bif Nat.beq ti.fields.length 0 then False else match fillV s (places ti.fields ti.fsz) (ti.zero.map .sc) (partsV s parts.toList) with
      | some cs => K (.agg cs) s
      | none => False
    | none => False
  | .buildSlice t len parts => match (Γ t).bind fun ti => ti.elem.bind Γ with
    | some te => bif Nat.ble (len * te.size) 1000 && !(Nat.beq te.size 0) then (match fillV s (fun i => some (i * te.size, te.size)) (repl len (te.zero.map .sc)) (partsV s parts.toList) with
      | some cs => intosK s cs fun cs' s' => K (.own s'.g.length te.size 0 len len (some len)) (s'.add ⟨false, cs'⟩)
      | none => False) else False
    | none => False
  | .slice t x lo hi none => match ev s x, (Γ t).bind fun ti => ti.elem.bind Γ with
    | .ro n cs, some te => match bndV s 0 lo, bndV s n hi with
      | some l, some h => (0 ≤ l ∧ l ≤ h ∧ h ≤ n) ∧ cs.length = n * te.size ∧ ∃ r, takeN cs (l.toNat * te.size) ((h.toNat - l.toNat) * te.size) = some r ∧ K (.ro (h.toNat - l.toNat) r) s
      | _, _ => False
    | .own i sz off n _ _, some te => match bndV s 0 lo, bndV s n hi, s.ob i with
      | some l, some h, some _ => bif Nat.beq sz te.size then ((0 ≤ l ∧ l ≤ h ∧ h ≤ n) ∧ K (.own i sz (off + l.toNat * sz) (h.toNat - l.toNat) (h.toNat - l.toNat) none) s) else False
      | _, _, _ => False
    | _, _ => False
  | .makeSlice t x y => match ev s x, ev s y, (Γ t).bind fun ti => ti.elem.bind Γ with
    | .sc (.int _ l), .sc (.int _ c), some te => bif Nat.ble te.bytes 64 && !(Nat.beq te.size 0) then ((0 ≤ l ∧ l ≤ c ∧ c ≤ 1099511627776) ∧ ∃ r, repl l.toNat (te.zero.map .sc) = r ∧ K (.own s.g.length te.size 0 l.toNat l.toNat none) (s.add ⟨false, r⟩)) else False
    | _, _, _ => False
  | .convert src dst x => match ev s x, (Γ dst).bind (·.kind), (Γ src).bind (·.kind) with
    | .sc (.int _ a), some k, some _ => K (.sc (.int k (k.wrap a))) s
    | .own i sz off n _ _, none, none => bif l && Nat.beq sz 1 then (match s.ob i, Γ dst, (Γ src).bind fun ts => ts.elem.bind Γ with
      | some ⟨false, cs⟩, some td, some te => (td.str = true ∧ te.kind = some .u8) ∧ ∃ bs : List Int, takeN cs off n = some (bs.map fun b => .sc (.int .u8 b)) ∧ K (.sc (.string (bytesOf bs))) s
      | _, _, _ => False) else False
    | _, _, _ => False
  | .call { callee := .builtin .len, args, argTypes } => match args.toList, argTypes.toList with
    | [x], [t] => match ev s x, Γ t with
      | .sc (.string b), some ti => bif ti.str then K (.sc (.int .i64 b.size)) s else False
      | v, some ti => match ti.elem, lenV s v with
        | some _, some n => K (.sc (.int .i64 n)) s
        | _, _ => False
      | _, none => False
    | _, _ => False
  | .call { callee := .builtin .append, args, argTypes } => match args.toList, argTypes.toList with
    | [x, y], [t, u] => match (Γ t).bind fun ti => ti.elem.bind Γ, (Γ u).bind (·.elem) with
      | some te, some _ => bif Nat.ble te.bytes 64 && !(Nat.beq te.size 0) then bif selfB (ev s x) (ev s y) then selfK s te.size (ev s x) (ev s y) K else srcK s te.size (ev s y) fun m src s1 => match ev s x with
        | .sc (.slice none 0 0) => m ≤ 1099511627776 ∧ K (.own s1.g.length te.size 0 m m none) (s1.add ⟨false, src⟩)
        | .own i sz 0 n _ _ => match s1.ob i with
          | some ⟨false, cs⟩ => bif Nat.beq sz te.size then (n + m ≤ 1099511627776 ∧ cs.length = n * sz ∧ ∃ cs', cs ++ src = cs' ∧ K (.own s1.g.length sz 0 (n + m) (n + m) none) ((s1.put i none).add ⟨false, cs'⟩)) else False
          | _ => False
        | _ => False else False
      | _, _ => False
    | _, _ => False
  | .call { callee := .value (.func f), args, .. } => callsK spec l s f (args.toList.map (ev s)) K
  | .call { callee := .value (.tmp t), args, .. } => match lk s.t t with
    | .fn f cs => callsV spec l s f (args.toList.map (ev s) ++ cs) K
    | _ => False
  | .makeFunc (.func f) first captured => match first.toList with
    | [] => K (.fn f (captured.toList.map (ev s))) s
    | _ => False
  | _ => False

def WantedO (s : St) (ops : Array Oper) (o : Oper) (yes no : Prop) : Prop :=
  match o.guard with
  | none => yes
  | some (j, want) => match ((ops[j]?).bind (·.dst)).map (lk s.t) with
    | some (.sc (.bool b)) => (b = want → yes) ∧ (b = (!want) → no)
    | some (.tup []) => no
    | _ => False
def Wanted (s : St) (ops : Array Oper) (o : Oper) (yes no : Prop) : Prop :=
  match o.guard with
  | none => yes
  | some (j, want) => match ((ops[j]?).bind (·.dst)).map (lk s.t) with
    | some (.sc (.bool b)) => match want with
      | true => match b with
        | true => yes
        | false => no
      | false => match b with
        | true => no
        | false => yes
    | some (.tup []) => no
    | _ => False
theorem Wanted_old (s : St) (ops : Array Oper) (o : Oper) (yes no : Prop) : Wanted s ops o yes no = WantedO s ops o yes no := by
  unfold Wanted WantedO
  cases o.guard with
  | none => rfl
  | some jw =>
    obtain ⟨j, w⟩ := jw
    simp only
    split
    · rename_i b hb
      cases w <;> cases b <;> simp
    · rfl
    · rfl
/-! States are kept written out: else a state would be a nest of updates that is worked out again and again. -/
def numK : Nat → Nat → Nat → (Nat → Prop) → Prop
  | 0, i, _, K => K i
  | f + 1, i, j, K => bif Nat.beq i j then K j else numK f i (j + 1) K
mutual
def forceV : V → (V → Prop) → Prop
  | .sc v, K => match v with
    | .int k a => K (.sc (.int k a))
    | .bool b => K (.sc (.bool b))
    | .string b => K (.sc (.string b))
    | v => K (.sc v)
  | .ro n cs, K => K (.ro n cs)
  | .tr sz n cs, K => K (.tr sz n cs)
  | .own i sz off n lo hi, K => numK 60 i 0 fun i => K (.own i sz off n lo hi)
  | .sub i j, K => numK 60 i 0 fun i => K (.sub i j)
  | .ptr i off, K => numK 60 i 0 fun i => K (.ptr i off)
  | .bp cs, K => K (.bp cs)
  | .sp i j off, K => numK 60 i 0 fun i => K (.sp i j off)
  | .rp cs, K => K (.rp cs)
  | .agg cs, K => forceL cs fun cs => K (.agg cs)
  | .tup cs, K => forceL cs fun cs => K (.tup cs)
  | .fn f cs, K => forceL cs fun cs => K (.fn f cs)
  | .any, K => K .any
def forceL : List V → (List V → Prop) → Prop
  | [], K => K []
  | c :: cs, K => forceV c fun c => forceL cs fun cs => K (c :: cs)
end
def forceG : List (Option Obj) → (List (Option Obj) → Prop) → Prop
  | [], K => K []
  | none :: r, K => forceG r fun r => K (none :: r)
  | some ⟨true, cs⟩ :: r, K => forceL cs fun cs => forceG r fun r => K (some ⟨true, cs⟩ :: r)
  | some ⟨false, cs⟩ :: r, K => forceG r fun r => K (some ⟨false, cs⟩ :: r)
def upK : List (Nat × V) → Nat → V → (List (Nat × V) → Prop) → Prop
  | [], n, v, K => K [(n, v)]
  | (k, u) :: r, n, v, K => bif Nat.beq k n then K ((n, v) :: r) else bif Nat.blt n k then K ((n, v) :: (k, u) :: r) else upK r n v fun r => K ((k, u) :: r)
def dstK (s : St) (d : Option Nat) (v : V) (K : St → Prop) : Prop :=
  match s with
  | ⟨N, t, g⟩ => forceG g fun g => match d with
    | none => K ⟨N, t, g⟩
    | some d => bif Nat.blt d N then forceV v fun v => upK t d v fun t => K ⟨N, t, g⟩ else False

theorem numK_eq : ∀ (f i j : Nat) (K : Nat → Prop), numK f i j K = K i
  | 0, i, j, K => rfl
  | f + 1, i, j, K => by
    simp only [numK]
    cases h : Nat.beq i j with
    | true => rw [Nat.eq_of_beq_eq_true h]; rfl
    | false => exact numK_eq f i (j + 1) K
mutual
theorem forceV_eq : ∀ (v : V) (K : V → Prop), forceV v K = K v
  | .sc v, K => by simp only [forceV]; split <;> rfl
  | .ro _ _, K => rfl
  | .tr _ _ _, K => rfl
  | .own _ _ _ _ _ _, K => by simp only [forceV, numK_eq]
  | .sub _ _, K => by simp only [forceV, numK_eq]
  | .ptr _ _, K => by simp only [forceV, numK_eq]
  | .bp _, K => rfl
  | .sp _ _ _, K => by simp only [forceV, numK_eq]
  | .rp _, K => rfl
  | .agg cs, K => by simp only [forceV, forceL_eq cs]
  | .tup cs, K => by simp only [forceV, forceL_eq cs]
  | .fn _ cs, K => by simp only [forceV, forceL_eq cs]
  | .any, K => rfl
theorem forceL_eq : ∀ (cs : List V) (K : List V → Prop), forceL cs K = K cs
  | [], K => rfl
  | c :: cs, K => by simp only [forceL, forceV_eq c, forceL_eq cs]
end
theorem forceG_eq : ∀ (g : List (Option Obj)) (K : List (Option Obj) → Prop), forceG g K = K g
  | [], K => rfl
  | none :: r, K => by simp only [forceG, forceG_eq r]
  | some ⟨true, cs⟩ :: r, K => by simp only [forceG, forceL_eq cs, forceG_eq r]
  | some ⟨false, cs⟩ :: r, K => by simp only [forceG, forceG_eq r]
theorem upK_eq : ∀ (t : List (Nat × V)) (n : Nat) (v : V) (K : List (Nat × V) → Prop), upK t n v K = K (up t n v)
  | [], n, v, K => rfl
  | (k, u) :: r, n, v, K => by
    simp only [upK, up]
    cases Nat.beq k n with
    | true => rfl
    | false =>
      cases Nat.blt n k with
      | true => rfl
      | false => exact upK_eq r n v _
theorem dstK_eq (s : St) (d : Option Nat) (v : V) (K : St → Prop) : dstK s d v K = match d with
    | none => K s
    | some d => bif Nat.blt d s.N then K { s with t := up s.t d v } else False := by
  obtain ⟨N, t, g⟩ := s
  simp only [dstK, forceG_eq]
  cases d with
  | none => rfl
  | some d => simp only [forceV_eq, upK_eq]

def opsVC (Γ : Tab) (spec : CallRel) (ops : Array Oper) : List Oper → St → (St → Prop) → Prop
  | [], s, K => K s
  | o :: os, s, K => Wanted s ops o (opVC Γ spec true o s fun v s' => dstK s' o.dst v fun s2 => opsVC Γ spec ops os s2 K) (dstK s o.dst (.tup []) fun s2 => opsVC Γ spec ops os s2 K)

inductive X where
  | normal
  | exit (id : Nat)
  | ret
end Go.Proofs.YtiplgkbgkmomlaaD
