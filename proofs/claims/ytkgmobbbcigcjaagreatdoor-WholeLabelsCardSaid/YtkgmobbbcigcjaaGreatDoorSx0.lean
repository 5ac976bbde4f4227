/- An executor for the model's Go code over an abstract state: definitions. -/
import Derived.Control
import Derived.Calls
import Derived.Tactics
import Derived.LoopN
import Derived.Scope
import Derived.Orders
import GoSem.Instr.Method
namespace Go.Sx
set_option linter.unusedVariables false

/-! ### Tries keyed by numbers -/
inductive T (α : Type) where
  | nil
  | node (l : T α) (v : Option α) (r : T α)

def T.get {α : Type} : T α → Nat → Option α
  | .nil, _ => none
  | .node l v r, k => match k with
    | 0 => v
    | k + 1 => match Nat.beq (Nat.mod k 2) 0 with
      | true => l.get (Nat.div k 2)
      | false => r.get (Nat.div k 2)

def T.setF {α : Type} : Nat → T α → Nat → α → T α
  | 0, t, _, _ => t
  | f + 1, .nil, k, x => match k with
    | 0 => .node .nil (some x) .nil
    | k + 1 => match Nat.beq (Nat.mod k 2) 0 with
      | true => .node (T.setF f .nil (Nat.div k 2) x) none .nil
      | false => .node .nil none (T.setF f .nil (Nat.div k 2) x)
  | f + 1, .node l v r, k, x => match k with
    | 0 => .node l (some x) r
    | k + 1 => match Nat.beq (Nat.mod k 2) 0 with
      | true => .node (T.setF f l (Nat.div k 2) x) v r
      | false => .node l v (T.setF f r (Nat.div k 2) x)

def T.set {α : Type} (t : T α) (k : Nat) (x : α) : T α := T.setF (k + 1) t k x

def T.setL {α : Type} (t : T α) : Nat → List α → T α
  | _, [] => t
  | k, x :: xs => T.setL (t.set k x) (k + 1) xs

def T.ofList {α : Type} (l : List α) : T α := T.setL .nil 0 l

/-- n cells from k on; none, if one is missing. -/
def T.getL {α : Type} (t : T α) : Nat → Nat → Option (List α)
  | _, 0 => some []
  | k, n + 1 => match t.get k with
    | some x => match T.getL t (k + 1) n with
      | some xs => some (x :: xs)
      | none => none
    | none => none

/-! ### Expressions over parameters -/
/-- What a parameter stands for: a number, bytes, parts. -/
inductive SV where
  | mk (i : Int) (s : ByteArray) (l : List SV)

def SV.i : SV → Int
  | .mk i _ _ => i
def SV.s : SV → ByteArray
  | .mk _ s _ => s
def SV.l : SV → List SV
  | .mk _ _ l => l
def SV.nul : SV := .mk 0 .empty []
def SV.ofI (n : Int) : SV := .mk n .empty []
def SV.ofS (s : ByteArray) : SV := .mk 0 s []
def SV.ofL (l : List SV) : SV := .mk 0 .empty l

structure Rho where
  sv : Nat → SV
  val : Nat → Value
  fn : Nat → List SV → SV

def Rho.int (ρ : Rho) (i : Nat) : Int := (ρ.sv i).i
def Rho.nat (ρ : Rho) (i : Nat) : Nat := (ρ.sv i).i.toNat
def Rho.bool (ρ : Rho) (i : Nat) : Bool := decide ((ρ.sv i).i ≠ 0)

/-- What the model's operators make of two integers of a kind. -/
def intBin (op : BinOp) (k : IntKind) (x y : Int) : Int :=
  match op with
  | .add => k.wrap (x + y)
  | .sub => k.wrap (x - y)
  | .mul => k.wrap (x * y)
  | .quo => k.wrap (x.tdiv y)
  | .rem => x.tmod y
  | .and => k.wrap ((BitVec.ofInt k.bits x &&& BitVec.ofInt k.bits y).toNat : Int)
  | .or => k.wrap ((BitVec.ofInt k.bits x ||| BitVec.ofInt k.bits y).toNat : Int)
  | .xor => k.wrap ((BitVec.ofInt k.bits x ^^^ BitVec.ofInt k.bits y).toNat : Int)
  | .andNot => k.wrap ((BitVec.ofInt k.bits x &&& ~~~(BitVec.ofInt k.bits y)).toNat : Int)
  | .shl => k.wrap (x * 2 ^ (min y.toNat k.bits))
  | .shr => x.fdiv (2 ^ (min y.toNat k.bits))
  | _ => 0

def intCmp (op : BinOp) (x y : Int) : Bool :=
  match op with
  | .eql => x == y
  | .neq => x != y
  | .lss => decide (x < y)
  | .leq => decide (x ≤ y)
  | .gtr => decide (x > y)
  | .geq => decide (x ≥ y)
  | _ => false

/-- What may be done to parameters. -/
inductive Prim where
  | len | sel | fld (f : Nat) | row | upd | sub | cat | rep | slen | sat | scat | ssub | sofl | lofs | num | plus | minus | cmp (op : BinOp) | bnot | band | biff | sseq | nz
  deriving DecidableEq

def Prim.den : Prim → List SV → SV
  | .len, [q] => .ofI q.l.length
  | .sel, [q, i] => q.l.getD i.i.toNat .nul
  | .fld f, [e] => e.l.getD f .nul
  | .row, es => .ofL es
  | .upd, [q, i, e] => .ofL (q.l.set i.i.toNat e)
  | .sub, [q, lo, n] => .ofL ((q.l.drop lo.i.toNat).take n.i.toNat)
  | .cat, [a, b] => .ofL (a.l ++ b.l)
  | .rep, [n, e] => .ofL (List.replicate n.i.toNat e)
  | .slen, [s] => .ofI s.s.size
  | .sat, [s, i] => .ofI ((s.s.data.toList.getD i.i.toNat 0).toNat : Int)
  | .scat, [a, b] => .ofS (a.s ++ b.s)
  | .ssub, [s, lo, hi] => .ofS (s.s.extract lo.i.toNat hi.i.toNat)
  | .sofl, [q] => .ofS ⟨(q.l.map fun e => UInt8.ofNat e.i.toNat).toArray⟩
  | .lofs, [s] => .ofL (s.s.data.toList.map fun b => .ofI (b.toNat : Int))
  | .num, [e] => .ofI e.i
  | .plus, [a, b] => .ofI (a.i + b.i)
  | .minus, [a, b] => .ofI (a.i - b.i)
  | .cmp op, [a, b] => .ofI (if intCmp op a.i b.i then 1 else 0)
  | .bnot, [a] => .ofI (if a.i ≠ 0 then 0 else 1)
  | .band, [a, b] => .ofI (if a.i ≠ 0 ∧ b.i ≠ 0 then 1 else 0)
  | .biff, [a, b] => .ofI (if a.i ≠ 0 ↔ b.i ≠ 0 then 1 else 0)
  | .sseq, [a, b] => .ofI (if a.s = b.s then 1 else 0)
  | .nz, [a] => .ofI (if a.i ≠ 0 then 1 else 0)
  | _, _ => .nul

inductive IE where
  | lit (n : Int)
  | at (i : Nat)
  | nat (n i : Nat)
  | bin (op : BinOp) (k : IntKind) (a b : IE)
  | conv (k : IntKind) (a : IE)
  | str (s : ByteArray)
  | prim (p : Prim) (as : List IE)
  | app (f : Nat) (as : List IE)

mutual
def IE.sv (ρ : Rho) : IE → SV
  | .lit n => .ofI n
  | .at i => ρ.sv i
  | .nat n i => .ofI (n + ρ.nat i : Nat)
  | .bin op k a b => .ofI (intBin op k (a.sv ρ).i (b.sv ρ).i)
  | .conv k a => .ofI (k.wrap (a.sv ρ).i)
  | .str s => .ofS s
  | .prim p as => p.den (IE.svs ρ as)
  | .app f as => ρ.fn f (IE.svs ρ as)
def IE.svs (ρ : Rho) : List IE → List SV
  | [] => []
  | a :: as => a.sv ρ :: IE.svs ρ as
end

def IE.den (ρ : Rho) (e : IE) : Int := (e.sv ρ).i

mutual
def IE.same : IE → IE → Bool
  | .lit n, .lit m => decide (n = m)
  | .at i, .at j => Nat.beq i j
  | .nat n i, .nat m j => Nat.beq n m && Nat.beq i j
  | .bin op k a b, .bin op' k' a' b' => match decide (op = op') with
    | true => match decide (k = k') with
      | true => match IE.same a a' with
        | true => IE.same b b'
        | false => false
      | false => false
    | false => false
  | .conv k a, .conv k' a' => match decide (k = k') with
    | true => IE.same a a'
    | false => false
  | .str s, .str t => decide (s.data.toList = t.data.toList)
  | .prim p as, .prim p' as' => match decide (p = p') with
    | true => IE.sames as as'
    | false => false
  | .app f as, .app f' as' => match Nat.beq f f' with
    | true => IE.sames as as'
    | false => false
  | _, _ => false
def IE.sames : List IE → List IE → Bool
  | [], [] => true
  | a :: as, b :: bs => match IE.same a b with
    | true => IE.sames as bs
    | false => false
  | _, _ => false
end

inductive BE where
  | lit (b : Bool)
  | at (i : Nat)
  | cmp (op : BinOp) (a b : IE)
  | not (a : BE)
  | is (e : IE)
  | seq (a b : IE)
  | iff (a b : BE)
  | and (a b : BE)

def BE.den (ρ : Rho) : BE → Bool
  | .lit b => b
  | .at i => ρ.bool i
  | .cmp op a b => intCmp op (a.den ρ) (b.den ρ)
  | .not a => !(a.den ρ)
  | .is e => decide (e.den ρ ≠ 0)
  | .seq a b => decide ((a.sv ρ).s = (b.sv ρ).s)
  | .iff a b => a.den ρ == b.den ρ
  | .and a b => a.den ρ && b.den ρ

def BE.same : BE → BE → Bool
  | .lit a, .lit b => a == b
  | .at i, .at j => Nat.beq i j
  | .cmp op a b, .cmp op' a' b' => match decide (op = op') with
    | true => match IE.same a a' with
      | true => IE.same b b'
      | false => false
    | false => false
  | .not a, .not b => BE.same a b
  | .is a, .is b => IE.same a b
  | .seq a b, .seq a' b' => match IE.same a a' with
    | true => IE.same b b'
    | false => false
  | .iff a b, .iff a' b' => match BE.same a a' with
    | true => BE.same b b'
    | false => false
  | .and a b, .and a' b' => match BE.same a a' with
    | true => BE.same b b'
    | false => false
  | _, _ => false

/-- A number of elements: n, or n and a parameter. -/
structure NE where
  n : Nat
  a : Option Nat

def NE.den (ρ : Rho) (e : NE) : Nat := match e.a with
  | none => e.n
  | some i => e.n + ρ.nat i

def NE.toIE (e : NE) : IE := match e.a with
  | none => .lit (Int.ofNat e.n)
  | some i => .nat e.n i

def mkBin (op : BinOp) (k : IntKind) (a b : IE) : IE :=
  match a, b with
  | .lit x, .lit y => .lit (intBin op k x y)
  | a, b => .bin op k a b
def mkConv (k : IntKind) (a : IE) : IE :=
  match a with
  | .lit x => .lit (k.wrap x)
  | a => .conv k a
def mkNot (a : BE) : BE :=
  match a with
  | .lit b => .lit (!b)
  | .not b => b
  | a => .not a
/-- Comparisons are told by `less than a number`, `less than`, `is`, and their contraries. -/
def ltE (a b : IE) : BE := match a with
  | .lit x => .not (.cmp .lss b (.lit (x + 1)))
  | a => .cmp .lss a b
def eqE (a b : IE) : BE := match IE.same a b with
  | true => .lit true
  | false => match a with
    | .lit x => .cmp .eql b (.lit x)
    | a => .cmp .eql a b
def mkSeq (a b : IE) : BE := match IE.same a b with
  | true => .lit true
  | false => match a, b with
    | .str s, .str t => .lit (decide (s.data.toList = t.data.toList))
    | .str s, b => .seq b (.str s)
    | a, b => .seq a b
def mkCmp (op : BinOp) (a b : IE) : BE :=
  match a, b with
  | .lit x, .lit y => .lit (intCmp op x y)
  | a, b => match op with
    | .lss => ltE a b
    | .geq => mkNot (ltE a b)
    | .gtr => ltE b a
    | .leq => mkNot (ltE b a)
    | .eql => eqE a b
    | .neq => mkNot (eqE a b)
    | op => .cmp op a b
def mkIff (a b : BE) : BE :=
  match a, b with
  | .lit true, b => b
  | .lit false, .lit x => .lit (!x)
  | .lit false, b => .not b
  | a, .lit true => a
  | a, .lit false => .not a
  | a, b => match BE.same a b with
    | true => .lit true
    | false => .iff a b
def mkAnd (a b : BE) : BE :=
  match a, b with
  | .lit true, b => b
  | .lit false, _ => .lit false
  | a, .lit true => a
  | a, b => .and a b
def plusE (a b : IE) : IE :=
  match a, b with
  | .lit x, .lit y => .lit (x + y)
  | .lit x, b => match decide (x = 0) with
    | true => b
    | false => .prim .plus [.lit x, b]
  | a, .lit y => match decide (y = 0) with
    | true => a
    | false => .prim .plus [a, .lit y]
  | a, b => .prim .plus [a, b]
def minusE (a b : IE) : IE :=
  match a, b with
  | .lit x, .lit y => .lit (x - y)
  | a, .lit y => match decide (y = 0) with
    | true => a
    | false => .prim .minus [a, .lit y]
  | a, b => .prim .minus [a, b]
/-! ### Values -/
/-- A capacity: just n, or n and what the tape gave. -/
structure CE where
  n : Nat
  a : Option Nat

inductive AV where
  | int (k : IntKind) (e : IE)
  | bool (e : BE)
  | raw (v : Value)
  | val (i : Nat)
  | str (e : IE)
  | nilp
  | ptrx (n rm w : Nat) (ix : IE) (f : Nat)
  | sl (n rm w : Nat) (lo len : IE) (exact : Bool) (cap : IE)
  | ptr (n off : Nat)
  | nils
  | slice (n off : Nat) (len : NE) (cap : CE)
  | func (fn : Fn) (first captured : List AV)
  | iface (t : TypeId) (v : AV)
  | agg (cs : List AV)
  | tup (cs : List AV)
  | map (n : Nat)

/-- Of a value that holds no address (others stay raw). -/
def AV.of : Value → AV
  | .int k n => .int k (.lit n)
  | .bool b => .bool (.lit b)
  | .pointer none => .nilp
  | .slice none 0 0 => .nils
  | .tuple vs => match vs.toList with
    | [] => .tup []
    | _ => .raw (.tuple vs)
  | v => .raw v

/-- Cells of a value from a table of zeros or of a constant. -/
def AV.ofV (v : Value) : AV := match v with
  | .agg cs => .agg (cs.toList.map AV.of)
  | v => AV.of v

def AV.oneCell : AV → Bool
  | .agg _ | .tup _ => false
  | .raw v => match v with | .agg _ | .tuple _ => false | _ => true
  | _ => true

def AV.cells : AV → List AV
  | .agg cs => cs
  | .raw v => match v with
    | .agg cs => cs.toList.map AV.of
    | v => [.raw v]
  | v => [v]

/-! ### Memory -/
/-- What is known of the rest of a block behind its known cells. -/
inductive Tail where
  | exact
  | more (i s : Nat)
  | unknown

/-- The kinds of a row's cells. -/
inductive CK where
  | int (k : IntKind) | bool | str
  deriving DecidableEq

inductive ABlk where
  | dead
  | cells (cs : T AV) (n : Nat) (elem : TypeId) (tl : Tail) (rw : Bool)
  | seq (q : IE) (row : List CK) (elem : TypeId) (rm : Nat) (rw : Bool)

structure HS where
  heap : T ABlk
  nx : Nat
  nc : Nat

abbrev TM := T AV

abbrev PC := List (BE × Bool)

/-- What is known to be one of two, if one is. -/
def imp1 (c : BE) (v : Bool) (b : BE) : Option Bool :=
  match c, b with
  | .cmp .lss a (.lit m), .cmp .lss a' (.lit n) => match IE.same a a' with
    | false => none
    | true => match v with
      | true => match decide (m ≤ n) with
        | true => some true
        | false => none
      | false => match decide (n ≤ m) with
        | true => some false
        | false => none
  | .cmp .eql a (.lit m), .cmp .lss a' (.lit n) => match v, IE.same a a' with
    | true, true => some (decide (m < n))
    | _, _ => none
  | .cmp .eql a (.lit m), .cmp .eql a' (.lit n) => match IE.same a a' with
    | false => none
    | true => match v with
      | true => some (decide (m = n))
      | false => match decide (m = n) with
        | true => some false
        | false => none
  | .cmp .lss a (.lit m), .cmp .eql a' (.lit n) => match IE.same a a' with
    | false => none
    | true => match v with
      | true => match decide (m ≤ n) with
        | true => some false
        | false => none
      | false => match decide (n < m) with
        | true => some false
        | false => none
  | c, b => match BE.same c b with
    | true => some v
    | false => none

def PC.look : PC → BE → Option Bool
  | [], _ => none
  | (c, v) :: pc, b => match imp1 c v b with
    | some r => some r
    | none => PC.look pc b

def nonneg : IE → Bool
  | .prim .len _ | .prim .slen _ | .prim .sat _ => true
  | .conv k _ => match k with
    | .u8 | .u16 | .u32 | .u64 => true
    | _ => false
  | _ => false

def decA (pc : PC) (b : BE) : Option Bool := match PC.look pc b with
  | some v => some v
  | none => match b with
    | .cmp .lss a (.lit n) => match nonneg a, decide (n ≤ 0) with
      | true, true => some false
      | _, _ => none
    | _ => none

def dec (pc : PC) (b : BE) : Option Bool :=
  match b with
  | .lit v => some v
  | .not c => match decA pc c with
    | some v => some (!v)
    | none => PC.look pc b
  | b => decA pc b

/-- One fact more. -/
def pcAdd (pc : PC) (b : BE) (v : Bool) : PC := match b with
  | .not c => (c, !v) :: pc
  | b => (b, v) :: pc

/-! ### Trees of outcomes -/
inductive Tr (α : Type) where
  | bad (why : Nat)
  | leaf (a : α)
  | br (b : BE) (t f : Tr α)
  | may (b : BE) (t f : Tr α)

def Tr.holds {α : Type} (ρ : Rho) (Ψ : α → Prop) : Tr α → Prop
  | .bad _ => False
  | .leaf a => Ψ a
  | .br b t f => (b.den ρ = true → t.holds ρ Ψ) ∧ (b.den ρ = false → f.holds ρ Ψ)
  | .may b t f => (b.den ρ = true → t.holds ρ Ψ) ∧ f.holds ρ Ψ

def Tr.all {α : Type} (p : α → Bool) : Tr α → Bool
  | .bad _ => false
  | .leaf a => p a
  | .br _ t f => match t.all p with
    | true => f.all p
    | false => false
  | .may _ t f => match t.all p with
    | true => f.all p
    | false => false

/-! ### Operands -/
def gbound : Nat := 1024

def ev (tm : TM) : Operand → Option AV
  | .tmp t => tm.get t
  | .const v => some (AV.ofV v)
  | .global g => match Nat.blt g gbound with
    | true => some (.ptr g 0)
    | false => none
  | .func f => some (.func (.func f) [] [])

def evs (tm : TM) : List Operand → Option (List AV)
  | [] => some []
  | x :: xs => match ev tm x with
    | some v => match evs tm xs with
      | some vs => some (v :: vs)
      | none => none
    | none => none

/-! ### Pure operations -/
inductive PR where
  | val (v : AV)
  | ask (b : BE)
  | no

def PR.ofO : Option AV → PR
  | some v => .val v
  | none => .no

def isIntD : TypeDesc → Bool
  | .int _ => true
  | _ => false

def isAggD : TypeDesc → Bool
  | .struct _ | .array _ _ => true
  | _ => false

/-- A part of an aggregate. -/
def apart (P : Program) (t : TypeId) (cs : List AV) (off : Nat) : Option AV :=
  match P.underlying t, P.info? t with
  | some d, some i => match isAggD d with
    | true => some (.agg ((cs.take (off + i.size)).drop off))
    | false => cs[off]?
  | _, _ => none

def lsetL {α : Type} (cs : List α) (off : Nat) : List α → List α
  | [] => cs
  | v :: vs => lsetL (cs.set off v) (off + 1) vs

def afill (place : Nat → Option (Nat × Nat)) : List AV → List (Nat × AV) → Option (List AV)
  | cs, [] => some cs
  | cs, (i, v) :: rest => match place i with
    | none => none
    | some (off, size) => match Nat.beq v.cells.length size with
      | false => none
      | true => match Nat.ble (off + size) cs.length with
        | false => none
        | true => afill place (lsetL cs off v.cells) rest

def evParts (tm : TM) : List (Nat × Operand) → Option (List (Nat × AV))
  | [] => some []
  | (i, x) :: xs => match ev tm x with
    | some v => match evParts tm xs with
      | some vs => some ((i, v) :: vs)
      | none => none
    | none => none

def zeroCells (P : Program) (t : TypeId) : Option (List AV) :=
  match P.info? t with
  | some i => match i.zero with
    | some z => some (z.cells.toList.map AV.of)
    | none => none
  | none => none

def sizeOfT (P : Program) (t : TypeId) : Option Nat :=
  match P.info? t with
  | some i => some i.size
  | none => none

def fieldPlaces (P : Program) : List Field → Option (List (Nat × Nat))
  | [] => some []
  | f :: fs => match sizeOfT P f.type, fieldPlaces P fs with
    | some n, some l => some ((f.offset, n) :: l)
    | _, _ => none

def rep (cs : List AV) : Nat → List AV
  | 0 => []
  | n + 1 => cs ++ rep cs n

/-- Values without addresses, as the model's. -/
def AV.closed : AV → Option Value
  | .int k (.lit n) => some (.int k n)
  | .bool (.lit b) => some (.bool b)
  | .raw v => some v
  | .nilp => some (.pointer none)
  | .nils => some (.slice none 0 0)
  | .agg cs => match closedL cs with
    | some vs => some (.agg vs.toArray)
    | none => none
  | _ => none
where closedL : List AV → Option (List Value)
  | [] => some []
  | c :: cs => match AV.closed c with
    | some v => match closedL cs with
      | some vs => some (v :: vs)
      | none => none
    | none => none

def evalPure {α : Type} (P : Program) : Sem α → Option α
  | .pure a => some a
  | .program k => evalPure P (k P)
  | .mark _ k => evalPure P k
  | _ => none

/-- The operation on values without addresses. -/
def pclosed (P : Program) (tm : TM) (o : Oper) : Option AV :=
  match evs tm o.op.operands.toList with
  | none => none
  | some vs => match AV.closed.closedL vs with
    | none => none
    | some _ =>
      match evalPure P (execOp (fun x => match ev tm x with
        | some v => (match v.closed with | some u => u | none => undef)
        | none => undef) o) with
      | some (.value v) => some (AV.ofV v)
      | _ => none

/-- Is a value that is there held against nil? -/
def nilHeld (d : Option TypeDesc) (a b : AV) : Bool :=
  match d, a, b with
  | some (.pointer _), .ptr _ _, .nilp => true
  | some (.slice _), .slice _ _ _ _, .nils => true
  | some (.func _ _ _), .func _ _ _, .raw .nilFunc => true
  | some (.interface _), .iface _ _, .raw .nilIface => true
  | _, _, _ => false

def litNat : AV → Option Nat
  | .int _ (.lit n) => match n with
    | .ofNat m => some m
    | .negSucc _ => none
  | _ => none

def optBound (v : Option AV) (d : Nat) : Option Nat :=
  match v with
  | none => some d
  | some v => litNat v

/-- Two operands of integers. -/
def pint (pc : PC) (op : BinOp) (k : IntKind) (a : IE) (k' : IntKind) (b : IE) : PR :=
  match op with
  | .shl | .shr => match mkCmp .lss b (.lit 0) with
    | .lit false => .val (.int k (mkBin op k a b))
    | c => match dec pc c with
      | some false => .val (.int k (mkBin op k a b))
      | some true => .no
      | none => .ask c
  | .quo | .rem => match decide (k = k') with
    | false => .no
    | true => match mkCmp .eql b (.lit 0) with
      | .lit false => .val (.int k (mkBin op k a b))
      | c => match dec pc c with
        | some false => .val (.int k (mkBin op k a b))
        | some true => .no
        | none => .ask c
  | .add | .sub | .mul | .and | .or | .xor | .andNot => match decide (k = k') with
    | false => .no
    | true => .val (.int k (mkBin op k a b))
  | .eql | .neq | .lss | .leq | .gtr | .geq => match decide (k = k') with
    | false => .no
    | true => .val (.bool (mkCmp op a b))

def nilTest (op : BinOp) (is : Bool) : Option AV :=
  match op with
  | .eql => some (.bool (.lit is))
  | .neq => some (.bool (.lit (!is)))
  | _ => none

def evO (tm : TM) : Option Operand → Option (Option AV)
  | none => some none
  | some y => match ev tm y with
    | some v => some (some v)
    | none => none

/-- Where a slice that begins l further on begins (at the capacity's end Go leaves the address). -/
def lowOK (l : Nat) (cap : CE) : Bool := match cap.a with
  | none => true
  | some _ => match l with
    | 0 => true
    | l => Nat.blt l cap.n
def lowAt (off l size : Nat) (cap : CE) : Nat := match cap.a with
  | none => match Nat.beq cap.n l with
    | true => off
    | false => off + l * size
  | some _ => off + l * size

def pslice (P : Program) (tm : TM) (t : TypeId) (x : Operand) (lo hi mx : Option Operand) : Option AV :=
  match evO tm lo, evO tm hi, evO tm mx with
  | some vlo, some vhi, some vmx =>
    match P.underlying t, ev tm x with
    | some (.slice elem), some (.slice n off len cap) =>
      match sizeOfT P elem, optBound vlo 0 with
      | some size, some l =>
        match vmx, vhi with
        | none, none => match len.a with
          | none => match Nat.ble l len.n, Nat.ble len.n cap.n, lowOK l cap with
            | true, true, true => some (.slice n (lowAt off l size cap) ⟨len.n - l, none⟩ ⟨cap.n - l, cap.a⟩)
            | _, _, _ => none
          | some _ => match l with
            | 0 => some (.slice n off len cap)
            | _ => none
        | none, some vh => match litNat vh with
          | some h => match Nat.ble l h, Nat.ble h cap.n, lowOK l cap with
            | true, true, true => some (.slice n (lowAt off l size cap) ⟨h - l, none⟩ ⟨cap.n - l, cap.a⟩)
            | _, _, _ => none
          | none => none
        | some vm, some vh => match litNat vh, litNat vm with
          | some h, some m => match Nat.ble l h, Nat.ble h m, Nat.ble m cap.n with
            | true, true, true => some (.slice n (match Nat.beq m l with | true => off | false => off + l * size) ⟨h - l, none⟩ ⟨m - l, none⟩)
            | _, _, _ => none
          | _, _ => none
        | _, _ => none
      | _, _ => none
    | some (.slice elem), some .nils =>
      match sizeOfT P elem, optBound vlo 0, optBound vhi 0, vmx with
      | some _, some 0, some 0, none => some .nils
      | some _, some 0, some 0, some vm => match vhi, litNat vm with
        | some _, some 0 => some .nils
        | _, _ => none
      | _, _, _, _ => none
    | some (.array m elem), some (.ptr n off) =>
      match sizeOfT P elem, optBound vlo 0, optBound vhi m, vmx with
      | some size, some l, some h, none => match Nat.ble l h, Nat.ble h m with
        | true, true => some (.slice n (match Nat.beq m l with | true => off | false => off + l * size) ⟨h - l, none⟩ ⟨m - l, none⟩)
        | _, _ => none
      | _, _, _, _ => none
    | _, _ => none
  | _, _, _ => none

def pop0 (P : Program) (pc : PC) (tm : TM) (o : Oper) : PR :=
  match o.op with
  | .move x | .assign x => .ofO (ev tm x)
  | .pick c a b => match ev tm c with
    | some (.bool e) => match dec pc e with
      | some true => .ofO (ev tm a)
      | some false => .ofO (ev tm b)
      | none => .ask e
    | _ => .no
  | .nilCheck x => match ev tm x with
    | some (.ptr n off) => .val (.ptr n off)
    | some (.func (.func f) a b) => .val (.func (.func f) a b)
    | _ => .no
  | .binOp op t x y _ => match ev tm x, ev tm y with
    | some (.int k a), some (.int k' b) => pint pc op k a k' b
    | some a, some b => match nilHeld (P.underlying t) a b with
      | true => .ofO (nilTest op false)
      | false => .ofO (pclosed P tm o)
    | _, _ => .no
  | .unOp op _ x => match op, ev tm x with
    | .not, some (.bool e) => .val (.bool (mkNot e))
    | _, _ => .ofO (pclosed P tm o)
  | .convert src dst x => match P.underlying src, P.underlying dst, ev tm x with
    | some _, some (.int k), some (.int _ e) => .val (.int k (mkConv k e))
    | _, _, _ => .ofO (pclosed P tm o)
  | .extract t i => match ev tm t with
    | some (.tup vs) => .ofO vs[i]?
    | _ => .no
  | .field t x f => match P.underlying t, ev tm x with
    | some (.struct fs), some (.agg cs) => match fs[f]? with
      | some f => .ofO (apart P f.type cs f.offset)
      | none => .no
    | _, _ => .no
  | .build t parts => match P.underlying t, zeroCells P t, evParts tm parts.toList with
    | some (.struct fs), some z, some vs => match fieldPlaces P fs.toList with
      | some places => .ofO ((afill (places[·]?) z vs).map .agg)
      | none => .no
    | some (.array _ elem), some z, some vs => match sizeOfT P elem with
      | some size => .ofO ((afill (fun i => some (i * size, size)) z vs).map .agg)
      | none => .no
    | _, _, _ => .no
  | .makeInterface t x => match P.underlying t, ev tm x with
    | some (.interface _), _ => .no
    | some _, some v => .val (.iface t v)
    | _, _ => .no
  | .makeFunc fn first captured => match evs tm first.toList, evs tm captured.toList with
    | some a, some b => .val (.func fn a b)
    | _, _ => .no
  | .fieldAddr s x f => match P.underlying s, ev tm x with
    | some (.struct fs), some (.ptr n off) => match fs[f]? with
      | some f => match sizeOfT P f.type with
        | some (_ + 1) => .val (.ptr n (off + f.offset))
        | _ => .no
      | none => .no
    | _, _ => .no
  | .indexAddr t x i => match P.underlying t, ev tm x, (ev tm i).bind litNat with
    | some (.array len elem), some (.ptr n off), some i => match Nat.blt i len, sizeOfT P elem with
      | true, some size => .val (.ptr n (off + i * size))
      | _, _ => .no
    | some (.slice elem), some (.slice n off len _), some i => match len.a, Nat.blt i len.n, sizeOfT P elem with
      | none, true, some size => .val (.ptr n (off + i * size))
      | _, _, _ => .no
    | _, _, _ => .no
  | .index t x i => match P.underlying t, ev tm x, (ev tm i).bind litNat with
    | some (.array len elem), some (.agg cs), some i => match Nat.blt i len, sizeOfT P elem with
      | true, some size => .ofO (apart P elem cs (i * size))
      | _, _ => .no
    | _, _, _ => .ofO (pclosed P tm o)
  | .slice t x lo hi mx => match pslice P tm t x lo hi mx with
    | some v => .val v
    | none => .ofO (pclosed P tm o)
  | .typeAssert x _ asserted ok => match P.underlying asserted, ev tm x with
    | some (.interface _), _ => .no
    | some _, some (.iface t v) => match Nat.beq t asserted with
      | true => match ok with
        | true => .val (.tup [v, .bool (.lit true)])
        | false => .val v
      | false => .no
    | _, _ => .no
  | .call { callee := .builtin .len, args := args, argTypes := ts } => match ts.toList, args.toList with
    | [t], [x] => match P.underlying t, ev tm x with
      | some (.slice _), some (.slice _ _ len _) => .val (.int .i64 len.toIE)
      | some (.slice _), some .nils => .val (.int .i64 (.lit 0))
      | some (.array n _), some _ => .val (.int .i64 (.lit (Int.ofNat n)))
      | some (.pointer a), some _ => match P.underlying a with
        | some (.array n _) => .val (.int .i64 (.lit (Int.ofNat n)))
        | _ => .no
      | _, _ => .ofO (pclosed P tm o)
    | _, _ => .no
  | .call { callee := .builtin .min, .. } | .call { callee := .builtin .max, .. } => .ofO (pclosed P tm o)
  | _ => .no

/-- A truth as a term. -/
def BE.toIE : BE → IE
  | .lit b => .lit (match b with | true => 1 | false => 0)
  | .at i => .at i
  | .cmp op a b => .prim (.cmp op) [a, b]
  | .not a => .prim .bnot [a.toIE]
  | .is e => e
  | .seq a b => .prim .sseq [a, b]
  | .iff a b => .prim .biff [a.toIE, b.toIE]
  | .and a b => .prim .band [a.toIE, b.toIE]

/-! ### Operations on terms -/
def askB (pc : PC) (b : BE) (want : Bool) (r : PR) : PR := match dec pc b with
  | some v => match v == want with
    | true => r
    | false => .no
  | none => .ask b

/-- Which of n numbers, from j on, is it? -/
def pickIx (pc : PC) (e : IE) (r : Nat → PR) : Nat → Nat → PR
  | 0, _ => .no
  | n + 1, j => match dec pc (mkCmp .eql e (.lit (Int.ofNat j))) with
    | some true => r j
    | some false => pickIx pc e r n (j + 1)
    | none => .ask (mkCmp .eql e (.lit (Int.ofNat j)))

def strOf : AV → Option IE
  | .str e => some e
  | .raw (.string s) => some (.str s)
  | _ => none

def lenS : IE → IE
  | .str s => .lit (Int.ofNat s.size)
  | e => .prim .slen [e]

def intOf : AV → Option IE
  | .int _ e => some e
  | _ => none

/-- An optional bound as a term. -/
def bdOf (tm : TM) (d : IE) : Option Operand → Option IE
  | none => some d
  | some y => match ev tm y with
    | some v => intOf v
    | none => none

def popx (P : Program) (pc : PC) (tm : TM) (o : Oper) : PR :=
  match o.op with
  | .indexAddr t x i => match P.underlying t, ev tm x, ev tm i with
    | some (.slice elem), some (.sl n rm w lo len _ _), some (.int _ e) => match sizeOfT P elem with
      | some size => match Nat.beq size w with
        | true => askB pc (mkCmp .lss e (.lit 0)) false (askB pc (mkCmp .lss e len) true (.val (.ptrx n rm w (plusE lo e) 0)))
        | false => .no
      | none => .no
    | some (.array len elem), some (.ptr n off), some (.int _ e) => match sizeOfT P elem with
      | some size => pickIx pc e (fun j => .val (.ptr n (off + j * size))) len 0
      | none => .no
    | some (.slice elem), some (.slice n off len _), some (.int _ e) => match len.a, sizeOfT P elem with
      | none, some size => pickIx pc e (fun j => .val (.ptr n (off + j * size))) len.n 0
      | _, _ => .no
    | some (.array len elem), some (.ptrx n rm w ix f), some (.int _ e) => match sizeOfT P elem with
      | some size => pickIx pc e (fun j => .val (.ptrx n rm w ix (f + j * size))) len 0
      | none => .no
    | _, _, _ => .no
  | .fieldAddr s x f => match P.underlying s, ev tm x with
    | some (.struct fs), some (.ptrx n rm w ix g) => match fs[f]? with
      | some f => match sizeOfT P f.type with
        | some (_ + 1) => .val (.ptrx n rm w ix (g + f.offset))
        | _ => .no
      | none => .no
    | _, _ => .no
  | .nilCheck x => match ev tm x with
    | some (.ptrx n rm w ix f) => .val (.ptrx n rm w ix f)
    | _ => .no
  | .slice t x lo hi none => match P.underlying t, ev tm x with
    | some (.slice elem), some (.sl n rm w l0 len ex cap) => match sizeOfT P elem, bdOf tm (.lit 0) lo, bdOf tm len hi with
      | some size, some l, some h => match Nat.beq size w with
        | true => askB pc (mkCmp .lss l (.lit 0)) false (askB pc (mkCmp .leq l h) true (askB pc (match hi with | none => .lit true | some _ => mkCmp .leq h len) true
            (.val (.sl n rm w (plusE l0 l) (minusE h l) ex (minusE cap l)))))
        | false => .no
      | _, _, _ => .no
    | some .string, some v => match strOf v with
      | some s => match bdOf tm (.lit 0) lo, bdOf tm (lenS s) hi with
        | some l, some h => askB pc (mkCmp .lss l (.lit 0)) false (askB pc (mkCmp .leq l h) true (askB pc (match hi with | none => .lit true | some _ => mkCmp .leq h (lenS s)) true
            (.val (.str (.prim .ssub [s, l, h])))))
        | _, _ => .no
      | none => .no
    | _, _ => .no
  | .index t x i => match P.underlying t, ev tm x, ev tm i with
    | some (.array len elem), some (.agg cs), some (.int _ e) => match sizeOfT P elem with
      | some size => pickIx pc e (fun j => .ofO (apart P elem cs (j * size))) len 0
      | none => .no
    | some .string, some v, some (.int _ e) => match strOf v with
      | some s => askB pc (mkCmp .lss e (.lit 0)) false (askB pc (mkCmp .lss e (lenS s)) true (.val (.int .u8 (.prim .sat [s, e]))))
      | none => .no
    | _, _, _ => .no
  | .binOp op t x y _ => match ev tm x, ev tm y with
    | some (.bool a), some (.bool b) => match P.underlying t with
      | some .bool => match op with
        | .eql => .val (.bool (mkIff a b))
        | .neq => .val (.bool (mkNot (mkIff a b)))
        | _ => .no
      | _ => .no
    | some a, some b => match strOf a, strOf b with
      | some a, some b => match op with
        | .eql => .val (.bool (mkSeq a b))
        | .neq => .val (.bool (mkNot (mkSeq a b)))
        | .add => askB pc (.cmp .leq (plusE (lenS a) (lenS b)) (.lit 9223372036854775807)) true (.val (.str (.prim .scat [a, b])))
        | _ => .no
      | _, _ => .no
    | _, _ => .no
  | .unOp .neg _ x => match ev tm x with
    | some (.int k e) => .val (.int k (mkBin .sub k (.lit 0) e))
    | _ => .no
  | .call { callee := .builtin .len, args := args, argTypes := ts } => match ts.toList, args.toList with
    | [t], [x] => match P.underlying t, ev tm x with
      | some (.slice _), some (.sl _ _ _ _ len _ _) => .val (.int .i64 len)
      | some .string, some (.str e) => .val (.int .i64 (.prim .slen [e]))
      | _, _ => .no
    | _, _ => .no
  | .call { callee := .builtin .max, args := args, .. } => match args.toList with
    | [x, y] => match ev tm x, ev tm y with
      | some (.int k a), some (.int k' b) => match decide (k = k') with
        | true => match dec pc (mkCmp .lss a b) with
          | some true => .val (.int k b)
          | some false => .val (.int k a)
          | none => .ask (mkCmp .lss a b)
        | false => .no
      | _, _ => .no
    | _ => .no
  | .call { callee := .builtin .min, args := args, .. } => match args.toList with
    | [x, y] => match ev tm x, ev tm y with
      | some (.int k a), some (.int k' b) => match decide (k = k') with
        | true => match dec pc (mkCmp .lss a b) with
          | some true => .val (.int k a)
          | some false => .val (.int k b)
          | none => .ask (mkCmp .lss a b)
        | false => .no
      | _, _ => .no
    | _ => .no
  | _ => .no

def pop (P : Program) (pc : PC) (tm : TM) (o : Oper) : PR := match pop0 P pc tm o with
  | .no => popx P pc tm o
  | r => r

/-! ### Rows -/
def CK.av : CK → IE → AV
  | .int k, e => .int k e
  | .bool, e => .bool (.is e)
  | .str, e => .str e

/-- A part of an element. -/
def fldE (w f : Nat) (e : IE) : IE := match Nat.beq w 1 with
  | true => e
  | false => match e with
    | .prim .row es => match es[f]? with
      | some x => x
      | none => .prim (.fld f) [e]
    | e => .prim (.fld f) [e]

def selE (q ix : IE) : IE := .prim .sel [q, ix]

def rowAVs (w : Nat) (e : IE) : Nat → List CK → List AV
  | _, [] => []
  | f, ck :: cks => ck.av (fldE w f e) :: rowAVs w e (f + 1) cks

/-! ### Loads, allocations -/
def loadAt (P : Program) (H : T ABlk) (t : TypeId) (v : AV) : Option AV :=
  match v with
  | .ptr n off => match H.get n, P.underlying t with
    | some (.cells cs _ _ _ _), some d => match isAggD d with
      | true => match sizeOfT P t with
        | some size => match cs.getL off size with
          | some vs => some (.agg vs)
          | none => none
        | none => none
      | false => cs.get off
    | _, _ => none
  | .ptrx n rm w ix f => match H.get n, P.underlying t with
    | some (.seq q row _ rm' _), some d => match Nat.beq rm rm', Nat.beq w row.length with
      | true, true => match isAggD d with
        | true => match sizeOfT P t with
          | some size => match Nat.ble (f + size) w with
            | true => some (.agg (((rowAVs w (selE q ix) 0 row).drop f).take size))
            | false => none
          | none => none
        | false => (rowAVs w (selE q ix) 0 row)[f]?
      | _, _ => none
    | _, _ => none
  | _ => none

/-- A block that an operation makes, and its value with the name at hand. -/
def allocOf (P : Program) (tm : TM) (op : Op) : Option (ABlk × (Nat → AV)) :=
  match op with
  | .alloc t => match zeroCells P t with
    | some cs => some (.cells (T.ofList cs) cs.length t .exact true, fun n => .ptr n 0)
    | none => none
  | .box t x => match ev tm x with
    | some v => some (.cells (T.ofList v.cells) v.cells.length t .exact true, fun n => .ptr n 0)
    | none => none
  | .buildSlice t len parts => match P.underlying t with
    | some (.slice elem) => match sizeOfT P elem, zeroCells P elem, evParts tm parts.toList with
      | some size, some z, some vs => match Nat.ble (len * size) 4096, Nat.beq z.length size with
        | true, true => match afill (fun i => some (i * size, size)) (rep z len) vs with
          | some cs => some (.cells (T.ofList cs) cs.length elem .exact true, fun n => .slice n 0 ⟨len, none⟩ ⟨len, none⟩)
          | none => none
        | _, _ => none
      | _, _, _ => none
    | _ => none
  | .makeSlice t l c => match P.underlying t, (ev tm l).bind litNat, (ev tm c).bind litNat with
    | some (.slice elem), some l, some c => match zeroCells P elem, P.info? elem with
      | some z, some i => match Nat.ble l c, Nat.ble (c * (i.bytes + 1)) 65536, Nat.beq z.length i.size with
        | true, true, true => some (.cells (T.ofList (rep z c)) (rep z c).length elem .exact true, fun n => .slice n 0 ⟨l, none⟩ ⟨c, none⟩)
        | _, _, _ => none
      | _, _ => none
    | _, _, _ => none
  | _ => none

/-! ### Operations with effects -/
inductive ER where
  | val (v : AV) (hs : HS)
  | call (f : FuncId) (args : List AV)
  | ask (b : BE)
  | no

def oneAll : List AV → Bool
  | [] => true
  | v :: vs => match v.oneCell with
    | true => oneAll vs
    | false => false

/-- Cells into a block that may be written. -/
def storeCells (H : T ABlk) (n off : Nat) (vs : List AV) : Option (T ABlk) :=
  match H.get n with
  | some (.cells cs m elem tl true) => match Nat.ble (off + vs.length) m, oneAll vs with
    | true, true => some (H.set n (.cells (cs.setL off vs) m elem tl true))
    | _, _ => none
  | _ => none

/-- A cell's value as a term. -/
def CK.of : CK → AV → Option IE
  | .int k, .int k' e => match decide (k = k') with
    | true => some e
    | false => none
  | .bool, .bool b => some b.toIE
  | .str, .str e => some e
  | .str, .raw (.string s) => some (.str s)
  | _, _ => none

def CK.ofs : List CK → List AV → Option (List IE)
  | _, [] => some []
  | [], _ => none
  | ck :: cks, v :: vs => match ck.of v with
    | some e => match CK.ofs cks vs with
      | some es => some (e :: es)
      | none => none
    | none => none

def mixE (w f : Nat) (es : List IE) (old : IE) (j : Nat) : IE := match Nat.ble f j with
  | false => fldE w j old
  | true => match es[j - f]? with
    | some e => e
    | none => fldE w j old

/-- An element of which some parts are new. -/
def newE (w f : Nat) (es : List IE) (old : IE) : IE := match Nat.beq w 1 with
  | true => match es with
    | e :: _ => e
    | [] => old
  | false => .prim .row ((List.range w).map (mixE w f es old))

def updE (q ix e : IE) : IE := .prim .upd [q, ix, e]

/-- Cells into an element of a row. -/
def storeRow (H : T ABlk) (n rm w : Nat) (ix : IE) (f : Nat) (vs : List AV) : Option (T ABlk) :=
  match H.get n with
  | some (.seq q row elem rm' true) => match Nat.beq rm rm', Nat.beq w row.length, Nat.ble (f + vs.length) w with
    | true, true, true => match CK.ofs (row.drop f) vs with
      | some es => some (H.set n (.seq (updE q ix (newE w f es (selE q ix))) row elem rm' true))
      | none => none
    | _, _, _ => none
  | _ => none

/-- The cells of n elements that are appended or copied. -/
def srcCells (H : T ABlk) (v : AV) (n size : Nat) : Option (List AV) :=
  match v with
  | .slice nm off _ _ => match H.get nm with
    | some (.cells cs _ _ _ _) => cs.getL off (n * size)
    | _ => none
  | .nils => match n with
    | 0 => some []
    | _ => none
  | .raw (.string s) => match size with
    | 1 => match Nat.ble n s.size with
      | true => some ((s.data.toList.take n).map fun b => .int .u8 (.lit (b.toNat : Int)))
      | false => none
    | _ => none
  | _ => none

def lenOf (v : AV) : Option Nat :=
  match v with
  | .slice _ _ len _ => match len.a with
    | none => some len.n
    | some _ => none
  | .nils => some 0
  | .raw (.string s) => some s.size
  | _ => none

def doAppend (P : Program) (st xt : TypeId) (s x : AV) (hs : HS) : ER :=
  match P.underlying st with
  | some (.slice elem) => match P.info? elem, P.underlying xt, lenOf x with
    | some i, some xd, some m =>
      match isIntD xd, (match i.zero with | some z => Nat.beq z.cells.size i.size | none => false), Nat.ble 1 i.size with
      | false, true, true => match srcCells hs.heap x m i.size with
        | some news => match oneAll news with
          | true => match s with
            | .nils => match m with
              | 0 => .val .nils hs
              | m + 1 => match Nat.ble ((m + 1) * (i.bytes + 1)) 1048576 with
                | true => .val (.slice hs.nx 0 ⟨m + 1, none⟩ ⟨m + 1, some hs.nc⟩)
                    { heap := hs.heap.set hs.nx (.cells (T.ofList news) news.length elem (.more hs.nc i.size) true), nx := hs.nx + 1, nc := hs.nc + 1 }
                | false => .no
            | .slice n off len cap => match len.a with
              | some _ => .no
              | none =>
                match Nat.ble (len.n + m) cap.n with
                | true => match news with
                  | [] => .val (.slice n off len cap) hs
                  | _ => match storeCells hs.heap n (off + len.n * i.size) news with
                    | some H => .val (.slice n off ⟨len.n + m, none⟩ cap) { hs with heap := H }
                    | none => .no
                | false =>
                  match srcCells hs.heap s len.n i.size, Nat.ble ((len.n + m) * (i.bytes + 1)) 1048576, Nat.ble len.n cap.n with
                  | some old, true, true => match cap.a with
                    | none => .val (.slice hs.nx 0 ⟨len.n + m, none⟩ ⟨len.n + m, some hs.nc⟩)
                        { heap := hs.heap.set hs.nx (.cells (T.ofList (old ++ news)) ((len.n + m) * i.size) elem (.more hs.nc i.size) true), nx := hs.nx + 1, nc := hs.nc + 1 }
                    | some ci => match hs.heap.get n with
                      | some (.cells _ kn kelem (.more cj cs) true) =>
                        match Nat.beq ci cj, Nat.beq cs i.size, Nat.beq (off + cap.n * i.size) kn, Nat.beq kelem elem, oneAll old with
                        | true, true, true, true, true => .val (.slice hs.nx 0 ⟨len.n + m, none⟩ ⟨len.n + m, some hs.nc⟩)
                            { heap := (hs.heap.set n .dead).set hs.nx (.cells (T.ofList (old ++ news)) ((len.n + m) * i.size) elem (.more hs.nc i.size) true), nx := hs.nx + 1, nc := hs.nc + 1 }
                        | _, _, _, _, _ => .no
                      | _ => .no
                  | _, _, _ => .no
            | _ => .no
          | false => .no
        | none => .no
      | _, _, _ => .no
    | _, _, _ => .no
  | _ => .no

def doCopy (P : Program) (dt : TypeId) (d s : AV) (hs : HS) : ER :=
  match P.underlying dt with
  | some (.slice elem) => match sizeOfT P elem, lenOf d, lenOf s with
    | some size, some dl, some sl =>
      match srcCells hs.heap s (Nat.min sl dl) size with
      | some cs => match d with
        | .nils => .val (.int .i64 (.lit (Int.ofNat (Nat.min sl dl)))) hs
        | .slice n off _ _ => match cs with
          | [] => .val (.int .i64 (.lit (Int.ofNat (Nat.min sl dl)))) hs
          | cs => match storeCells hs.heap n off cs with
            | some H => .val (.int .i64 (.lit (Int.ofNat (Nat.min sl dl)))) { hs with heap := H }
            | none => .no
        | _ => .no
      | none => .no
    | _, _, _ => .no
  | _ => .no

def findMethod (P : Program) (t : TypeId) (name : String) : Option FuncId :=
  match P.info? t with
  | some i => match i.methods.find? (·.name == name) with
    | some m => match m.path.toList, m.func, P.underlying t with
      | [], some (f, true), some (.pointer _) => some f
      | _, _, _ => none
    | none => none
  | none => none

/-! ### Rows that are appended -/
/-- m elements as terms. -/
def groupE (row : List CK) : Nat → List AV → Option (List IE)
  | 0, [] => some []
  | 0, _ :: _ => none
  | m + 1, vs => match CK.ofs row (vs.take row.length) with
    | some es => match Nat.beq es.length row.length, groupE row m (vs.drop row.length) with
      | true, some r => some (newE row.length 0 es (.lit 0) :: r)
      | _, _ => none
    | none => none

def subE (q lo len : IE) : IE := match lo, len with
  | .lit 0, .prim .len [q'] => match IE.same q q' with
    | true => q
    | false => .prim .sub [q, lo, len]
  | lo, len => .prim .sub [q, lo, len]

def catE (a b : IE) : IE := match a, b with
  | .prim .row [], b => b
  | .prim .row es, .prim .row fs => .prim .row (es ++ fs)
  | a, b => .prim .cat [a, b]

/-- What is appended, and how many. -/
def srcRow (H : T ABlk) (row : List CK) (x : AV) : Option (IE × IE) :=
  match x with
  | .sl n rm w lo len _ _ => match H.get n with
    | some (.seq q row' _ rm' _) => match Nat.beq rm rm', decide (row = row'), Nat.beq w row.length with
      | true, true, true => some (subE q lo len, len)
      | _, _, _ => none
    | _ => none
  | .slice n off len _ => match len.a, H.get n with
    | none, some (.cells cs _ _ _ _) => match cs.getL off (len.n * row.length) with
      | some vs => match groupE row len.n vs with
        | some es => some (.prim .row es, .lit (Int.ofNat len.n))
        | none => none
      | none => none
    | _, _ => none
  | .nils => some (.prim .row [], .lit 0)
  | _ => none

def CK.ofZero : AV → Option CK
  | .int k _ => some (.int k)
  | .bool _ => some .bool
  | .raw (.string _) => some .str
  | _ => none

def CK.ofZeros : List AV → Option (List CK)
  | [] => some []
  | v :: vs => match CK.ofZero v with
    | some c => match CK.ofZeros vs with
      | some cs => some (c :: cs)
      | none => none
    | none => none

def rowOf (P : Program) (elem : TypeId) : Option (List CK) := match zeroCells P elem with
  | some z => CK.ofZeros z
  | none => none

def askE (pc : PC) (b : BE) (r : ER) : ER := match dec pc b with
  | some true => r
  | some false => .no
  | none => .ask b

def appendRow (P : Program) (pc : PC) (st xt : TypeId) (s x : AV) (hs : HS) : ER :=
  match P.underlying st with
  | some (.slice elem) => match P.info? elem, P.underlying xt, rowOf P elem with
    | some i, some xd, some row =>
      match isIntD xd, (match i.zero with | some z => Nat.beq z.cells.size i.size | none => false), Nat.ble 1 i.size, Nat.beq i.size row.length with
      | false, true, true, true => match srcRow hs.heap row x with
        | some (news, m) =>
          let fresh : ER := askE pc (mkCmp .leq m (.lit (Int.ofNat (1048576 / (i.bytes + 1)))))
            (.val (.sl hs.nx hs.nc row.length (.lit 0) m false m) { heap := hs.heap.set hs.nx (.seq news row elem hs.nc true), nx := hs.nx + 1, nc := hs.nc + 2 })
          match s with
          | .nils => fresh
          | .slice _ _ ⟨0, none⟩ ⟨0, none⟩ => fresh
          | .sl n rm w lo len _ _ => match hs.heap.get n with
            | some (.seq q row' elem' rm' true) => match Nat.beq rm rm', decide (row = row'), Nat.beq w row.length, Nat.beq elem elem' with
              | true, true, true, true => askE pc (mkCmp .leq (plusE len m) (.lit (Int.ofNat (1048576 / (i.bytes + 1)))))
                (.val (.sl hs.nx hs.nc row.length (.lit 0) (plusE len m) false (plusE len m))
                  { heap := (hs.heap.set n .dead).set hs.nx (.seq (catE (subE q lo len) news) row elem hs.nc true), nx := hs.nx + 1, nc := hs.nc + 2 })
              | _, _, _, _ => .no
            | _ => .no
          | _ => .no
        | none => .no
      | _, _, _, _ => .no
    | _, _, _ => .no
  | _ => .no

def eopx (P : Program) (pc : PC) (tm : TM) (hs : HS) (op : Op) : ER :=
  match op with
  | .call c => match c.callee with
    | .builtin .append => match c.argTypes.toList, evs tm c.args.toList with
      | [st, xt], some [s, x] => appendRow P pc st xt s x hs
      | _, _ => .no
    | _ => .no
  | _ => .no

def eop0 (P : Program) (tm : TM) (hs : HS) (op : Op) : ER :=
  match op with
  | .store t a v => match ev tm a, ev tm v, sizeOfT P t with
    | some (.ptr n off), some v, some size => match Nat.beq v.cells.length size, storeCells hs.heap n off v.cells with
      | true, some H => .val (.tup []) { hs with heap := H }
      | _, _ => .no
    | some (.ptrx n rm w ix f), some v, some size => match Nat.beq v.cells.length size, storeRow hs.heap n rm w ix f v.cells with
      | true, some H => .val (.tup []) { hs with heap := H }
      | _, _ => .no
    | _, _, _ => .no
  | .makeMap _ none => .val (.map hs.nx) { hs with heap := hs.heap.set hs.nx .dead, nx := hs.nx + 1 }
  | .call c => match c.callee with
    | .value f => match ev tm f, evs tm c.args.toList with
      | some (.func (.func f) first captured), some args => .call f (first ++ args ++ captured)
      | _, _ => .no
    | .invoke r name => match ev tm r, evs tm c.args.toList with
      | some (.iface t v), some args => match findMethod P t name with
        | some f => .call f (v :: args)
        | none => .no
      | _, _ => .no
    | .builtin .append => match c.argTypes.toList, evs tm c.args.toList with
      | [st, xt], some [s, x] => doAppend P st xt s x hs
      | _, _ => .no
    | .builtin .copy => match c.argTypes.toList, evs tm c.args.toList with
      | [dt, _], some [d, s] => doCopy P dt d s hs
      | _, _ => .no
    | _ => .no
  | _ => .no

def eop (P : Program) (pc : PC) (tm : TM) (hs : HS) (op : Op) : ER := match eop0 P tm hs op with
  | .no => eopx P pc tm hs op
  | r => r

/-! ### The kinds of operations -/
inductive Kind where
  | pure | load | alloc | eff
  deriving DecidableEq

def kindOf : Op → Kind
  | .load _ _ => .load
  | .alloc _ | .box _ _ | .buildSlice _ _ _ | .makeSlice _ _ _ => .alloc
  | .store _ _ _ | .makeMap _ _ => .eff
  | .call c => match c.callee with
    | .builtin .len | .builtin .min | .builtin .max => .pure
    | _ => .eff
  | _ => .pure

abbrev CallK (α : Type) := FuncId → List AV → HS → PC → (AV → HS → PC → Tr α) → Tr α

/-- Is an operation wanted? -/
inductive Want where
  | yes | skip | ask (b : BE) | no

def wantOf (pc : PC) (tm : TM) (ops : Array Oper) (o : Oper) : Want :=
  match o.guard with
  | none => .yes
  | some (j, want) => match ops[j]? with
    | some oj => match oj.dst with
      | some d => match tm.get d with
        | some (.bool e) => match dec pc e with
          | some v => match v == want with
            | true => .yes
            | false => .skip
          | none => .ask e
        | some (.tup []) => .skip
        | _ => .no
      | none => .no
    | none => .no

def put (nt : Nat) (tm : TM) (d : Option Tmp) (v : AV) : Option TM :=
  match d with
  | none => some tm
  | some d => match Nat.blt d nt with
    | true => some (tm.set d v)
    | false => none

/-- Is a slice of a row held against nil? Nobody knows, but if it is nil, it has no elements. -/
def nilAsk (P : Program) (tm : TM) (o : Oper) : Option (BE × Bool) :=
  match o.op with
  | .binOp op t x y _ => match P.underlying t, ev tm x, ev tm y with
    | some (.slice _), some (.sl _ _ _ _ len _ _), some .nils => match op with
      | .eql => some (mkCmp .eql len (.lit 0), true)
      | .neq => some (mkCmp .eql len (.lit 0), false)
      | _ => none
    | _, _, _ => none
  | _ => none

/-- Bytes as a term. -/
def soflE (q : IE) : IE := match q with
  | .prim .row es => match litBytes es with
    | some l => .str ⟨l.toArray⟩
    | none => .prim .sofl [q]
  | q => .prim .sofl [q]
where litBytes : List IE → Option (List UInt8)
  | [] => some []
  | .lit n :: es => match litBytes es with
    | some l => some (UInt8.ofNat n.toNat :: l)
    | none => none
  | _ :: _ => none

def strAV (q : IE) : AV := match soflE q with
  | .str s => .raw (.string s)
  | e => .str e

/-- A text of bytes. -/
def readC (P : Program) (tm : TM) (hs : HS) (o : Oper) : Option AV :=
  match o.op with
  | .convert src dst x => match P.underlying src, P.underlying dst, ev tm x with
    | some (.slice e), some .string, some v => match P.underlying e with
      | some (.int .u8) => match v with
        | .nils => some (.raw (.string .empty))
        | v => match srcRow hs.heap [.int .u8] v with
          | some (q, _) => some (strAV q)
          | none => none
      | _ => none
    | _, _, _ => none
  | _ => none

/-- One operation, in a given state, then on. -/
def step1 {α : Type} (P : Program) (ck : CallK α) (nt : Nat) (o : Oper) (tm : TM) (hs : HS) (pc : PC) (retry : PC → Tr α) (k : TM → HS → PC → Tr α) : Tr α :=
  match kindOf o.op with
  | .pure => match pop P pc tm o with
    | .val v => match put nt tm o.dst v with
      | some tm => k tm hs pc
      | none => .bad 1
    | .ask b => .br b (retry (pcAdd pc b true)) (retry (pcAdd pc b false))
    | .no => match readC P tm hs o with
     | some v => match put nt tm o.dst v with
      | some tm => k tm hs pc
      | none => .bad 1
     | none => match nilAsk P tm o with
      | some (c, is) => .may c
          (match put nt tm o.dst (.bool (.lit is)) with
          | some tm => k tm hs (pcAdd pc c true)
          | none => .bad 1)
          (match put nt tm o.dst (.bool (.lit (!is))) with
          | some tm => k tm hs pc
          | none => .bad 1)
      | none => .bad 2
  | .load => match o.op with
    | .load t x => match (ev tm x).bind (loadAt P hs.heap t) with
      | some v => match put nt tm o.dst v with
        | some tm => k tm hs pc
        | none => .bad 1
      | none => .bad 3
    | _ => .bad 3
  | .alloc => match allocOf P tm o.op with
    | some (b, v) => match put nt tm o.dst (v hs.nx) with
      | some tm => k tm { hs with heap := hs.heap.set hs.nx b, nx := hs.nx + 1 } pc
      | none => .bad 1
    | none => .bad 4
  | .eff => match eop P pc tm hs o.op with
    | .val v hs => match put nt tm o.dst v with
      | some tm => k tm hs pc
      | none => .bad 1
    | .call f args => ck f args hs pc fun v hs pc => match put nt tm o.dst v with
      | some tm => k tm hs pc
      | none => .bad 1
    | .ask b => .br b (retry (pcAdd pc b true)) (retry (pcAdd pc b false))
    | .no => .bad 5

/-- A region in the text's order. -/
def runList {α : Type} (P : Program) (ck : CallK α) (nt : Nat) (ops : Array Oper) : Nat → List Oper → TM → HS → PC → (TM → HS → PC → Tr α) → Tr α
  | 0, _, _, _, _, _ => .bad 6
  | _ + 1, [], tm, hs, pc, k => k tm hs pc
  | f + 1, o :: rest, tm, hs, pc, k => match wantOf pc tm ops o with
    | .yes => step1 P ck nt o tm hs pc (fun pc => runList P ck nt ops f (o :: rest) tm hs pc k) (fun tm hs pc => runList P ck nt ops f rest tm hs pc k)
    | .skip => match put nt tm o.dst (.tup []) with
      | some tm => runList P ck nt ops f rest tm hs pc k
      | none => .bad 1
    | .ask b => .br b (runList P ck nt ops f (o :: rest) tm hs (pcAdd pc b true) k) (runList P ck nt ops f (o :: rest) tm hs (pcAdd pc b false) k)
    | .no => .bad 7

end Go.Sx
