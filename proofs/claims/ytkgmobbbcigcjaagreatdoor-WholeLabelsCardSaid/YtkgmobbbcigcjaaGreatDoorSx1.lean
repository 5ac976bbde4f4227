/- An executor for the model's Go code over an abstract state: regions whose order is drawn, code, calls. -/
import Derived.Test.YtkgmobbbcigcjaaGreatDoorSx0
namespace Go.Sx
set_option linter.unusedVariables false

/-! ### A region that draws its order -/
/-- Which operations come before each one, as bits. -/
def bitsGo (acc : List Nat) : List Oper → List Nat
  | [] => acc
  | o :: os => bitsGo (acc ++ [o.after.toList.foldl (fun b e => match Region.binds .any e with
      | true => Nat.lor (Nat.lor b (Nat.pow 2 e.on)) (acc.getD e.on 0)
      | false => b) 0]) os

def bitsOf (ops : Array Oper) : List Nat := bitsGo [] ops.toList

def has (b i : Nat) : Bool := Nat.testBit b i

/-- Temporaries that an operation looks at. -/
def looks (ops : Array Oper) (o : Oper) : List Tmp := o.looksAt ops

/-- Static: destinations are unlike; who looks at one is before it or behind it; edges go back. -/
def dOK (ops : Array Oper) (bits : List Nat) : Bool :=
  ops.toList.zipIdx.all fun (o, i) =>
    (o.after.toList.all fun e => match Region.binds .any e with | true => Nat.blt e.on i | false => true) &&
    ops.toList.zipIdx.all fun (p, j) => match Nat.beq i j with
      | true => true
      | false => match p.dst with
        | none => true
        | some d => (match o.dst with | some d' => !(Nat.beq d d') | none => true) &&
          (!((looks ops o).any fun t => Nat.beq t d) || has (bits.getD i 0) j || has (bits.getD j 0) i)

def effs (ops : Array Oper) : List Nat := ((ops.toList.zipIdx).filter fun (o, _) => match kindOf o.op with | .eff => true | _ => false).map (·.2)

def stage (es : List Nat) (b : Nat) : Nat := (es.filter fun e => has b e).length

/-- The order in which the executor takes the operations (any order serves: it is looked at step by step). -/
def orderOf (ops : Array Oper) (bits : List Nat) : List Nat :=
  let es := effs ops
  let st := ((ops.toList.zipIdx).filter fun (o, _) => match kindOf o.op with | .eff => false | _ => true).map fun (_, i) => (stage es (bits.getD i 0), i)
  let at_ (s : Nat) : List Nat := (st.filter fun (s', _) => Nat.beq s s').map (·.2)
  (es.zipIdx.flatMap fun (e, k) => at_ k ++ [e]) ++ at_ es.length

structure DS where
  done : Nat
  tm : TM
  hs : HS
  pend : List (Nat × Nat × ABlk)
  held : List (Nat × TypeId × AV × AV)

/-- Blocks that must be there at operation e are put into memory. -/
def mergeB (b : Nat) (H : T ABlk) : List (Nat × Nat × ABlk) → T ABlk
  | [] => H
  | (i, n, blk) :: l => match has b i with
    | true => mergeB b (H.set n blk) l
    | false => mergeB b H l
def mergeAll (H : T ABlk) : List (Nat × Nat × ABlk) → T ABlk
  | [] => H
  | (_, n, blk) :: l => mergeAll (H.set n blk) l

def leftB (b : Nat) (l : List (Nat × Nat × ABlk)) : List (Nat × Nat × ABlk) := l.filter fun x => !(has b x.1)

/-- Behind e: what was loaded may be loaded again, unless it came before e. -/
def sameAV : AV → AV → Bool
  | .int k a, .int k' b => decide (k = k') && IE.same a b
  | .bool a, .bool b => BE.same a b
  | .ptr n o, .ptr m p => Nat.beq n m && Nat.beq o p
  | .nilp, .nilp => true
  | .nils, .nils => true
  | .slice n o l c, .slice m p l' c' => Nat.beq n m && Nat.beq o p && Nat.beq l.n l'.n && decide (l.a = l'.a) && Nat.beq c.n c'.n && decide (c.a = c'.a)
  | .str i, .str j => IE.same i j
  | .val i, .val j => Nat.beq i j
  | .ptrx n r w i f, .ptrx m r' w' j g => Nat.beq n m && Nat.beq r r' && Nat.beq w w' && IE.same i j && Nat.beq f g
  | .sl n r w a b x c, .sl m r' w' a' b' x' c' => Nat.beq n m && Nat.beq r r' && Nat.beq w w' && IE.same a a' && IE.same b b' && (x == x') && IE.same c c'
  | .map i, .map j => Nat.beq i j
  | .raw .nilFunc, .raw .nilFunc => true
  | .raw .nilIface, .raw .nilIface => true
  | .raw (.string a), .raw (.string b) => decide (a.data.toList = b.data.toList)
  | .func (.func f) a b, .func (.func g) c d => Nat.beq f g && sameL a c && sameL b d
  | .iface t v, .iface u x => Nat.beq t u && sameAV v x
  | .agg a, .agg b => sameL a b
  | .tup a, .tup b => sameL a b
  | _, _ => false
where sameL : List AV → List AV → Bool
  | [], [] => true
  | a :: as, b :: bs => match sameAV a b with
    | true => sameL as bs
    | false => false
  | _, _ => false

def heldAt (P : Program) (b : Nat) (H : T ABlk) : List (Nat × TypeId × AV × AV) → Option (List (Nat × TypeId × AV × AV))
  | [] => some []
  | (i, t, a, v) :: l => match heldAt P b H l with
    | none => none
    | some l' => match has b i with
      | true => some l'
      | false => match loadAt P H t a with
        | some v' => match sameAV v v' with
          | true => some ((i, t, a, v) :: l')
          | false => none
        | none => none

def allBehind (done e : Nat) : Nat → List Nat → Bool
  | _, [] => true
  | j, b :: bs => match has done j, Nat.beq j e, has b e with
    | false, false, false => false
    | _, _, _ => allBehind done e (j + 1) bs

def drun {α : Type} (P : Program) (ck : CallK α) (nt : Nat) (ops : Array Oper) (bits : List Nat) (base : Nat) :
    Nat → List Nat → DS → PC → (TM → HS → PC → Tr α) → Tr α
  | 0, _, _, _, _ => .bad 30
  | _ + 1, [], s, pc, k => match Nat.beq (Nat.add s.done 1) (Nat.pow 2 ops.size) with
    | true => k s.tm { s.hs with heap := mergeAll s.hs.heap s.pend } pc
    | false => .bad 31
  | f + 1, i :: rest, s, pc, k => match ops[i]? with
    | none => .bad 32
    | some o =>
      let b := bits.getD i 0
      match Nat.beq (Nat.land b s.done) b, has s.done i with
      | true, false =>
        let done := Nat.lor s.done (Nat.pow 2 i)
        match wantOf pc s.tm ops o with
        | .no => .bad 7
        | .ask c => .br c (drun P ck nt ops bits base f (i :: rest) s (pcAdd pc c true) k) (drun P ck nt ops bits base f (i :: rest) s (pcAdd pc c false) k)
        | .skip => match put nt s.tm o.dst (.tup []) with
          | some tm => match kindOf o.op with
            | .eff => .bad 33
            | _ => drun P ck nt ops bits base f rest { s with done := done, tm := tm } pc k
          | none => .bad 1
        | .yes => match kindOf o.op with
          | .pure => match pop P pc s.tm o with
            | .val v => match put nt s.tm o.dst v with
              | some tm => drun P ck nt ops bits base f rest { s with done := done, tm := tm } pc k
              | none => .bad 1
            | .ask c => .br c (drun P ck nt ops bits base f (i :: rest) s (pcAdd pc c true) k) (drun P ck nt ops bits base f (i :: rest) s (pcAdd pc c false) k)
            | .no => .bad 2
          | .load => match o.op with
            | .load t x => match ev s.tm x with
              | some a => match loadAt P s.hs.heap t a with
                | some v => match put nt s.tm o.dst v with
                  | some tm => drun P ck nt ops bits base f rest { s with done := done, tm := tm, held := (i, t, a, v) :: s.held } pc k
                  | none => .bad 1
                | none => .bad 3
              | none => .bad 3
            | _ => .bad 3
          | .alloc => match allocOf P s.tm o.op with
            | some (blk, v) => match put nt s.tm o.dst (v (base + i)) with
              | some tm => drun P ck nt ops bits base f rest { s with done := done, tm := tm, pend := (i, base + i, blk) :: s.pend } pc k
              | none => .bad 1
            | none => .bad 4
          | .eff => match allBehind s.done i 0 bits with
            | false => .bad 34
            | true =>
              let hs : HS := { s.hs with heap := mergeB b s.hs.heap s.pend }
              let on (v : AV) (hs : HS) (pc : PC) : Tr α := match put nt s.tm o.dst v with
                | some tm => match heldAt P b hs.heap s.held with
                  | some held => drun P ck nt ops bits base f rest { done := done, tm := tm, hs := hs, pend := leftB b s.pend, held := held } pc k
                  | none => .bad 35
                | none => .bad 1
              match eop P pc s.tm hs o.op with
              | .val v hs => on v hs pc
              | .call f args => ck f args hs pc on
              | .ask c => .br c (drun P ck nt ops bits base f (i :: rest) s (pcAdd pc c true) k) (drun P ck nt ops bits base f (i :: rest) s (pcAdd pc c false) k)
              | .no => .bad 5
      | _, _ => .bad 36

/-! ### Code -/
inductive Out where
  | normal | exit (id : Nat) | ret

def drawn {α : Type} (P : Program) (ck : CallK α) (nt : Nat) (ops : Array Oper) (tm : TM) (hs : HS) (pc : PC) (k : TM → HS → PC → Tr α) : Tr α :=
  match dOK ops (bitsOf ops) with
  | false => .bad 37
  | true => drun P ck nt ops (bitsOf ops) hs.nx (100 + 4 * ops.size) (orderOf ops (bitsOf ops)) { done := 0, tm := tm, hs := { hs with nx := hs.nx + ops.size }, pend := [], held := [] } pc k

/-- A loop's number: that of its first region, and one. -/
def loopKey : Code → Nat
  | .region id _ _ => id + 1
  | .seq a b => match loopKey a with
    | 0 => loopKey b
    | n + 1 => n + 1
  | .cond _ a b => match loopKey a with
    | 0 => loopKey b
    | n + 1 => n + 1
  | .block _ b => loopKey b
  | .scope b => loopKey b
  | .loop b => loopKey b
  | _ => 0

def loopsOf : Code → List Code
  | .seq a b => loopsOf a ++ loopsOf b
  | .cond _ a b => loopsOf a ++ loopsOf b
  | .block _ b => loopsOf b
  | .scope b => loopsOf b
  | .loop b => b :: loopsOf b
  | _ => []

abbrev LoopFn (α : Type) := TM → HS → PC → (Out → TM → HS → PC → Tr α) → Tr α

def exec {α : Type} (P : Program) (ck : CallK α) (lt : Nat → TM → Option (LoopFn α)) (nt : Nat) : Nat → Code → TM → HS → PC → (Out → TM → HS → PC → Tr α) → Tr α
  | 0, _, _, _, _, _ => .bad 10
  | f + 1, c, tm, hs, pc, k => match c with
    | .skip => k .normal tm hs pc
    | .label _ => k .normal tm hs pc
    | .ret => k .ret tm hs pc
    | .exit id => k (.exit id) tm hs pc
    | .seq a b => exec P ck lt nt f a tm hs pc fun o tm hs pc => match o with
      | .normal => exec P ck lt nt f b tm hs pc k
      | o => k o tm hs pc
    | .cond c a b => match ev tm c with
      | some (.bool e) => match dec pc e with
        | some true => exec P ck lt nt f a tm hs pc k
        | some false => exec P ck lt nt f b tm hs pc k
        | none => .br e (exec P ck lt nt f a tm hs (pcAdd pc e true) k) (exec P ck lt nt f b tm hs (pcAdd pc e false) k)
      | _ => .bad 11
    | .block id b => exec P ck lt nt f b tm hs pc fun o tm hs pc => match o with
      | .exit id' => match Nat.beq id' id with
        | true => k .normal tm hs pc
        | false => k (.exit id') tm hs pc
      | o => k o tm hs pc
    | .scope b => exec P ck lt nt f b tm hs pc k
    | .loop b => match lt (loopKey b) tm with
     | some F => F tm hs pc k
     | none => Nat.rec (motive := fun _ => TM → HS → PC → Tr α) (fun _ _ _ => .bad 12) (fun _ again tm hs pc => exec P ck lt nt f b tm hs pc fun o tm hs pc => match o with
      | .normal => again tm hs pc
      | o => k o tm hs pc) f tm hs pc
    | .region _ ops false => runList P ck nt ops (100 + 4 * ops.size) ops.toList tm hs pc fun tm hs pc => k .normal tm hs pc
    | .region _ ops true => drawn P ck nt ops tm hs pc fun tm hs pc => k .normal tm hs pc
    | _ => .bad 13

def resultOf (P : Program) (tm : TM) (hs : HS) : ResultVar → Option AV
  | .tmp t => tm.get t
  | .cell a t => match tm.get a with
    | some v => loadAt P hs.heap t v
    | none => none

def resultsOf (P : Program) (tm : TM) (hs : HS) : List ResultVar → Option (List AV)
  | [] => some []
  | r :: rs => match resultOf P tm hs r with
    | some v => match resultsOf P tm hs rs with
      | some vs => some (v :: vs)
      | none => none
    | none => none

def tupled : List AV → AV
  | [v] => v
  | vs => .tup vs

def undefs (tm : TM) : Nat → Nat → TM
  | _, 0 => tm
  | k, n + 1 => undefs (tm.set k (.tup [])) (k + 1) n

def call {α : Type} (P : Program) (base : CallK α) (ltab : FuncId → Nat → TM → Option (LoopFn α)) (wrap : CallK α → CallK α) : Nat → CallK α
  | 0 => base
  | n + 1 => wrap fun f args hs pc k => match P.funcs[f]? with
    | none => .bad 20
    | some fn => match fn.body with
      | none => base f args hs pc k
      | some c => match Nat.ble args.length fn.ntmps with
       | false => .bad 23
       | true => exec P (call P base ltab wrap n) (ltab f) fn.ntmps 1000000 c (undefs (T.ofList args) args.length (fn.ntmps - args.length)) hs pc fun o tm hs pc =>
        match o with
        | .exit _ => .bad 21
        | _ => match resultsOf P tm hs fn.results.toList with
          | some vs => k (tupled vs) hs pc
          | none => .bad 22

end Go.Sx
