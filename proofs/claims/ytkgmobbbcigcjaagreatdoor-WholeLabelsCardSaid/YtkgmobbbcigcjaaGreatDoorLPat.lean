/- WholeLabels: what its loops look like. -/
import Derived.Test.YtkgmobbbcigcjaaGreatDoorSx28
namespace Go.Sx.L
set_option linter.unusedVariables false
open Go Go.Sx
def i64 : CK := .int .i64
def none_ : Pat := { tm := [], heap := [], nx := 1024, nc := 0, names := [] }
def retB (t : Nat) (b : Bool) : Pat := { tm := [(t, .bool (.lit b))], heap := [], nx := 1024, nc := 0, names := [] }
/-- slices.Equal[int] -/
def eqH : Pat := { tm := [(0, .sl 1024 0 1 (.at 1) (.at 2) false (.at 3)), (1, .sl 1025 2 1 (.at 5) (.at 6) false (.at 7)), (12, .int .i64 (.at 2)), (13, .int .i64 (.at 8))]
                   heap := [(1024, .seq (.at 0) [i64] 3 0 false), (1025, .seq (.at 4) [i64] 3 2 false)], nx := 1026, nc := 4, names := [] }
def eqS : LoopSpec := mkSpec 0 eqH [(.exit 0, none_, 0), (.ret, retB 4 false, 0)] [0, 1, 2, 4, 5, 6, 8] [] []
/-- label.fold[int], with `or` or with `and`. -/
def foldH (f : Nat) : Pat := { tm := [(2, .func (.func f) [] []), (7, .int .i64 (.at 0)), (11, .sl 1024 0 1 (.at 2) (.at 3) false (.at 4)), (12, .int .i64 (.at 3)), (13, .int .i64 (.at 5))]
                               heap := [(1024, .seq (.at 1) [i64] 3 0 false)], nx := 1025, nc := 2, names := [] }
def foldX0 : Pat := { tm := [(7, .int .i64 (.at 0))], heap := [], nx := 1024, nc := 0, names := [] }
def foldX1 : Pat := { tm := [(6, .int .i64 (.lit (-1)))], heap := [], nx := 1024, nc := 0, names := [] }
def joinS : LoopSpec := mkSpec 1 (foldH 25) [(.exit 0, foldX0, 1), (.ret, foldX1, 0)] [0, 1, 2, 3, 5] [] []
def meetS : LoopSpec := mkSpec 2 (foldH 26) [(.exit 0, foldX0, 1), (.ret, foldX1, 0)] [0, 1, 2, 3, 5] [] []
/-- label.Under -/
def underH : Pat := { tm := [(5, .ptr 1026 0), (6, .func (.func 27) [] [.ptr 1025 0, .ptr 1026 0]), (10, .sl 1024 0 1 (.at 2) (.at 3) false (.at 4)), (11, .int .i64 (.at 3)), (12, .int .i64 (.at 5))]
                      heap := [(1024, .seq (.at 1) [i64] 3 0 false), (1025, .cells [(0, .int .i64 (.at 0))] 1 3 true false), (1026, .cells [(0, .sl 1027 2 1 (.at 7) (.at 8) false (.at 9))] 1 24 true true), (1027, .seq (.at 6) [i64] 3 2 true)]
                      nx := 1028, nc := 4, names := [] }
def underX : Pat := { tm := [(5, .ptr 1026 0)], heap := [(1026, .cells [(0, .sl 1027 2 1 (.at 1) (.at 2) false (.at 3))] 1 24 true true), (1027, .seq (.at 0) [i64] 3 2 true)], nx := 1028, nc := 4, names := [1026, 1027] }
def underS : LoopSpec := mkSpec 3 underH [(.exit 0, underX, 4)] [0, 1, 2, 3, 5, 6, 7, 8, 9] [1026] []
/-- the law's own loop over what flows to the first one -/
def lowH : Pat := { tm := [(6, .sl 1024 0 1 (.at 1) (.at 2) false (.at 3)), (7, .sl 1025 2 1 (.at 6) (.at 7) false (.at 8)), (8, .val 8), (9, .val 9), (168, .sl 1024 0 1 (.at 1) (.at 2) false (.at 3)), (169, .int .i64 (.at 2)), (170, .int .i64 (.at 4))]
                    heap := [(1024, .seq (.at 0) [i64] 3 0 false), (1025, .seq (.at 5) [i64] 3 2 true)], nx := 1026, nc := 4, names := [] }
def lowX : Pat := { tm := [(6, .sl 1024 0 1 (.at 0) (.at 1) false (.at 2)), (7, .sl 1025 2 1 (.at 4) (.at 5) false (.at 6)), (8, .val 8), (9, .val 9)], heap := [(1025, .seq (.at 3) [i64] 3 2 true)], nx := 1026, nc := 4, names := [1024, 1025] }
def lowS : LoopSpec := mkSpec 4 lowH [(.exit 2, lowX, 7)] [0, 1, 2, 3, 4, 5, 6, 7, 8] [1024] [0, 1]
/-- the law's main loop -/
def mainH : Pat := { tm := [(5, .int .i64 (.at 5)), (6, .sl 1025 2 1 (.at 7) (.at 8) false (.at 9)), (7, .val 7), (8, .int .i64 (.at 10)), (9, .int .i64 (.at 11)), (10, .bool (.is (.at 12))), (39, .sl 1024 0 1 (.at 1) (.at 2) false (.at 3)), (40, .int .i64 (.at 2)), (41, .int .i64 (.at 4))]
                     heap := [(1024, .seq (.at 0) [.int .i16] 25 0 false), (1025, .seq (.at 6) [i64] 3 2 true)], nx := 1026, nc := 4, names := [] }
def mainX : Pat := { tm := [(6, .sl 1025 2 1 (.at 1) (.at 2) false (.at 3)), (7, .val 7), (8, .int .i64 (.at 4)), (9, .int .i64 (.at 5)), (10, .bool (.is (.at 6)))], heap := [(1025, .seq (.at 0) [i64] 3 2 true)], nx := 1026, nc := 4, names := [1025] }
def mainS : LoopSpec := mkSpec 5 mainH [(.exit 0, mainX, 7), (.ret, retB 4 false, 0)] [0, 1, 2, 4, 5, 6, 7, 8, 9, 10, 11, 12] [] []

/-- the law's letters -/
def letH : Pat := { tm := [(0, .int .i64 (.at 0)), (3, .str (.at 1)), (5, .int .i64 (.at 2))], heap := [], nx := 1024, nc := 0, names := [] }
def letX : Pat := { tm := [(3, .str (.at 0))], heap := [], nx := 1024, nc := 0, names := [] }
def letS : LoopSpec := mkSpec 6 letH [(.exit 0, letX, 1)] [0, 1, 2] [] []
/-- label.letters -/
def bytH : Pat := { tm := [(0, .int .i64 (.at 0)), (3, .sl 1024 0 1 (.at 2) (.at 3) false (.at 4)), (5, .int .i64 (.at 5))], heap := [(1024, .seq (.at 1) [.int .u8] 5 0 true)], nx := 1025, nc := 2, names := [] }
def bytX : Pat := { tm := [(3, .sl 1024 0 1 (.at 1) (.at 2) false (.at 3))], heap := [(1024, .seq (.at 0) [.int .u8] 5 0 true)], nx := 1025, nc := 2, names := [1024] }
def bytS : LoopSpec := mkSpec 7 bytH [(.exit 0, bytX, 4)] [0, 1, 2, 3, 4, 5] [] []
/-- label.Parse -/
def parH : Pat := { tm := [(0, .str (.at 0)), (4, .int .i64 (.at 1)), (10, .int .i64 (.at 3)), (11, .int .i64 (.at 2))], heap := [], nx := 1024, nc := 0, names := [] }
def parX0 : Pat := { tm := [(4, .int .i64 (.at 0))], heap := [], nx := 1024, nc := 0, names := [] }
def parX1 : Pat := { tm := [(2, .int .i64 (.lit 0)), (3, .int .i64 (.lit 6))], heap := [], nx := 1024, nc := 0, names := [] }
def parS : LoopSpec := mkSpec 8 parH [(.exit 0, parX0, 1), (.ret, parX1, 0)] [0, 1, 2, 3] [] []
/-- label.Count -/
def cntH : Pat := { tm := [(0, .int .i64 (.at 0)), (3, .int .i64 (.at 1))], heap := [], nx := 1024, nc := 0, names := [] }
def cntX : Pat := { tm := [(3, .int .i64 (.at 0))], heap := [], nx := 1024, nc := 0, names := [] }
def cntS : LoopSpec := mkSpec 9 cntH [(.exit 0, cntX, 1)] [0, 1] [] []

/-- label.Text and the law's letters, of a label. -/
def txtH : Pat := { tm := [(0, .int .i64 (.at 0))], heap := [], nx := 1024, nc := 0, names := [] }
def txtX : Pat := { tm := [(0, .tup [.str (.at 0), .int .i64 (.lit 0)])], heap := [], nx := 1024, nc := 0, names := [] }
def txtS : LoopSpec := mkSpec 10 txtH [(.ret, txtX, 1)] [0] [] []
def lawX : Pat := { tm := [(0, .str (.at 0))], heap := [], nx := 1024, nc := 0, names := [] }
def lawS : LoopSpec := mkSpec 10 txtH [(.ret, lawX, 1)] [0] [] []
/-- label.Parse -/
def psH : Pat := { tm := [(0, .str (.at 0))], heap := [], nx := 1024, nc := 0, names := [] }
def psX : Pat := { tm := [(0, .tup [.int .i64 (.at 0), .int .i64 (.at 1)])], heap := [], nx := 1024, nc := 0, names := [] }
def psS : LoopSpec := mkSpec 11 psH [(.ret, psX, 2)] [0] [] []
/-- label.Count -/
def ctX : Pat := { tm := [(0, .int .i64 (.at 0))], heap := [], nx := 1024, nc := 0, names := [] }
def ctS : LoopSpec := mkFree 12 txtH [(.ret, ctX, 1)] [0] [] []

/-- awake -/
def hasL : List Int := [0, 7, 7, 7, 7, 7, 7, 7, 7, 7, 7, 7, 7, 7, 11, 11, 11, 11, 11, 11, 11, 11, 9, 11, 11, 11, 14, 14, 14, 14, 14, 14, 9, 11, 0, 0, 0, 9, 10, 0, 0, 0]
def hasCells : Nat → List Int → List (Nat × AV)
  | _, [] => []
  | i, n :: l => (i, .int .i64 (.lit n)) :: hasCells (i + 1) l
def hasBlk : PBlk := .cells (hasCells 0 hasL) 42 0 false false
def awH : Pat := { tm := [], heap := [(0, hasBlk)], nx := 1024, nc := 0, names := [] }
def awX : Pat := { tm := [(0, .bool (.lit true))], heap := [], nx := 1024, nc := 0, names := [] }
def awS : LoopSpec := mkFree 13 awH [(.ret, awX, 0)] [] [] []
/-- the law -/
def topH : Pat := { tm := [(0, .sl 1024 0 1 (.lit 0) (.at 1) false (.at 1)), (1, .int .u8 (.at 2))], heap := [(0, hasBlk), (1024, .seq (.at 0) [.int .i16] 25 0 false)], nx := 1025, nc := 2, names := [] }

def inRange (pc : PC) (n : Int) : List AV → Bool
  | [.int _ e] => match dec pc (.cmp .lss e (.lit 0)), dec pc (.cmp .lss e (.lit n)) with
    | some false, some true => true
    | _, _ => false
  | _ => false
/-- What is known of functions. -/
def wrap {α : Type} (ck : CallK α) : CallK α := fun f args hs pc k => match f with
  | 6 => match inRange pc 256 args with
    | true => fnK 1 txtS (findP txtS.H) args hs pc k
    | false => ck 6 args hs pc k
  | 8 => match inRange pc 256 args with
    | true => fnK 1 lawS (findP lawS.H) args hs pc k
    | false => ck 8 args hs pc k
  | 7 => match args with
    | [.raw _] => ck 7 args hs pc k
    | _ => fnK 1 psS (findP psS.H) args hs pc k
  | 10 => fnK 1 ctS (findP ctS.H) args hs pc k
  | f => ck f args hs pc k

def isFn (f : Nat) : Option AV → Bool
  | some (.func (.func g) _ _) => Nat.beq f g
  | _ => false
def isRaw : Option AV → Bool
  | some (.raw _) => true
  | _ => false
/-- No loops are known. -/
def tab0 {α : Type} : FuncId → Nat → TM → Option (LoopFn α) := fun _ _ _ => none
def wrapT {α : Type} (ck : CallK α) : CallK α := fun f args hs pc k => match f with
  | 4 => fnK 0 awS (findP awS.H) args hs pc k
  | f => ck f args hs pc k
/-- Loops of functions. -/
def tab1 {α : Type} : FuncId → Nat → TM → Option (LoopFn α) := fun f key _ => match f, key with
  | 8, 4 => some (loopS letS)
  | 22, 4 => some (coeK [⟨.tmp 3, [.int .u8], 5⟩] (loopS bytS))
  | 7, 6 => some (loopS parS)
  | 10, 5 => some (loopS cntS)
  | _, _ => none
/-- Loops that the law comes to. -/
def tab2 {α : Type} : FuncId → Nat → TM → Option (LoopFn α) := fun f key tm => match f, key with
  | 16, 5 => some (loopS eqS)
  | 24, 4 => match isFn 25 (tm.get 2) with
    | true => some (loopS joinS)
    | false => some (loopS meetS)
  | 17, 5 => some (coeK [⟨.cell 5 0, [i64], 3⟩] (loopS underS))
  | 3, 41 => some (coeK [⟨.tmp 7, [i64], 3⟩] (loopS lowS))
  | 3, 8 => some (coeK [⟨.tmp 6, [i64], 3⟩] (loopS mainS))
  | _, _ => none
def leafB (v : AV) (_ : HS) (_ : PC) : Tr BE := match v with
  | .bool b => .leaf b
  | _ => .bad 90
end Go.Sx.L
