/- WholeLabels: what its loops and functions do, in plain words. -/
import Derived.Test.YtkgmobbbcigcjaaGreatDoorLPat
namespace Go.Sx.L
set_option linter.unusedVariables false
open Go Go.Sx

def bs (l : List UInt8) : ByteArray := ⟨l.toArray⟩
theorem bs_toList (l : List UInt8) : (bs l).data.toList = l := by simp [bs]
theorem bs_of (s : ByteArray) : bs s.data.toList = s := by simp [bs]

/-- Has a label a category? -/
def bit (k i : Int) : Bool := decide (intBin .and .i64 (intBin .shr .i64 k i) 1 = 1)
/-- Letters from the i-th one on. -/
def letL (k : Int) : Nat → Int → List UInt8 → List UInt8
  | 0, _, l => l
  | n + 1, i, l => letL k n (i + 1) (if bit k i then l ++ [UInt8.ofNat (97 + i).toNat] else l)
/-- The same as numbers. -/
def bytL (k : Int) : Nat → Int → List SV → List SV
  | 0, _, l => l
  | n + 1, i, l => bytL k n (i + 1) (if bit k i then l ++ [.ofI (97 + i)] else l)
/-- A text's label, behind some letters; none: it is no text of a label. -/
def parL : List UInt8 → Int → Option Int
  | [], l => some l
  | c :: cs, l =>
    if (c.toNat : Int) - 97 < 0 then none
    else if ¬ ((c.toNat : Int) - 97 < 8) then none
    else if ¬ (intBin .shr .i64 l ((c.toNat : Int) - 97) = 0) then none
    else parL cs (intBin .or .i64 l (intBin .shl .i64 1 ((c.toNat : Int) - 97)))
/-- How many categories. -/
def pop (k : Int) : Int := (List.range 8).foldl (fun (n : Int) (i : Nat) => n + intBin .and .i64 (intBin .shr .i64 k (i : Int)) 1) 0
/-- A label's text. -/
def textL (k : Int) : List UInt8 := if k = 0 then [45] else letL k 8 0 []

def okN (x : Int) : Bool := decide (0 ≤ x) && decide (x < 256)
theorem okN_t {x : Int} (h : 0 ≤ x) (h' : x < 256) : okN x = true := by simp [okN, h, h']
theorem okN_f {x : Int} (h : x < 0 ∨ 256 ≤ x) : okN x = false := by
  unfold okN
  rcases h with h | h
  · rw [decide_eq_false (by omega)]; rfl
  · rw [decide_eq_false (p := x < 256) (by omega)]; simp
/-- The numbers of a row. -/
def ints (q : List SV) : List SV := q.map fun e => .ofI e.i
/-- Where those stand for which c is so. -/
def idx (c : Int → Bool) : Nat → List SV → List SV
  | _, [] => []
  | i, x :: xs => if c x.i then .ofI (i : Int) :: idx c (i + 1) xs else idx c (i + 1) xs
def below (t x : Int) : Bool := okN x && okN t && decide (intBin .andNot .i64 x t = 0)

/-! ### What is done -/
def eqInv : List SV → Prop
  | [_, lo1, len1, _, lo2, len2, i] => 0 ≤ i.i ∧ i.i ≤ len1.i ∧ len1.i = len2.i ∧ len1.i ≤ 1000000 ∧ 0 ≤ lo1.i ∧ 0 ≤ lo2.i
  | _ => False
/-- The i-th number of a row. -/
def nth (q : SV) (i : Int) : Int := (q.l.getD i.toNat .nul).i
noncomputable def eqR : List SV → Nat × (Nat → SV)
  | [q1, lo1, len1, q2, lo2, _, i] => (ex01 (∀ j : Nat, i.i ≤ j → j < len1.i → nth q1 (lo1.i + j) = nth q2 (lo2.i + j)), fun _ => .nul)
  | _ => (0, fun _ => .nul)
def eqMu : List SV → Nat
  | [_, _, len1, _, _, _, i] => (len1.i - i.i).toNat
  | _ => 0

/-- Over a whole row, from i on. -/
def foldInv : List SV → Prop
  | [_, q, lo, len, i] => lo = .ofI 0 ∧ len = .ofI q.l.length ∧ (∃ n : Nat, i = .ofI n ∧ n ≤ q.l.length) ∧ q.l.length ≤ 1000
  | _ => False
def foldO (op : BinOp) (out : SV) (rest : List SV) : Nat × (Nat → SV) := match rest.all fun x => okN x.i with
  | true => (0, fun j => if j = 0 then rest.foldl (fun a x => .ofI (intBin op .i64 a.i x.i)) out else .nul)
  | false => (1, fun _ => .nul)
def foldR (op : BinOp) : List SV → Nat × (Nat → SV)
  | [out, q, _, _, i] => foldO op out (q.l.drop i.i.toNat)
  | _ => (0, fun _ => .nul)
def foldMu : List SV → Nat
  | [_, _, _, len, i] => (len.i - i.i).toNat
  | _ => 0

def underInv : List SV → Prop
  | [_, q, lo, len, i, u, ulo, ulen, ucap] => lo = .ofI 0 ∧ len = .ofI q.l.length ∧ (∃ n : Nat, i = .ofI n ∧ n ≤ q.l.length ∧ u.l.length ≤ n) ∧ q.l.length ≤ 1000 ∧ u = .ofL u.l ∧ ulo = .ofI 0 ∧ ulen = .ofI u.l.length ∧ ucap = .ofI u.l.length
  | _ => False
def rowX (l : List SV) : Nat → SV
  | 0 => .ofL l
  | 1 => .ofI 0
  | 2 => .ofI l.length
  | 3 => .ofI l.length
  | _ => .nul
def underR : List SV → Nat × (Nat → SV)
  | [t, q, _, _, i, u, _, _, _] => (0, rowX (u.l ++ idx (below t.i) i.i.toNat (q.l.drop i.i.toNat)))
  | _ => (0, fun _ => .nul)
def underMu : List SV → Nat
  | [_, _, _, len, i, _, _, _, _] => (len.i - i.i).toNat
  | _ => 0

def lowInv : List SV → Prop
  | [q, lo, len, cap, i, u, ulo, ulen, ucap] => lo = .ofI 0 ∧ len = .ofI q.l.length ∧ cap = .ofI q.l.length ∧ (∃ n : Nat, i = .ofI n ∧ n ≤ q.l.length ∧ u.l.length ≤ n) ∧ q.l.length ≤ 1000 ∧ u = .ofL u.l ∧ ulo = .ofI 0 ∧ ulen = .ofI u.l.length ∧ ucap = .ofI u.l.length
  | _ => False
def lowO (q l : List SV) : Nat → SV
  | 0 => .ofI 0
  | 1 => .ofI q.length
  | 2 => .ofI q.length
  | 3 => .ofL l
  | 4 => .ofI 0
  | 5 => .ofI l.length
  | 6 => .ofI l.length
  | _ => .nul
def lowR : List SV → Nat × (Nat → SV)
  | [q, _, _, _, i, u, _, _, _] => (0, lowO q.l (u.l ++ idx (below (nth q 0)) i.i.toNat (q.l.drop i.i.toNat)))
  | _ => (0, fun _ => .nul)
def lowMu : List SV → Nat
  | [_, _, len, _, i, _, _, _, _] => (len.i - i.i).toNat
  | _ => 0

/-- The law's loop: what is together so far. -/
def mainInv : List SV → Prop
  | [q, lo, len, i, n, a, alo, alen, acap, j, m, is] => lo = .ofI 0 ∧ len = .ofI q.l.length ∧ q.l.length ≤ 10 ∧ (∀ e ∈ q.l, -32768 ≤ e.i ∧ e.i ≤ 32767) ∧ -1 ≤ n.i ∧ n.i ≤ 10 ∧
      ∃ k : Nat, k ≤ q.l.length ∧ i = .ofI k ∧ a = .ofL (ints (q.l.take k)) ∧ alo = .ofI 0 ∧ alen = .ofI k ∧ acap = .ofI k ∧
        j = (q.l.take k).foldl (fun a x => .ofI (intBin .or .i64 a.i x.i)) (.ofI 0) ∧ m = (q.l.take k).foldl (fun a x => .ofI (intBin .and .i64 a.i x.i)) (.ofI 255) ∧
        is = .ofI (if ((q.l.take k).all fun x => okN x.i) then 1 else 0)
  | _ => False
def mainO (q : List SV) : Nat → SV
  | 0 => .ofL (ints q)
  | 1 => .ofI 0
  | 2 => .ofI q.length
  | 3 => .ofI q.length
  | 4 => q.foldl (fun a x => .ofI (intBin .or .i64 a.i x.i)) (.ofI 0)
  | 5 => q.foldl (fun a x => .ofI (intBin .and .i64 a.i x.i)) (.ofI 255)
  | 6 => .ofI (if (q.all fun x => okN x.i) then 1 else 0)
  | _ => .nul
def mainR : List SV → Nat × (Nat → SV)
  | q :: _ => (0, mainO q.l)
  | _ => (0, fun _ => .nul)
def mainMu : List SV → Nat
  | [_, _, len, i, _, _, _, _, _, _, _, _] => (len.i - i.i).toNat
  | _ => 0

def letInv : List SV → Prop
  | [_, s, i] => s = .ofS s.s ∧ ∃ n : Nat, i = .ofI n ∧ n ≤ 8 ∧ s.s.size ≤ n
  | _ => False
def letR : List SV → Nat × (Nat → SV)
  | [k, s, i] => (0, fun j => if j = 0 then .ofS (bs (letL k.i (8 - i.i).toNat i.i s.s.data.toList)) else .nul)
  | _ => (0, fun _ => .nul)
def letMu : List SV → Nat
  | [_, _, i] => (8 - i.i).toNat
  | _ => 0

def bytInv : List SV → Prop
  | [_, q, lo, len, cap, i] => q = .ofL q.l ∧ lo = .ofI 0 ∧ len = .ofI q.l.length ∧ cap = .ofI q.l.length ∧ ∃ n : Nat, i = .ofI n ∧ n ≤ 8 ∧ q.l.length ≤ n
  | _ => False
def bytR : List SV → Nat × (Nat → SV)
  | [k, q, _, _, _, i] => (0, rowX (bytL k.i (8 - i.i).toNat i.i q.l))
  | _ => (0, fun _ => .nul)
def bytMu : List SV → Nat
  | [_, _, _, _, _, i] => (8 - i.i).toNat
  | _ => 0

def parInv : List SV → Prop
  | [s, l, i, n] => (∃ m : Int, l = .ofI m) ∧ n = .ofI s.s.size ∧ s.s.size ≤ 1000 ∧ ∃ m : Nat, i = .ofI m ∧ m ≤ s.s.size
  | _ => False
def parR : List SV → Nat × (Nat → SV)
  | [s, l, i, _] => match parL (s.s.data.toList.drop i.i.toNat) l.i with
    | some v => (0, fun j => if j = 0 then .ofI v else .nul)
    | none => (1, fun _ => .nul)
  | _ => (0, fun _ => .nul)
def parMu : List SV → Nat
  | [s, _, i, _] => (s.s.size - i.i).toNat
  | _ => 0

def cntInv : List SV → Prop
  | [k, n] => 0 ≤ k.i ∧ k.i < 256 ∧ n = .ofI n.i ∧ 0 ≤ n.i ∧ n.i + k.i ≤ 255
  | _ => False
def cntR : List SV → Nat × (Nat → SV)
  | [k, n] => (0, fun j => if j = 0 then .ofI (n.i + pop k.i) else .nul)
  | _ => (0, fun _ => .nul)
def cntMu : List SV → Nat
  | [k, _] => k.i.toNat
  | _ => 0

def txtInv : List SV → Prop
  | [k] => 0 ≤ k.i ∧ k.i < 256
  | _ => False
def txtR : List SV → Nat × (Nat → SV)
  | [k] => (0, fun j => if j = 0 then .ofS (bs (textL k.i)) else .nul)
  | _ => (0, fun _ => .nul)
def psInv : List SV → Prop
  | [s] => s.s.size ≤ 1000
  | _ => False
/-- What label.Parse answers. -/
def psF (l : List UInt8) : Int × Int := if l = [45] then (0, 0) else match parL l 0 with
  | some v => if v = 0 then (0, 6) else (v, 0)
  | none => (0, 6)
def psR : List SV → Nat × (Nat → SV)
  | [s] => (0, fun j => if j = 0 then .ofI (psF s.s.data.toList).1 else if j = 1 then .ofI (psF s.s.data.toList).2 else .nul)
  | _ => (0, fun _ => .nul)
def ctR : List SV → Nat × (Nat → SV)
  | [k] => (0, fun j => if j = 0 then .ofI (if okN k.i then pop k.i else -1) else .nul)
  | _ => (0, fun _ => .nul)

/-- All of it, by numbers. -/
noncomputable def does (b : Nat) : Does := match b with
  | 0 => ⟨eqInv, eqR⟩
  | 1 => ⟨foldInv, foldR .or⟩
  | 2 => ⟨foldInv, foldR .and⟩
  | 3 => ⟨underInv, underR⟩
  | 4 => ⟨lowInv, lowR⟩
  | 5 => ⟨mainInv, mainR⟩
  | 6 => ⟨letInv, letR⟩
  | 7 => ⟨bytInv, bytR⟩
  | 8 => ⟨parInv, parR⟩
  | 9 => ⟨cntInv, cntR⟩
  | 10 => ⟨txtInv, txtR⟩
  | 11 => ⟨psInv, psR⟩
  | 12 => ⟨fun _ => True, ctR⟩
  | _ => ⟨fun _ => True, fun _ => (0, fun _ => .nul)⟩
noncomputable def fn : Nat → List SV → SV := fnOf does

/-! ### Labels, one by one -/
theorem let_facts : ∀ k : Fin 256, (k.val ≠ 0 → letL k.val 8 0 [] ≠ [] ∧ (letL k.val 8 0 []).getLast? ≠ some 45 ∧ letL k.val 8 0 [] ≠ [45] ∧ parL (letL k.val 8 0 []) 0 = some (k.val : Int)) ∧ letL 0 8 0 [] = [] ∧ ((letL k.val 8 0 []).length : Int) = pop k.val := by
  decide +kernel
theorem cnt_facts : ∀ k : Fin 256, k.val ≠ 0 → 0 ≤ intBin .and .i64 k.val (intBin .sub .i64 k.val 1) ∧ intBin .and .i64 k.val (intBin .sub .i64 k.val 1) < k.val ∧ pop (intBin .and .i64 k.val (intBin .sub .i64 k.val 1)) + 1 = pop k.val := by
  decide +kernel
theorem valid_facts : ∀ (k : Fin 256) (n : Fin 9), (intBin .shr .i64 k.val n.val = 0 ↔ (k.val : Int) < intBin .shl .i64 1 n.val) := by
  decide +kernel
end Go.Sx.L
