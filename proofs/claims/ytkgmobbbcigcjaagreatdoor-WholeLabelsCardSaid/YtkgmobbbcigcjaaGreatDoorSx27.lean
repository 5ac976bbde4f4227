/- An executor for the model's Go code over an abstract state: tools for patterns. -/
import Derived.Test.YtkgmobbbcigcjaaGreatDoorSx26
namespace Go.Sx
set_option linter.unusedVariables false

/-! ### A pattern held against a state: what its parameters stand for (nothing rests on it: `enters` looks) -/
def hasKey {α : Type} (l : List (Nat × α)) (i : Nat) : Bool := match l with
  | [] => false
  | (j, _) :: l => match Nat.beq i j with
    | true => true
    | false => hasKey l i

def mIE (p e : IE) (s : SubL) : SubL := match p with
  | .at i => match hasKey s.sv i with
    | true => s
    | false => { s with sv := (i, e) :: s.sv }
  | _ => s

def mNm (n m : Nat) (s : SubL) : SubL := match Nat.blt n gbound with
  | true => s
  | false => match hasKey s.nm n with
    | true => s
    | false => { s with nm := (n, m) :: s.nm }

def mCp (i j : Nat) (s : SubL) : SubL := match hasKey s.cp i with
  | true => s
  | false => { s with cp := (i, j) :: s.cp }

mutual
def mAV : AV → AV → SubL → SubL
  | .int _ p, .int _ e, s => mIE p e s
  | .bool p, .bool b, s => match p with
    | .is p => mIE p b.toIE s
    | .at i => mIE (.at i) b.toIE s
    | _ => s
  | .str p, .str e, s => mIE p e s
  | .str p, .raw (.string b), s => mIE p (.str b) s
  | .ptrx n rm _ ix _, .ptrx m rm' _ ix' _, s => mIE ix ix' (mCp (rm + 1) (rm' + 1) (mCp rm rm' (mNm n m s)))
  | .sl n rm _ lo len _ cap, .sl m rm' _ lo' len' _ cap', s => mIE cap cap' (mIE len len' (mIE lo lo' (mCp (rm + 1) (rm' + 1) (mCp rm rm' (mNm n m s)))))
  | .ptr n _, .ptr m _, s => mNm n m s
  | .slice n _ _ c, .slice m _ _ c', s => match c.a, c'.a with
    | some i, some j => mCp i j (mNm n m s)
    | _, _ => mNm n m s
  | .func _ fs cs, .func _ fs' cs', s => mAVs cs cs' (mAVs fs fs' s)
  | .iface _ a, .iface _ a', s => mAV a a' s
  | .agg cs, .agg cs', s => mAVs cs cs' s
  | .tup cs, .tup cs', s => mAVs cs cs' s
  | .map n, .map m, s => mNm n m s
  | _, _, s => s
def mAVs : List AV → List AV → SubL → SubL
  | a :: as, b :: bs, s => mAVs as bs (mAV a b s)
  | _, _, s => s
end

def mTm (tm : TM) : List (Nat × AV) → SubL → SubL
  | [], s => s
  | (t, p) :: l, s => match tm.get t with
    | some a => mTm tm l (mAV p a s)
    | none => mTm tm l s

def mCells (cs : T AV) : List (Nat × AV) → SubL → SubL
  | [], s => s
  | (i, p) :: l, s => match cs.get i with
    | some a => mCells cs l (mAV p a s)
    | none => mCells cs l s

def getKey (l : List (Nat × Nat)) (n : Nat) : Option Nat := match Nat.blt n gbound with
  | true => some n
  | false => go l
where go : List (Nat × Nat) → Option Nat
  | [] => none
  | (i, j) :: l => match Nat.beq i n with
    | true => some j
    | false => go l

def mHeap (H : T ABlk) : List (Nat × PBlk) → SubL → SubL
  | [], s => s
  | (n, p) :: l, s => match getKey s.nm n with
    | some m => match H.get m, p with
      | some (.seq q' _ _ rm' _), .seq q _ _ rm _ => mHeap H l (mIE q q' (mCp (rm + 1) (rm' + 1) (mCp rm rm' s)))
      | some (.cells cs' _ _ _ _), .cells cs _ _ _ _ => mHeap H l (mCells cs' cs s)
      | _, _ => mHeap H l s
    | none => mHeap H l s

def findP (p : Pat) (tm : TM) (hs : HS) : SubL := mHeap hs.heap p.heap (mTm tm p.tm ⟨[], [], []⟩)

/-! ### Numbers of what loops and functions do -/
def mkSpec (b : Nat) (H : Pat) (Xs : List (Out × Pat × Nat)) (args stab stabC : List Nat) : LoopSpec :=
  ⟨H, Xs, stab, stabC, args, b, fun j => b + 64 * (1 + 2 * j), fun _ i => b + 64 * (2 + 2 * i), false⟩
/-- The same, where nothing is asked ahead. -/
def mkFree (b : Nat) (H : Pat) (Xs : List (Out × Pat × Nat)) (args stab stabC : List Nat) : LoopSpec :=
  ⟨H, Xs, stab, stabC, args, b, fun j => b + 64 * (1 + 2 * j), fun _ i => b + 64 * (2 + 2 * i), true⟩

structure Does where
  Inv : List SV → Prop
  R : List SV → Nat × (Nat → SV)

open Classical in
/-- What they do, by numbers. -/
noncomputable def fnOf (tab : Nat → Does) (n : Nat) (vs : List SV) : SV :=
  match n / 64 with
  | 0 => .ofI (if (tab (n % 64)).Inv vs then 1 else 0)
  | c + 1 => if c % 2 = 0 then .ofI (if ((tab (n % 64)).R vs).1 = c / 2 then 1 else 0) else ((tab (n % 64)).R vs).2 (c / 2)

theorem fnOf_inv (tab : Nat → Does) {b : Nat} (hb : b < 64) (vs : List SV) : (fnOf tab b vs).i ≠ 0 ↔ (tab b).Inv vs := by
  have h1 : b / 64 = 0 := by omega
  have h2 : b % 64 = b := by omega
  unfold fnOf
  rw [h1, h2]
  simp only [SV.ofI, SV.i]
  split <;> simp_all

theorem fnOf_kind (tab : Nat → Does) {b : Nat} (hb : b < 64) (j : Nat) (vs : List SV) : (fnOf tab (b + 64 * (1 + 2 * j)) vs).i ≠ 0 ↔ ((tab b).R vs).1 = j := by
  have h1 : (b + 64 * (1 + 2 * j)) / 64 = 2 * j + 1 := by omega
  have h2 : (b + 64 * (1 + 2 * j)) % 64 = b := by omega
  have h3 : 2 * j % 2 = 0 := by omega
  have h4 : 2 * j / 2 = j := by omega
  unfold fnOf
  rw [h1, h2]
  simp only [h3, if_true, h4, SV.ofI, SV.i]
  split <;> simp_all

theorem fnOf_outs (tab : Nat → Does) {b : Nat} (hb : b < 64) (i : Nat) (vs : List SV) : fnOf tab (b + 64 * (2 + 2 * i)) vs = ((tab b).R vs).2 i := by
  have h1 : (b + 64 * (2 + 2 * i)) / 64 = (2 * i + 1) + 1 := by omega
  have h2 : (b + 64 * (2 + 2 * i)) % 64 = b := by omega
  have h3 : ¬ (2 * i + 1) % 2 = 0 := by omega
  have h4 : (2 * i + 1) / 2 = i := by omega
  unfold fnOf
  rw [h1, h2]
  simp only [h3, if_false, h4]

/-- Loops with nil slices made rows. -/
def coeK {α : Type} (l : List Coe) (F : LoopFn α) : LoopFn α := fun tm hs pc k => match coes l tm hs with
  | some (tm, hs) => F tm hs pc k
  | none => .bad 56

theorem coeK_sound {ρ : Rho} {P : Program} {nt : Nat} {α : Type} {Ψ : α → Prop} {b : Code} {F : LoopFn α} (l : List Coe) (h : LoopSound ρ P nt Ψ b F) : LoopSound ρ P nt Ψ b (coeK l F) := by
  intro tm hs pc k δ a w Q hp hr ht hh hk
  unfold coeK at hh
  split at hh
  · rename_i tm1 hs1 h1
    obtain ⟨δ1, g1, g2, g3⟩ := coes_sound l δ hs tm tm1 hs1 hr ht h1
    exact h tm1 hs1 pc k δ1 a w Q hp g1 g2 hh fun out tm' hs' pc' δ' a' w' p1 p2 p3 p4 p5 => hk out tm' hs' pc' δ' a' w' p1 p2 p3 (g3.trans p4) p5
  · exact hh.elim

/-- The loops of a function, by numbers. -/
def loopAt (P : Program) (f key : Nat) : List Code := match P.funcs[f]? with
  | some fn => match fn.body with
    | some c => (loopsOf c).filter fun b => Nat.beq (loopKey b) key
    | none => []
  | none => []

theorem loopAt_one {P : Program} {f key : Nat} {b0 : Code} (h : loopAt P f key = [b0]) {fn : Func} {c b : Code} (hf : P.funcs[f]? = some fn) (hc : fn.body = some c) (hb : b ∈ loopsOf c) (hk : loopKey b = key) : b = b0 := by
  unfold loopAt at h
  rw [hf] at h
  simp only [hc] at h
  have : b ∈ (loopsOf c).filter fun b => Nat.beq (loopKey b) key := List.mem_filter.2 ⟨hb, by rw [hk]; exact Nat.beq_refl _⟩
  rw [h] at this
  simpa using this
end Go.Sx
