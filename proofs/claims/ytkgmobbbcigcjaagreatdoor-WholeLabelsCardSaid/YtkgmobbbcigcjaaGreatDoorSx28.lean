/- An executor for the model's Go code over an abstract state: reading trees. -/
import Derived.Test.YtkgmobbbcigcjaaGreatDoorSx27
namespace Go.Sx
set_option linter.unusedVariables false

def look {α : Type} : List (Nat × α) → Nat → Option α
  | [], _ => none
  | (k, x) :: l, i => if i = k then some x else look l i

theorem puts_look {α : Type} (l : List (Nat × α)) (i : Nat) : (T.puts .nil l).get i = look l i := by
  induction l with
  | nil => simp [T.puts, T.get_nil, look]
  | cons x l ih =>
    obtain ⟨k, x⟩ := x
    simp only [T.puts, look]
    rw [T.get_set, ih]

theorem svOf_look (ρ : Rho) (l : List (Nat × IE)) (i : Nat) : svOf ρ l i = match look l i with
  | some e => e.sv ρ
  | none => .nul := by
  unfold svOf
  rw [puts_look]
  cases look l i <;> rfl

section
variable {ρ : Rho} {α : Type} {Ψ : α → Prop}
theorem holds_br (b : BE) (t f : Tr α) : (Tr.br b t f).holds ρ Ψ = ((b.den ρ = true → t.holds ρ Ψ) ∧ (b.den ρ = false → f.holds ρ Ψ)) := rfl
theorem holds_may (b : BE) (t f : Tr α) : (Tr.may b t f).holds ρ Ψ = ((b.den ρ = true → t.holds ρ Ψ) ∧ f.holds ρ Ψ) := rfl
theorem holds_leaf (a : α) : (Tr.leaf a).holds ρ Ψ = Ψ a := rfl
theorem holds_bad (n : Nat) : (Tr.bad n : Tr α).holds ρ Ψ = False := rfl
theorem den_lss (a b : IE) : ((BE.cmp .lss a b).den ρ = true) = (a.den ρ < b.den ρ) := by simp [BE.den, intCmp]
theorem den_lss' (a b : IE) : ((BE.cmp .lss a b).den ρ = false) = (b.den ρ ≤ a.den ρ) := by simp [BE.den, intCmp]
theorem den_eql (a b : IE) : ((BE.cmp .eql a b).den ρ = true) = (a.den ρ = b.den ρ) := by simp [BE.den, intCmp]
theorem den_eql' (a b : IE) : ((BE.cmp .eql a b).den ρ = false) = ¬ (a.den ρ = b.den ρ) := by simp [BE.den, intCmp]
theorem den_not (a : BE) : ((BE.not a).den ρ = true) = (a.den ρ = false) := by simp [BE.den]
theorem den_not' (a : BE) : ((BE.not a).den ρ = false) = (a.den ρ = true) := by simp [BE.den]
theorem den_is (e : IE) : ((BE.is e).den ρ = true) = (e.den ρ ≠ 0) := by simp [BE.den]
theorem den_is' (e : IE) : ((BE.is e).den ρ = false) = (e.den ρ = 0) := by simp [BE.den]
theorem den_iff (a b : BE) : ((BE.iff a b).den ρ = true) = (a.den ρ = true ↔ b.den ρ = true) := by simp [BE.den]
theorem den_iff' (a b : BE) : ((BE.iff a b).den ρ = false) = ¬ (a.den ρ = true ↔ b.den ρ = true) := by cases ha : a.den ρ <;> cases hb : b.den ρ <;> simp [BE.den, ha, hb]
theorem den_and (a b : BE) : ((BE.and a b).den ρ = true) = (a.den ρ = true ∧ b.den ρ = true) := by simp [BE.den]
theorem den_and' (a b : BE) : ((BE.and a b).den ρ = false) = ¬ (a.den ρ = true ∧ b.den ρ = true) := by cases ha : a.den ρ <;> cases hb : b.den ρ <;> simp [BE.den, ha, hb]
theorem den_seq (a b : IE) : ((BE.seq a b).den ρ = true) = ((a.sv ρ).s = (b.sv ρ).s) := by simp [BE.den]
theorem den_seq' (a b : IE) : ((BE.seq a b).den ρ = false) = ¬ ((a.sv ρ).s = (b.sv ρ).s) := by simp [BE.den]
theorem den_at (i : Nat) : (IE.at i).den ρ = (ρ.sv i).i := rfl
theorem den_bin (op : BinOp) (k : IntKind) (a b : IE) : (IE.bin op k a b).den ρ = intBin op k (a.den ρ) (b.den ρ) := rfl
theorem den_conv (k : IntKind) (a : IE) : (IE.conv k a).den ρ = k.wrap (a.den ρ) := rfl
theorem den_app (f : Nat) (as : List IE) : (IE.app f as).den ρ = (ρ.fn f (IE.svs ρ as)).i := rfl
theorem den_plus (a b : IE) : (IE.prim .plus [a, b]).den ρ = a.den ρ + b.den ρ := rfl
theorem den_minus (a b : IE) : (IE.prim .minus [a, b]).den ρ = a.den ρ - b.den ρ := rfl
theorem den_sel (q i : IE) : (IE.prim .sel [q, i]).den ρ = ((q.sv ρ).l.getD (i.den ρ).toNat .nul).i := rfl
theorem sv_at (i : Nat) : (IE.at i).sv ρ = ρ.sv i := rfl
theorem sv_app (f : Nat) (as : List IE) : (IE.app f as).sv ρ = ρ.fn f (IE.svs ρ as) := rfl
theorem sv_lit (n : Int) : (IE.lit n).sv ρ = .ofI n := rfl
theorem sv_bin (op : BinOp) (k : IntKind) (a b : IE) : (IE.bin op k a b).sv ρ = .ofI (intBin op k (a.den ρ) (b.den ρ)) := rfl
theorem sv_plus (a b : IE) : (IE.prim .plus [a, b]).sv ρ = .ofI (a.den ρ + b.den ρ) := rfl
theorem sv_minus (a b : IE) : (IE.prim .minus [a, b]).sv ρ = .ofI (a.den ρ - b.den ρ) := rfl
theorem sv_conv (k : IntKind) (a : IE) : (IE.conv k a).sv ρ = .ofI (k.wrap (a.den ρ)) := rfl
theorem sv_str (s : ByteArray) : (IE.str s).sv ρ = .ofS s := rfl
theorem sv_cat1 (u lo len x : IE) : (IE.prim .cat [.prim .sub [u, lo, len], .prim .row [x]]).sv ρ = .ofL (((u.sv ρ).l.drop (lo.den ρ).toNat).take (len.den ρ).toNat ++ [x.sv ρ]) := rfl
theorem sv_row0 : (IE.prim .row []).sv ρ = .ofL [] := rfl
theorem sv_cmp (op : BinOp) (a b : IE) : (IE.prim (.cmp op) [a, b]).sv ρ = .ofI (if intCmp op (a.den ρ) (b.den ρ) then 1 else 0) := rfl
theorem sv_scat (a b : IE) : (IE.prim .scat [a, b]).sv ρ = .ofS ((a.sv ρ).s ++ (b.sv ρ).s) := rfl
theorem sv_ssub (s lo hi : IE) : (IE.prim .ssub [s, lo, hi]).sv ρ = .ofS ((s.sv ρ).s.extract (lo.den ρ).toNat (hi.den ρ).toNat) := rfl
theorem den_slen (s : IE) : (IE.prim .slen [s]).den ρ = ((s.sv ρ).s.size : Int) := rfl
theorem sv_slen (s : IE) : (IE.prim .slen [s]).sv ρ = .ofI ((s.sv ρ).s.size : Int) := rfl
theorem den_sat (s i : IE) : (IE.prim .sat [s, i]).den ρ = (((s.sv ρ).s.data.toList.getD (i.den ρ).toNat 0).toNat : Int) := rfl
theorem den_leq (a b : IE) : ((BE.cmp .leq a b).den ρ = true) = (a.den ρ ≤ b.den ρ) := by simp [BE.den, intCmp]
theorem den_leq' (a b : IE) : ((BE.cmp .leq a b).den ρ = false) = (b.den ρ < a.den ρ) := by simp [BE.den, intCmp]
theorem sv_sel (q i : IE) : (IE.prim .sel [q, i]).sv ρ = (q.sv ρ).l.getD (i.den ρ).toNat .nul := rfl
end

section
variable {S : LoopSpec} {Inv : List SV → Prop} {R : List SV → Nat × (Nat → SV)} {μ : List SV → Nat} {ρ : Rho}
theorem leaf_again (l : List (Nat × IE)) : LeafOK S Inv R μ ρ (none, l) = (Inv (S.args.map (svOf ρ l)) ∧ μ (S.args.map (svOf ρ l)) < μ (S.vals ρ) ∧ R (S.args.map (svOf ρ l)) = R (S.vals ρ)) := rfl
theorem leaf_exit (j : Nat) (l : List (Nat × IE)) : LeafOK S Inv R μ ρ (some j, l) = ((R (S.vals ρ)).1 = j ∧ ∀ i, svOf ρ l i = (R (S.vals ρ)).2 i) := rfl
end
open Classical in
/-- The exit 0 if so, the exit 1 if not. -/
noncomputable def ex01 (p : Prop) : Nat := if p then 0 else 1
theorem ex01_congr {p q : Prop} (h : p ↔ q) : ex01 p = ex01 q := by rw [propext h]
theorem ex01_pos {p : Prop} (h : p) : ex01 p = 0 := by unfold ex01; rw [if_pos h]
theorem ex01_neg {p : Prop} (h : ¬ p) : ex01 p = 1 := by unfold ex01; rw [if_neg h]
theorem ex01_zero {p : Prop} : ex01 p = 0 ↔ p := by unfold ex01; split <;> simp_all
theorem ex01_one {p : Prop} : ex01 p = 1 ↔ ¬ p := by unfold ex01; split <;> simp_all
theorem ofL_l (l : List SV) : (SV.ofL l).l = l := rfl
theorem ofS_s (s : ByteArray) : (SV.ofS s).s = s := rfl
theorem ofI_i (n : Int) : (SV.ofI n).i = n := rfl
theorem add64 {a b : Int} (h : -9223372036854775808 ≤ a + b) (h' : a + b ≤ 9223372036854775807) : intBin .add .i64 a b = a + b := by
  simp only [intBin, IntKind.wrap, IntKind.bits, IntKind.signed]; simp; omega
theorem sub64 {a b : Int} (h : -9223372036854775808 ≤ a - b) (h' : a - b ≤ 9223372036854775807) : intBin .sub .i64 a b = a - b := by
  simp only [intBin, IntKind.wrap, IntKind.bits, IntKind.signed]; simp; omega

/-! ### What is known of every program -/
theorem bad_sound {ρ : Rho} {P : Program} {α : Type} {Ψ : α → Prop} (n : Nat) : CallSound ρ P Ψ (fun _ _ _ _ _ => .bad n) := fun _ _ _ _ _ _ _ _ _ _ _ _ h _ => h.elim

theorem id_sound {ρ : Rho} {P : Program} {α : Type} {Ψ : α → Prop} : ∀ ck : CallK α, CallSound ρ P Ψ ck → CallSound ρ P Ψ (id ck) := fun _ h => h

theorem enter_ok {P : Program} (h : (P.funcs.all fun fn => !(fn.name == "runtime.NumGoroutine")) = true) :
    ∀ f fn, P.funcs[f]? = some fn → fn.body.isSome = true → ∀ args w, (callFunc f args).run P w = .ok (.enter f args) w := by
  intro f fn hf hb args w
  have h1 : (!(fn.name == "runtime.NumGoroutine")) = true := by
    obtain ⟨hi, rfl⟩ := Array.getElem?_eq_some_iff.1 hf
    exact (Array.all_eq_true.1 h) f hi
  have h2 : (fn.name == "runtime.NumGoroutine") = false := by simpa using h1
  have h3 : ¬ fn.name = "runtime.NumGoroutine" := by simpa using h2
  have h4 : ¬ fn.body = none := by
    intro e; rw [e] at hb; cases hb
  simp [callFunc, hf, h3, h4]

/-- The one loop of that number. -/
def bodyAt (P : Program) (f key : Nat) : Code := match loopAt P f key with
  | [b] => b
  | _ => .skip
def isOne (P : Program) (f key : Nat) : Bool := match loopAt P f key with
  | [_] => true
  | _ => false
theorem bodyAt_eq {P : Program} {f key : Nat} (h : isOne P f key = true) {fn : Func} {c b : Code} (hf : P.funcs[f]? = some fn) (hc : fn.body = some c) (hb : b ∈ loopsOf c) (hk : loopKey b = key) : b = bodyAt P f key := by
  unfold isOne at h
  split at h
  · rename_i b0 h0
    have := loopAt_one h0 hf hc hb hk
    simp only [bodyAt, h0, this]
  · cases h

def exitP (S : LoopSpec) : Nat → TM → HS → SubL := fun j tm hs => match S.Xs[j]? with
  | some (_, X, _) => findP X tm hs
  | none => ⟨[], [], []⟩
/-- Exits by how they end. -/
def exitNo (S : LoopSpec) (o : Out) : Nat := go S.Xs 0
where go : List (Out × Pat × Nat) → Nat → Nat
  | [], n => n
  | (o', _, _) :: l, n => match sameOut o' o with
    | true => n
    | false => go l (n + 1)
def leafS (S : LoopSpec) : Out → TM → HS → PC → Tr Leaf := leafK S (findP S.H) (exitP S) (exitNo S)
def loopS {α : Type} (S : LoopSpec) : LoopFn α := loopK S (findP S.H)
end Go.Sx
