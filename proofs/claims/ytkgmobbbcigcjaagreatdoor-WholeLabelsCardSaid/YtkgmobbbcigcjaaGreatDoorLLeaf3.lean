/- WholeLabels: functions. -/
import Derived.Test.YtkgmobbbcigcjaaGreatDoorLLeaf2
namespace Go.Sx.L
set_option linter.unusedVariables false
open Go Go.Sx

theorem bytL_letL (k : Int) : ∀ (n : Nat) (i : Int) (l : List SV), (bytL k n i l).map (fun e => UInt8.ofNat e.i.toNat) = letL k n i (l.map fun e => UInt8.ofNat e.i.toNat)
  | 0, _, _ => rfl
  | n + 1, i, l => by
    rw [bytL, letL, bytL_letL k n]
    congr 1
    split
    · simp [ofI_i]
    · rfl

theorem let_of {k : Int} (h0 : 0 < k) (h1 : k < 256) : letL k 8 0 [] ≠ [] ∧ (letL k 8 0 []).getLast? ≠ some 45 ∧ letL k 8 0 [] ≠ [45] ∧ parL (letL k 8 0 []) 0 = some k := by
  have := (let_facts ⟨k.toNat, by omega⟩).1 (by simp only; omega)
  have e : ((k.toNat : Nat) : Int) = k := by omega
  simp only [e] at this
  exact this
theorem let_zero : letL 0 8 0 [] = [] := (let_facts ⟨0, by omega⟩).2.1
theorem let_pop {k : Int} (h0 : 0 ≤ k) (h1 : k < 256) : ((letL k 8 0 []).length : Int) = pop k := by
  have := (let_facts ⟨k.toNat, by omega⟩).2.2
  have e : ((k.toNat : Nat) : Int) = k := by omega
  simp only [e] at this
  exact this

theorem fn_inv {b : Nat} (hb : b < 64) (vs : List SV) : (fn b vs).i ≠ 0 ↔ (does b).Inv vs := fnOf_inv does hb vs
theorem fn_kind {b : Nat} (hb : b < 64) (j : Nat) (vs : List SV) : (fn (b + 64 * (1 + 2 * j)) vs).i ≠ 0 ↔ ((does b).R vs).1 = j := fnOf_kind does hb j vs
theorem fn_outs {b : Nat} (hb : b < 64) (i : Nat) (vs : List SV) : fn (b + 64 * (2 + 2 * i)) vs = ((does b).R vs).2 i := fnOf_outs does hb i vs

theorem txt_vals (ρ : Rho) : txtS.vals ρ = [ρ.sv 0] := rfl
theorem law_vals (ρ : Rho) : lawS.vals ρ = [ρ.sv 0] := rfl
theorem ps_vals (ρ : Rho) : psS.vals ρ = [ρ.sv 0] := rfl
theorem ct_vals (ρ : Rho) : ctS.vals ρ = [ρ.sv 0] := rfl

theorem byt0 (k : SV) : bytInv [k, .ofL [], .ofI 0, .ofI 0, .ofI 0, .ofI 0] := ⟨rfl, rfl, rfl, rfl, 0, rfl, by omega, by simp [ofL_l]⟩
theorem byt0_R (k : SV) : bytR [k, .ofL [], .ofI 0, .ofI 0, .ofI 0, .ofI 0] = (0, rowX (bytL k.i 8 0 [])) := rfl
theorem let0 (k : SV) : letInv [k, .ofS (bs []), .ofI 0] := ⟨rfl, 0, rfl, by omega, by decide⟩
theorem let0_R (k : SV) : (letR [k, .ofS (bs []), .ofI 0]).2 0 = .ofS (bs (letL k.i 8 0 [])) := rfl

theorem one_out {S : LoopSpec} {Inv : List SV → Prop} {R : List SV → Nat × (Nat → SV)} {μ : List SV → Nat} {ρ : Rho} {e : IE} {v : SV} (hR : R (S.vals ρ) = (0, fun j => if j = 0 then v else .nul)) (he : e.sv ρ = v) :
    LeafOK S Inv R μ ρ (some 0, [(0, e)]) := by
  rw [leaf_exit, hR]
  refine ⟨rfl, fun j => ?_⟩
  rw [svOf_look]
  by_cases h : j = 0
  · subst h; simp only [look, if_true]; exact he
  · simp only [look, if_neg h]

theorem txt_leaves (ρ : Rho) (hf : ρ.fn = fn) (hI : txtInv (txtS.vals ρ)) : txtT.holds ρ (LeafOK txtS txtInv txtR foldMu ρ) := by
  rw [txt_vals] at hI
  have hR : txtR (txtS.vals ρ) = (0, fun j => if j = 0 then .ofS (bs (textL (ρ.sv 0).i)) else .nul) := rfl
  simp only [txtInv] at hI
  obtain ⟨h0, h1⟩ := hI
  simp only [txtT, holds_br, holds_bad, holds_leaf, den_lss, den_lss', den_not, den_not', den_eql, den_eql', den_at, den_lit, den_is, den_is', den_app, IE.svs, sv_at, sv_lit, sv_row0, hf]
  refine ⟨fun a1 => ⟨fun a2 => by omega, fun a2 => ⟨fun a3 => ?_, fun a3 => ⟨fun _ => ?_, fun a4 => ?_⟩⟩⟩, fun a1 => by omega⟩
  · exact one_out hR (by rw [sv_str, textL, if_pos a3]; rfl)
  · refine one_out hR ?_
    have e0 : fn 135 [ρ.sv 0, .ofL [], .ofI 0, .ofI 0, .ofI 0, .ofI 0] = .ofL (bytL (ρ.sv 0).i 8 0 []) := fn_outs (b := 7) (by omega) 0 _
    have e1 : fn 263 [ρ.sv 0, .ofL [], .ofI 0, .ofI 0, .ofI 0, .ofI 0] = .ofI 0 := fn_outs (b := 7) (by omega) 1 _
    have e2 : fn 391 [ρ.sv 0, .ofL [], .ofI 0, .ofI 0, .ofI 0, .ofI 0] = .ofI (bytL (ρ.sv 0).i 8 0 []).length := fn_outs (b := 7) (by omega) 2 _
    simp only [IE.sv, IE.svs, IE.den, Prim.den, hf]
    rw [show SV.ofL ([] : List SV) = SV.ofL [] from rfl, e0, e1, e2]
    simp only [ofI_i, ofL_l, Int.toNat_zero, List.drop_zero, Int.toNat_natCast, List.take_length]
    rw [textL, if_neg a3, bytL_letL]
    rfl
  · exact absurd ((fn_inv (b := 7) (by omega) [ρ.sv 0, .ofL [], .ofI 0, .ofI 0, .ofI 0, .ofI 0]).2 (byt0 (ρ.sv 0))) (by rw [a4]; simp)

theorem law_leaves (ρ : Rho) (hf : ρ.fn = fn) (hI : txtInv (lawS.vals ρ)) : lawT.holds ρ (LeafOK lawS txtInv txtR foldMu ρ) := by
  rw [law_vals] at hI
  have hR : txtR (lawS.vals ρ) = (0, fun j => if j = 0 then .ofS (bs (textL (ρ.sv 0).i)) else .nul) := rfl
  simp only [txtInv] at hI
  obtain ⟨h0, h1⟩ := hI
  have hn : (⟨#[]⟩ : ByteArray) = bs [] := rfl
  simp only [lawT, lawE0, holds_br, holds_bad, holds_leaf, den_seq, den_seq', den_is, den_is', den_app, IE.svs, sv_at, sv_app, sv_lit, sv_str, hf, hn, ofS_s]
  have e0 : fn 134 [ρ.sv 0, .ofS (bs []), .ofI 0] = .ofS (bs (letL (ρ.sv 0).i 8 0 [])) := fn_outs (b := 6) (by omega) 0 _
  rw [e0]
  simp only [ofS_s]
  refine ⟨fun _ => ⟨fun a2 => ?_, fun a2 => ?_⟩, fun a1 => ?_⟩
  · refine one_out hR ?_
    rw [sv_str, textL, if_pos]
    · rfl
    · rcases Int.lt_or_eq_of_le h0 with h | h
      · exfalso
        refine (let_of h h1).1 ?_
        rw [← bs_toList (letL (ρ.sv 0).i 8 0 []), a2]
        rfl
      · exact h.symm
  · refine one_out hR ?_
    rw [sv_app, hf]
    simp only [IE.svs, sv_at, sv_str, sv_lit, hn]
    rw [e0, textL, if_neg]
    intro e
    rw [e, let_zero] at a2
    exact a2 rfl
  · exact absurd ((fn_inv (b := 6) (by omega) [ρ.sv 0, .ofS (bs []), .ofI 0]).2 (let0 (ρ.sv 0))) (by rw [a1]; simp)

theorem ps_leaves (ρ : Rho) (hf : ρ.fn = fn) (hI : psInv (psS.vals ρ)) : psT.holds ρ (LeafOK psS psInv psR foldMu ρ) := by
  rw [ps_vals] at hI
  have hR : psR (psS.vals ρ) = (0, fun j => if j = 0 then .ofI (psF (ρ.sv 0).s.data.toList).1 else if j = 1 then .ofI (psF (ρ.sv 0).s.data.toList).2 else .nul) := rfl
  have hI : (ρ.sv 0).s.size ≤ 1000 := hI
  have fin : ∀ (v e : IE) (p : Int × Int), psF (ρ.sv 0).s.data.toList = p → v.sv ρ = .ofI p.1 → e.sv ρ = .ofI p.2 → LeafOK psS psInv psR foldMu ρ (some 0, [(1, e), (0, v)]) := by
    intro v e p hp hv he
    rw [leaf_exit, hR]
    refine ⟨rfl, fun j => ?_⟩
    rw [svOf_look, hp]
    match j with
    | 0 => simp only [look, if_true, Nat.reduceEqDiff, if_false]; exact hv
    | 1 => simp only [look, if_true, Nat.reduceEqDiff, if_false]; exact he
    | j + 2 => simp [look]
  have hcall : parInv [ρ.sv 0, .ofI 0, .ofI 0, .ofI (ρ.sv 0).s.size] := ⟨⟨0, rfl⟩, rfl, hI, 0, rfl, by omega⟩
  have hout : parR [ρ.sv 0, .ofI 0, .ofI 0, .ofI (ρ.sv 0).s.size] = match parL (ρ.sv 0).s.data.toList 0 with
      | some v => (0, fun j => if j = 0 then .ofI v else .nul)
      | none => (1, fun _ => .nul) := rfl
  simp only [psT, psE0, holds_br, holds_bad, holds_leaf, den_seq, den_seq', den_is, den_is', den_eql, den_eql', den_lit, den_app, IE.svs, sv_at, sv_app, sv_lit, sv_str, sv_slen, hf, ofS_s]
  have hk : (fn 72 [ρ.sv 0, .ofI 0, .ofI 0, .ofI (ρ.sv 0).s.size]).i ≠ 0 ↔ (parR [ρ.sv 0, .ofI 0, .ofI 0, .ofI (ρ.sv 0).s.size]).1 = 0 := fn_kind (b := 8) (by omega) 0 _
  have ho : fn 136 [ρ.sv 0, .ofI 0, .ofI 0, .ofI (ρ.sv 0).s.size] = (parR [ρ.sv 0, .ofI 0, .ofI 0, .ofI (ρ.sv 0).s.size]).2 0 := fn_outs (b := 8) (by omega) 0 _
  have hne : ¬ (ρ.sv 0).s = ⟨#[45]⟩ → ¬ (ρ.sv 0).s.data.toList = [45] := by
    intro h e
    exact h (by rw [← bs_of (ρ.sv 0).s, e]; rfl)
  refine ⟨fun a1 => ?_, fun a1 => ⟨fun _ => ⟨fun a3 => ⟨fun a4 => ?_, fun a4 => ?_⟩, fun a3 => ?_⟩, fun a2 => ?_⟩⟩
  · refine fin _ _ (0, 0) ?_ rfl rfl
    rw [a1]; rfl
  · rw [hk, hout] at a3
    rw [ho, hout] at a4
    cases hp : parL (ρ.sv 0).s.data.toList 0 with
    | none => rw [hp] at a3; exact absurd a3 (by simp)
    | some v =>
      rw [hp] at a4
      have a4 : v = 0 := a4
      refine fin _ _ (0, 6) ?_ rfl rfl
      rw [psF, if_neg (hne a1), hp]
      simp only [if_pos a4]
  · rw [hk, hout] at a3
    rw [ho, hout] at a4
    cases hp : parL (ρ.sv 0).s.data.toList 0 with
    | none => rw [hp] at a3; exact absurd a3 (by simp)
    | some v =>
      rw [hp] at a4
      have a4 : ¬ v = 0 := a4
      refine fin _ _ (v, 0) ?_ ?_ rfl
      · rw [psF, if_neg (hne a1), hp]
        simp only [if_neg a4]
      · rw [sv_app, hf]
        simp only [IE.svs, sv_at, sv_lit, sv_slen]
        rw [ho, hout, hp]
        rfl
  · have a3 : ¬ (parR [ρ.sv 0, .ofI 0, .ofI 0, .ofI (ρ.sv 0).s.size]).1 = 0 := fun e => absurd (hk.2 e) (by rw [a3]; simp)
    rw [hout] at a3
    cases hp : parL (ρ.sv 0).s.data.toList 0 with
    | none =>
      refine fin _ _ (0, 6) ?_ rfl rfl
      rw [psF, if_neg (hne a1), hp]
    | some v => rw [hp] at a3; exact absurd rfl a3
  · exact absurd ((fn_inv (b := 8) (by omega) [ρ.sv 0, .ofI 0, .ofI 0, .ofI (ρ.sv 0).s.size]).2 hcall) (by rw [a2]; simp)

theorem ct_leaves (ρ : Rho) (hf : ρ.fn = fn) : ctT.holds ρ (LeafOK ctS (fun _ => True) ctR foldMu ρ) := by
  have hR : ctR (ctS.vals ρ) = (0, fun j => if j = 0 then .ofI (if okN (ρ.sv 0).i then pop (ρ.sv 0).i else -1) else .nul) := rfl
  simp only [ctT, holds_br, holds_bad, holds_leaf, den_lss, den_lss', den_not, den_not', den_at, den_lit, den_is, den_is', den_app, IE.svs, sv_at, sv_lit, hf]
  refine ⟨fun a1 => ⟨fun a2 => ?_, fun a2 => ⟨fun _ => ?_, fun a3 => ?_⟩⟩, fun a1 => ?_⟩
  · exact one_out hR (by rw [okN_f (.inr a2)]; rfl)
  · refine one_out hR ?_
    rw [sv_app, hf, okN_t a1 a2]
    have e : fn 137 [ρ.sv 0, .ofI 0] = .ofI (0 + pop (ρ.sv 0).i) := fn_outs (b := 9) (by omega) 0 _
    simp only [IE.svs, sv_at, sv_lit]
    rw [e, Int.zero_add]
    rfl
  · exact absurd ((fn_inv (b := 9) (by omega) [ρ.sv 0, .ofI 0]).2 (show cntInv [ρ.sv 0, .ofI 0] from ⟨a1, a2, rfl, by simp [ofI_i], by simp only [ofI_i]; omega⟩)) (by rw [a3]; simp)
  · exact one_out hR (by rw [okN_f (.inl a1)]; rfl)
end Go.Sx.L
