/- WholeLabels: the law's loop: facts. -/
import Derived.Test.YtkgmobbbcigcjaaGreatDoorLLeaf3
namespace Go.Sx.L
set_option linter.unusedVariables false
open Go Go.Sx

theorem main_vals (ρ : Rho) : mainS.vals ρ = [ρ.sv 0, ρ.sv 1, ρ.sv 2, ρ.sv 4, ρ.sv 5, ρ.sv 6, ρ.sv 7, ρ.sv 8, ρ.sv 9, ρ.sv 10, ρ.sv 11, ρ.sv 12] := rfl
theorem main_args : mainS.args = [0, 1, 2, 4, 5, 6, 7, 8, 9, 10, 11, 12] := rfl

theorem letL_len (k : Int) : ∀ (n : Nat) (i : Int) (l : List UInt8), (letL k n i l).length ≤ l.length + n
  | 0, _, l => by simp [letL]
  | n + 1, i, l => by
    rw [letL]
    have := letL_len k n (i + 1) (if bit k i then l ++ [UInt8.ofNat (97 + i).toNat] else l)
    refine Nat.le_trans this ?_
    split
    · simp; omega
    · omega
theorem textL_len (k : Int) : (textL k).length ≤ 8 := by
  unfold textL
  split
  · simp
  · have := letL_len k 8 0 []
    simpa using this
theorem textL_ne {k : Int} (h0 : 0 ≤ k) (h1 : k < 256) : textL k ≠ [] := by
  unfold textL
  split
  · simp
  · exact (let_of (by omega) h1).1
theorem psF_text {k : Int} (h0 : 0 ≤ k) (h1 : k < 256) : psF (textL k) = (k, 0) := by
  by_cases e : k = 0
  · subst e; rfl
  · have hp := let_of (by omega) h1
    rw [textL, if_neg e, psF, if_neg hp.2.2.1, hp.2.2.2]
    simp only [if_neg e]
theorem text_pop {k : Int} (h0 : 0 ≤ k) (h1 : k < 256) (e : k ≠ 0) : ((textL k).length : Int) = pop k := by
  rw [textL, if_neg e]
  exact let_pop h0 h1
theorem extract_last (l : List UInt8) (h : l ≠ []) : ((bs l).extract (l.length - 1) l.length).data.toList = [l.getLast h] := by
  rw [ByteArray.data_extract, Array.toList_extract]
  simp only [bs, List.extract_eq_take_drop]
  have hl : 0 < l.length := List.length_pos_iff.2 h
  have e : l.length - (l.length - 1) = 1 := by omega
  rw [e, List.drop_eq_getElem_cons (by omega)]
  rw [List.take_succ_cons, List.take_zero, List.getLast_eq_getElem]

section
variable {ρ : Rho} (hf : ρ.fn = fn)
include hf
theorem m_e1 (h0 : 0 ≤ mainE0.den ρ) (h1 : mainE0.den ρ < 256) : (BE.is mainE1).den ρ = true := by
  rw [den_is, mainE1, den_app, hf]
  exact (fn_inv (b := 10) (by omega) [mainE0.sv ρ]).2 ⟨h0, h1⟩
theorem m_e3 : mainE3.sv ρ = .ofS (bs (textL (mainE0.den ρ))) := by
  rw [mainE3, sv_app, hf]
  exact fn_outs (b := 10) (by omega) 0 [mainE0.sv ρ]
theorem m_e5 : (BE.is mainE5).den ρ = true := by
  rw [den_is, mainE5, den_app, hf]
  refine (fn_inv (b := 11) (by omega) [mainE3.sv ρ]).2 ?_
  show (mainE3.sv ρ).s.size ≤ 1000
  rw [m_e3 hf, ofS_s, bs_size]
  have := textL_len (mainE0.den ρ)
  omega
theorem m_e9 (h0 : 0 ≤ mainE0.den ρ) (h1 : mainE0.den ρ < 256) : mainE9.den ρ = 0 := by
  have : fn 267 [mainE3.sv ρ] = .ofI (psF (mainE3.sv ρ).s.data.toList).2 := fn_outs (b := 11) (by omega) 1 [mainE3.sv ρ]
  rw [mainE9, den_app, hf]
  simp only [IE.svs]
  rw [this, m_e3 hf, ofS_s, bs_toList, psF_text h0 h1]
  rfl
theorem m_e8 (h0 : 0 ≤ mainE0.den ρ) (h1 : mainE0.den ρ < 256) : mainE8.den ρ = mainE0.den ρ := by
  have : fn 139 [mainE3.sv ρ] = .ofI (psF (mainE3.sv ρ).s.data.toList).1 := fn_outs (b := 11) (by omega) 0 [mainE3.sv ρ]
  rw [mainE8, den_app, hf]
  simp only [IE.svs]
  rw [this, m_e3 hf, ofS_s, bs_toList, psF_text h0 h1]
  rfl
theorem m_e2 : mainE2.den ρ = if okN (mainE0.den ρ) then pop (mainE0.den ρ) else -1 := by
  have : fn 140 [mainE0.sv ρ] = .ofI (if okN (mainE0.sv ρ).i then pop (mainE0.sv ρ).i else -1) := fn_outs (b := 12) (by omega) 0 [mainE0.sv ρ]
  rw [mainE2, den_app, hf]
  simp only [IE.svs]
  rw [this]
  rfl
theorem m_e10 : mainE10.den ρ = (textL (mainE0.den ρ)).length := by
  rw [mainE10, den_slen, m_e3 hf, ofS_s, bs_size]
theorem m_e12 : mainE12.den ρ = (textL (mainE0.den ρ)).length - 1 := by
  have := textL_len (mainE0.den ρ)
  rw [mainE12, den_bin, m_e10 hf, den_lit, sub64 (by omega) (by omega)]
theorem m_e16 (h0 : 0 ≤ mainE0.den ρ) (h1 : mainE0.den ρ < 256) : (BE.seq mainE16 (.str ⟨#[45]⟩)).den ρ = decide (mainE0.den ρ = 0) := by
  have hne := textL_ne h0 h1
  have hlen : 0 < (textL (mainE0.den ρ)).length := List.length_pos_iff.2 hne
  have hs : (mainE16.sv ρ).s = (bs (textL (mainE0.den ρ))).extract ((textL (mainE0.den ρ)).length - 1) (textL (mainE0.den ρ)).length := by
    rw [mainE16, sv_ssub, ofS_s, m_e3 hf, ofS_s, m_e12 hf, m_e10 hf]
    congr 1
    omega
  have hx := extract_last _ hne
  by_cases e : mainE0.den ρ = 0
  · rw [decide_eq_true e, den_seq, hs, e]
    have : (bs (textL 0)).extract ((textL 0).length - 1) (textL 0).length = bs [45] := by decide +kernel
    rw [this]; rfl
  · rw [decide_eq_false e, den_seq', hs]
    intro h
    rw [h] at hx
    have h3 := (let_of (k := mainE0.den ρ) (by omega) h1).2.1
    have ht : textL (mainE0.den ρ) = letL (mainE0.den ρ) 8 0 [] := by rw [textL, if_neg e]
    rw [← ht, List.getLast?_eq_some_getLast hne] at h3
    have : [45] = [(textL (mainE0.den ρ)).getLast hne] := hx
    injection this with this
    exact h3 (by rw [← this])
theorem m_e15 (h : mainE0.den ρ = 0) : mainE15.den ρ = 0 := by
  rw [mainE15, den_slen, sv_ssub, ofS_s, m_e3 hf, ofS_s, m_e12 hf, h, den_lit]
  decide +kernel
theorem m_b2_15 (h0 : 0 ≤ mainE0.den ρ) (h1 : mainE0.den ρ < 256) (hs : (BE.seq mainE16 (.str ⟨#[45]⟩)).den ρ = true) : (BE.not (.cmp .eql mainE2 mainE15)).den ρ = false := by
  rw [m_e16 hf h0 h1] at hs
  have hz := of_decide_eq_true hs
  rw [den_not', den_eql, m_e2 hf, m_e15 hf hz, hz]
  decide +kernel
theorem m_b2_10 (h0 : 0 ≤ mainE0.den ρ) (h1 : mainE0.den ρ < 256) (hs : (BE.seq mainE16 (.str ⟨#[45]⟩)).den ρ = false) : (BE.not (.cmp .eql mainE2 mainE10)).den ρ = false := by
  rw [m_e16 hf h0 h1] at hs
  have hz := of_decide_eq_false hs
  rw [den_not', den_eql, m_e2 hf, m_e10 hf, okN_t h0 h1, text_pop h0 h1 hz]
  rfl
theorem m_b10_1 (h0 : 0 ≤ mainE0.den ρ) (h1 : mainE0.den ρ < 256) : (BE.not (.cmp .lss mainE10 (.lit 1))).den ρ = true := by
  have hlen : 0 < (textL (mainE0.den ρ)).length := List.length_pos_iff.2 (textL_ne h0 h1)
  rw [den_not, den_lss', m_e10 hf, den_lit]; omega
theorem m_b12 (h0 : 0 ≤ mainE0.den ρ) (h1 : mainE0.den ρ < 256) : (BE.cmp .lss mainE12 (.lit 0)).den ρ = false := by
  have hlen : 0 < (textL (mainE0.den ρ)).length := List.length_pos_iff.2 (textL_ne h0 h1)
  rw [den_lss', m_e12 hf, den_lit]; omega
theorem m_b10_12 : (BE.not (.cmp .lss mainE10 mainE12)).den ρ = true := by
  rw [den_not, den_lss', m_e12 hf, m_e10 hf]; omega
theorem m_b9 (h0 : 0 ≤ mainE0.den ρ) (h1 : mainE0.den ρ < 256) : (BE.not (.cmp .eql mainE9 (.lit 0))).den ρ = false := by
  rw [den_not', den_eql, m_e9 hf h0 h1]; rfl
theorem m_b8 (h0 : 0 ≤ mainE0.den ρ) (h1 : mainE0.den ρ < 256) : (BE.not (.cmp .eql mainE8 mainE0)).den ρ = false := by
  rw [den_not', den_eql, m_e8 hf h0 h1]
theorem m_out (h : mainE0.den ρ < 0 ∨ 256 ≤ mainE0.den ρ) : (BE.not (.cmp .eql mainE2 (.lit (-1)))).den ρ = false := by
  rw [den_not', den_eql, m_e2 hf, okN_f h]; rfl
end
theorem m_valid {ρ : Rho} (h0 : 0 ≤ mainE0.den ρ) (h1 : mainE0.den ρ < 256) (n0 : 0 ≤ (ρ.sv 5).i) (n1 : (ρ.sv 5).i < 9) :
    (BE.not (.iff (.cmp .eql mainE4 (.lit 0)) (.cmp .lss mainE0 (.bin .shl .i64 (.lit 1) (.at 5))))).den ρ = false := by
  rw [den_not', den_iff, den_eql, den_lss, mainE4, den_bin, den_bin, den_at, den_lit, den_lit]
  have := valid_facts ⟨(mainE0.den ρ).toNat, by omega⟩ ⟨(ρ.sv 5).i.toNat, by omega⟩
  have e1 : (((mainE0.den ρ).toNat : Nat) : Int) = mainE0.den ρ := by omega
  have e2 : (((ρ.sv 5).i.toNat : Nat) : Int) = (ρ.sv 5).i := by omega
  simp only [e1, e2] at this
  exact this
end Go.Sx.L
