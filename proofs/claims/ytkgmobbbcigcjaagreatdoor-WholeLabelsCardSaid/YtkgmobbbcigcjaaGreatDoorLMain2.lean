/- WholeLabels: the law's loop (the walk over the tree is printed by a program of this session). -/
import Derived.Test.YtkgmobbbcigcjaaGreatDoorLMain1
namespace Go.Sx.L
set_option linter.unusedVariables false
open Go Go.Sx

theorem br_T {ρ : Rho} {α : Type} {Ψ : α → Prop} {b : BE} {t f : Tr α} (h : b.den ρ = true) (ht : t.holds ρ Ψ) : (Tr.br b t f).holds ρ Ψ :=
  ⟨fun _ => ht, fun e => by rw [h] at e; cases e⟩
theorem br_F {ρ : Rho} {α : Type} {Ψ : α → Prop} {b : BE} {t f : Tr α} (h : b.den ρ = false) (hf : f.holds ρ Ψ) : (Tr.br b t f).holds ρ Ψ :=
  ⟨fun e => (by rw [h] at e; cases e), fun _ => hf⟩

theorem wrap64_small {x : Int} (h0 : -32768 ≤ x) (h1 : x ≤ 32767) : IntKind.i64.wrap x = x := by
  unfold IntKind.wrap; simp [IntKind.signed, IntKind.bits]; omega
theorem take_succ' {q : List SV} {n : Nat} (h : n < q.length) : q.take (n + 1) = q.take n ++ [q.getD n .nul] := by
  rw [List.take_succ_eq_append_getElem h]
  congr 2
  simp [List.getD, List.getElem?_eq_getElem h]

def againL (is : IE) : Leaf := (none, [(6, mainE13), (0, (.at 0)), (4, (.bin .add .i64 (.at 4) (.lit 1))), (3, (.at 3)), (2, (.at 2)), (1, (.at 1)), (12, is), (11, mainE7), (10, mainE6), (9, (.prim .plus [(.at 8), (.lit 1)])), (8, (.prim .plus [(.at 8), (.lit 1)])), (7, (.lit 0)), (5, (.at 5))])

theorem main_again (ρ : Rho) {n : Nat} {q : SV} (h0 : ρ.sv 0 = q) (h1 : ρ.sv 1 = .ofI 0) (h2 : ρ.sv 2 = .ofI q.l.length) (hq10 : q.l.length ≤ 10) (hqr : ∀ e ∈ q.l, -32768 ≤ e.i ∧ e.i ≤ 32767)
    (hn1 : -1 ≤ (ρ.sv 5).i) (hn2 : (ρ.sv 5).i ≤ 10) (h4 : ρ.sv 4 = .ofI (n : Int)) (hn : n < q.l.length) (h6 : ρ.sv 6 = .ofL (ints (q.l.take n))) (h7 : ρ.sv 7 = .ofI 0) (h8 : ρ.sv 8 = .ofI (n : Int)) (h9 : ρ.sv 9 = .ofI (n : Int))
    (h10 : ρ.sv 10 = (q.l.take n).foldl (fun a x => .ofI (intBin .or .i64 a.i x.i)) (.ofI 0)) (h11 : ρ.sv 11 = (q.l.take n).foldl (fun a x => .ofI (intBin .and .i64 a.i x.i)) (.ofI 255))
    (is : IE) (his : is.sv ρ = .ofI (if ((q.l.take (n + 1)).all fun x => okN x.i) then 1 else 0)) : LeafOK mainS mainInv mainR mainMu ρ (againL is) := by
  have hx : mainE0.den ρ = (q.l.getD n .nul).i := by
    rw [mainE0, den_conv, den_sel, den_plus, den_at, den_at, sv_at, h0, h1, h4, ofI_i, ofI_i, Int.zero_add, Int.toNat_natCast]
    have : q.l.getD n .nul ∈ q.l := by
      simp [List.getD, List.getElem?_eq_getElem hn]
    exact wrap64_small (hqr _ this).1 (hqr _ this).2
  have hadd : intBin .add .i64 (n : Int) 1 = ((n + 1 : Nat) : Int) := by rw [add64 (by omega) (by omega)]; omega
  have hpl : ((n : Int) + 1) = ((n + 1 : Nat) : Int) := by omega
  have e6 : mainE13.sv ρ = .ofL (ints (q.l.take (n + 1))) := by
    rw [mainE13, sv_cat1, sv_at, h6, den_at, den_at, h7, h8, ofL_l, ofI_i, ofI_i, Int.toNat_zero, Int.toNat_natCast, List.drop_zero, take_succ' hn]
    have hm : mainE0.sv ρ = .ofI (q.l.getD n .nul).i := by rw [← hx]; rfl
    rw [hm, ints, ints, List.map_append]
    have hl : (List.map (fun e : SV => SV.ofI e.i) (q.l.take n)).length = n := by simp; omega
    rw [List.take_of_length_le (by omega)]
    rfl
  have e10 : mainE6.sv ρ = (q.l.take (n + 1)).foldl (fun a x => .ofI (intBin .or .i64 a.i x.i)) (.ofI 0) := by
    rw [take_succ' hn, List.foldl_append, ← h10, mainE6, sv_bin, hx]
    rfl
  have e11 : mainE7.sv ρ = (q.l.take (n + 1)).foldl (fun a x => .ofI (intBin .and .i64 a.i x.i)) (.ofI 255) := by
    rw [take_succ' hn, List.foldl_append, ← h11, mainE7, sv_bin, hx]
    rfl
  have hvals : mainS.vals ρ = [q, .ofI 0, .ofI q.l.length, .ofI n, ρ.sv 5, .ofL (ints (q.l.take n)), .ofI 0, .ofI n, .ofI n, ρ.sv 10, ρ.sv 11, ρ.sv 12] := by
    rw [main_vals, h0, h1, h2, h4, h6, h7, h8, h9]
  have hnew : mainS.args.map (svOf ρ (againL is).2) = [q, .ofI 0, .ofI q.l.length, .ofI ((n + 1 : Nat) : Int), ρ.sv 5, .ofL (ints (q.l.take (n + 1))), .ofI 0, .ofI ((n + 1 : Nat) : Int), .ofI ((n + 1 : Nat) : Int), (q.l.take (n + 1)).foldl (fun a x => .ofI (intBin .or .i64 a.i x.i)) (.ofI 0), (q.l.take (n + 1)).foldl (fun a x => .ofI (intBin .and .i64 a.i x.i)) (.ofI 255), .ofI (if ((q.l.take (n + 1)).all fun x => okN x.i) then 1 else 0)] := by
    simp only [main_args, againL, List.map_cons, List.map_nil, svOf_look, look, if_true, reduceCtorEq, Nat.reduceEqDiff, if_false, sv_at, sv_lit, sv_plus, sv_bin, den_at, den_lit]
    rw [e6, e10, e11, his, h0, h1, h2, h4, h8, ofI_i, hadd, hpl]
  show mainInv (mainS.args.map (svOf ρ (againL is).2)) ∧ mainMu (mainS.args.map (svOf ρ (againL is).2)) < mainMu (mainS.vals ρ) ∧ mainR (mainS.args.map (svOf ρ (againL is).2)) = mainR (mainS.vals ρ)
  rw [hvals, hnew]
  refine ⟨⟨rfl, rfl, hq10, hqr, hn1, hn2, n + 1, hn, rfl, rfl, rfl, rfl, rfl, rfl, rfl, rfl⟩, ?_, rfl⟩
  simp only [mainMu, ofI_i]
  omega

theorem main_leaves (ρ : Rho) (hf : ρ.fn = fn) (hI : mainInv (mainS.vals ρ)) : mainT.holds ρ (LeafOK mainS mainInv mainR mainMu ρ) := by
  rw [main_vals] at hI
  obtain ⟨h1, h2, hq10, hqr, hn1, hn2, n, hnl, h4, h6, h7, h8, h9, h10, h11, h12⟩ := hI
  have hi : (ρ.sv 4).i = n := by rw [h4]; rfl
  have hl : (ρ.sv 2).i = (ρ.sv 0).l.length := by rw [h2]; rfl
  have h8i : (ρ.sv 8).i = n := by rw [h8]; rfl
  have hxv : n < (ρ.sv 0).l.length → mainE0.den ρ = ((ρ.sv 0).l.getD n .nul).i := by
    intro hn
    rw [mainE0, den_conv, den_sel, den_plus, den_at, den_at, sv_at, h1, h4, ofI_i, ofI_i, Int.zero_add, Int.toNat_natCast]
    have : (ρ.sv 0).l.getD n .nul ∈ (ρ.sv 0).l := by
      simp [List.getD, List.getElem?_eq_getElem hn]
    exact wrap64_small (hqr _ this).1 (hqr _ this).2
  have b_i0 : (BE.cmp .lss (.at 4) (.lit 0)).den ρ = false := by rw [den_lss', den_at, den_lit]; omega
  have b_cap : n < (ρ.sv 0).l.length → (BE.cmp .lss (.prim .plus [(.at 8), (.lit 1)]) (.lit 116509)).den ρ = true := by intro _; rw [den_lss, den_plus, den_at, den_lit, den_lit]; omega
  have b_one : (BE.not (.cmp .lss (.prim .plus [(.at 8), (.lit 1)]) (.lit 1))).den ρ = true := by rw [den_not, den_lss', den_plus, den_at, den_lit]; omega
  have c_i : ((BE.cmp .lss (.at 4) (.at 2)).den ρ = true → n < (ρ.sv 0).l.length) ∧ ((BE.cmp .lss (.at 4) (.at 2)).den ρ = false → (ρ.sv 0).l.length ≤ n) := by
    rw [den_lss, den_lss', den_at, den_at]; omega
  have c_x0 : ((BE.not (.cmp .lss mainE0 (.lit 0))).den ρ = true → 0 ≤ mainE0.den ρ) ∧ ((BE.not (.cmp .lss mainE0 (.lit 0))).den ρ = false → mainE0.den ρ < 0) := by
    rw [den_not, den_not', den_lss, den_lss', den_lit]; exact ⟨id, id⟩
  have c_x1 : ((BE.cmp .lss mainE0 (.lit 256)).den ρ = true → mainE0.den ρ < 256) ∧ ((BE.cmp .lss mainE0 (.lit 256)).den ρ = false → 256 ≤ mainE0.den ρ) := by
    rw [den_lss, den_lss', den_lit]; exact ⟨id, id⟩
  have c_x1n : ((BE.not (.cmp .lss mainE0 (.lit 256))).den ρ = true → 256 ≤ mainE0.den ρ) ∧ ((BE.not (.cmp .lss mainE0 (.lit 256))).den ρ = false → mainE0.den ρ < 256) := by
    rw [den_not, den_not', den_lss, den_lss', den_lit]; exact ⟨id, id⟩
  have c_is : ((BE.is (.at 12)).den ρ = true → ((ρ.sv 0).l.take n).all (fun x => okN x.i) = true) ∧ ((BE.is (.at 12)).den ρ = false → ((ρ.sv 0).l.take n).all (fun x => okN x.i) = false) := by
    rw [den_is, den_is', den_at, h12]
    cases ((ρ.sv 0).l.take n).all (fun x => okN x.i) <;> simp [ofI_i]
  have c_n0 : ((BE.cmp .lss (.at 5) (.lit 0)).den ρ = true → (ρ.sv 5).i < 0) ∧ ((BE.cmp .lss (.at 5) (.lit 0)).den ρ = false → 0 ≤ (ρ.sv 5).i) := by
    rw [den_lss, den_lss', den_lit, den_at]; exact ⟨id, id⟩
  have c_n9 : ((BE.not (.cmp .lss (.at 5) (.lit 9))).den ρ = true → 9 ≤ (ρ.sv 5).i) ∧ ((BE.not (.cmp .lss (.at 5) (.lit 9))).den ρ = false → (ρ.sv 5).i < 9) := by
    rw [den_not, den_not', den_lss, den_lss', den_lit, den_at]; exact ⟨id, id⟩
  have all1 : n < (ρ.sv 0).l.length → ((ρ.sv 0).l.take (n + 1)).all (fun x => okN x.i) = (((ρ.sv 0).l.take n).all (fun x => okN x.i) && okN (mainE0.den ρ)) := by
    intro hk
    rw [take_succ' hk, List.all_append, hxv hk]
    simp
  have again1 : n < (ρ.sv 0).l.length → ((ρ.sv 0).l.take n).all (fun x => okN x.i) = true → 0 ≤ mainE0.den ρ → LeafOK mainS mainInv mainR mainMu ρ (againL mainE11) := by
    intro hk his hx0
    refine main_again ρ rfl h1 h2 hq10 hqr hn1 hn2 h4 hk h6 h7 h8 h9 h10 h11 mainE11 ?_
    rw [all1 hk, his, Bool.true_and, mainE11, sv_cmp, den_lit]
    by_cases h : mainE0.den ρ < 256
    · simp [intCmp, h, okN_t hx0 h]
    · simp [intCmp, h, okN_f (.inr (by omega : 256 ≤ mainE0.den ρ))]
  have again0 : n < (ρ.sv 0).l.length → (((ρ.sv 0).l.take n).all (fun x => okN x.i) = false ∨ mainE0.den ρ < 0) → LeafOK mainS mainInv mainR mainMu ρ (againL (.lit 0)) := by
    intro hk h
    refine main_again ρ rfl h1 h2 hq10 hqr hn1 hn2 h4 hk h6 h7 h8 h9 h10 h11 (.lit 0) ?_
    rw [all1 hk, sv_lit]
    rcases h with h | h
    · rw [h]; rfl
    · rw [okN_f (.inl h), Bool.and_false]; rfl
  have done : (ρ.sv 0).l.length ≤ n → LeafOK mainS mainInv mainR mainMu ρ (some 0, [(0, (.at 6)), (6, (.at 12)), (5, (.at 11)), (4, (.at 10)), (3, (.at 9)), (2, (.at 8)), (1, (.at 7))]) := by
    intro hk
    have e : n = (ρ.sv 0).l.length := by omega
    have et : (ρ.sv 0).l.take n = (ρ.sv 0).l := List.take_of_length_le (by omega)
    rw [leaf_exit, main_vals]
    refine ⟨rfl, fun j => ?_⟩
    show _ = mainO (ρ.sv 0).l j
    rw [svOf_look]
    rw [et] at h6 h10 h11 h12
    match j with
    | 0 => simp only [look, if_true, Nat.reduceEqDiff, if_false, sv_at, mainO, h6]
    | 1 => simp only [look, if_true, Nat.reduceEqDiff, if_false, sv_at, mainO, h7]
    | 2 => simp only [look, if_true, Nat.reduceEqDiff, if_false, sv_at, mainO, h8, e]
    | 3 => simp only [look, if_true, Nat.reduceEqDiff, if_false, sv_at, mainO, h9, e]
    | 4 => simp only [look, if_true, Nat.reduceEqDiff, if_false, sv_at, mainO, h10]
    | 5 => simp only [look, if_true, Nat.reduceEqDiff, if_false, sv_at, mainO, h11]
    | 6 => simp only [look, if_true, Nat.reduceEqDiff, if_false, sv_at, mainO, h12]
    | j + 7 => simp [look, mainO]
  refine ⟨fun hk => ?_, fun hk => ?_⟩
  · replace hk := c_i.1 hk
    refine br_F b_i0 ?_
    refine ⟨fun hx0 => ?_, fun hx0 => ?_⟩
    · replace hx0 := c_x0.1 hx0
      refine br_T (b_cap hk) ?_
      refine ⟨fun his => ?_, fun his => ?_⟩
      · replace his := c_is.1 his
        refine ⟨fun hn0 => ?_, fun hn0 => ?_⟩
        · replace hn0 := c_n0.1 hn0
          refine ⟨fun hx1 => ?_, fun hx1 => ?_⟩
          · replace hx1 := c_x1.1 hx1
            refine br_T (m_e1 hf hx0 hx1) ?_
            refine br_T (m_e5 hf) ?_
            refine br_F (m_b9 hf hx0 hx1) ?_
            refine br_F (m_b8 hf hx0 hx1) ?_
            refine br_T (m_b10_1 hf hx0 hx1) ?_
            refine br_F (m_b12 hf hx0 hx1) ?_
            refine br_T (m_b10_12 hf) ?_
            refine ⟨fun hsq => ?_, fun hsq => ?_⟩
            · skip
              refine br_F (m_b2_15 hf hx0 hx1 hsq) ?_
              refine ⟨fun _h => ?_, fun _h => ?_⟩
              · skip
                refine br_T b_one ?_
                refine ⟨fun _h => ?_, fun _h => ?_⟩
                · skip
                  refine ⟨fun _h => ?_, fun _h => ?_⟩
                  · skip
                    exact again1 hk his hx0
                  · skip
                    exact again1 hk his hx0
                · skip
                  exact again1 hk his hx0
              · skip
                exact again1 hk his hx0
            · skip
              refine br_F (m_b2_10 hf hx0 hx1 hsq) ?_
              refine ⟨fun _h => ?_, fun _h => ?_⟩
              · skip
                refine br_T b_one ?_
                refine ⟨fun _h => ?_, fun _h => ?_⟩
                · skip
                  refine ⟨fun _h => ?_, fun _h => ?_⟩
                  · skip
                    exact again1 hk his hx0
                  · skip
                    exact again1 hk his hx0
                · skip
                  exact again1 hk his hx0
              · skip
                exact again1 hk his hx0
          · replace hx1 := c_x1.2 hx1
            refine br_F (m_out hf (by omega)) ?_
            refine ⟨fun _h => ?_, fun _h => ?_⟩
            · skip
              refine br_T b_one ?_
              exact again1 hk his hx0
            · skip
              exact again1 hk his hx0
        · replace hn0 := c_n0.2 hn0
          refine ⟨fun hn9 => ?_, fun hn9 => ?_⟩
          · replace hn9 := c_n9.1 hn9
            refine ⟨fun hx1 => ?_, fun hx1 => ?_⟩
            · replace hx1 := c_x1.1 hx1
              refine br_T (m_e1 hf hx0 hx1) ?_
              refine br_T (m_e5 hf) ?_
              refine br_F (m_b9 hf hx0 hx1) ?_
              refine br_F (m_b8 hf hx0 hx1) ?_
              refine br_T (m_b10_1 hf hx0 hx1) ?_
              refine br_F (m_b12 hf hx0 hx1) ?_
              refine br_T (m_b10_12 hf) ?_
              refine ⟨fun hsq => ?_, fun hsq => ?_⟩
              · skip
                refine br_F (m_b2_15 hf hx0 hx1 hsq) ?_
                refine ⟨fun _h => ?_, fun _h => ?_⟩
                · skip
                  refine br_T b_one ?_
                  refine ⟨fun _h => ?_, fun _h => ?_⟩
                  · skip
                    refine ⟨fun _h => ?_, fun _h => ?_⟩
                    · skip
                      exact again1 hk his hx0
                    · skip
                      exact again1 hk his hx0
                  · skip
                    exact again1 hk his hx0
                · skip
                  exact again1 hk his hx0
              · skip
                refine br_F (m_b2_10 hf hx0 hx1 hsq) ?_
                refine ⟨fun _h => ?_, fun _h => ?_⟩
                · skip
                  refine br_T b_one ?_
                  refine ⟨fun _h => ?_, fun _h => ?_⟩
                  · skip
                    refine ⟨fun _h => ?_, fun _h => ?_⟩
                    · skip
                      exact again1 hk his hx0
                    · skip
                      exact again1 hk his hx0
                  · skip
                    exact again1 hk his hx0
                · skip
                  exact again1 hk his hx0
            · replace hx1 := c_x1.2 hx1
              refine br_F (m_out hf (by omega)) ?_
              refine ⟨fun _h => ?_, fun _h => ?_⟩
              · skip
                refine br_T b_one ?_
                exact again1 hk his hx0
              · skip
                exact again1 hk his hx0
          · replace hn9 := c_n9.2 hn9
            refine ⟨fun hx1 => ?_, fun hx1 => ?_⟩
            · replace hx1 := c_x1n.1 hx1
              refine br_F (m_out hf (by omega)) ?_
              refine ⟨fun _h => ?_, fun _h => ?_⟩
              · skip
                refine br_T b_one ?_
                exact again1 hk his hx0
              · skip
                exact again1 hk his hx0
            · replace hx1 := c_x1n.2 hx1
              refine br_F (m_valid hx0 hx1 (by omega) (by omega)) ?_
              refine br_T (m_e1 hf hx0 hx1) ?_
              refine br_T (m_e5 hf) ?_
              refine br_F (m_b9 hf hx0 hx1) ?_
              refine br_F (m_b8 hf hx0 hx1) ?_
              refine br_T (m_b10_1 hf hx0 hx1) ?_
              refine br_F (m_b12 hf hx0 hx1) ?_
              refine br_T (m_b10_12 hf) ?_
              refine ⟨fun hsq => ?_, fun hsq => ?_⟩
              · skip
                refine br_F (m_b2_15 hf hx0 hx1 hsq) ?_
                refine ⟨fun _h => ?_, fun _h => ?_⟩
                · skip
                  refine br_T b_one ?_
                  refine ⟨fun _h => ?_, fun _h => ?_⟩
                  · skip
                    refine ⟨fun _h => ?_, fun _h => ?_⟩
                    · skip
                      exact again1 hk his hx0
                    · skip
                      exact again1 hk his hx0
                  · skip
                    exact again1 hk his hx0
                · skip
                  exact again1 hk his hx0
              · skip
                refine br_F (m_b2_10 hf hx0 hx1 hsq) ?_
                refine ⟨fun _h => ?_, fun _h => ?_⟩
                · skip
                  refine br_T b_one ?_
                  refine ⟨fun _h => ?_, fun _h => ?_⟩
                  · skip
                    refine ⟨fun _h => ?_, fun _h => ?_⟩
                    · skip
                      exact again1 hk his hx0
                    · skip
                      exact again1 hk his hx0
                  · skip
                    exact again1 hk his hx0
                · skip
                  exact again1 hk his hx0
      · replace his := c_is.2 his
        refine ⟨fun hn0 => ?_, fun hn0 => ?_⟩
        · replace hn0 := c_n0.1 hn0
          refine ⟨fun hx1 => ?_, fun hx1 => ?_⟩
          · replace hx1 := c_x1.1 hx1
            refine br_T (m_e1 hf hx0 hx1) ?_
            refine br_T (m_e5 hf) ?_
            refine br_F (m_b9 hf hx0 hx1) ?_
            refine br_F (m_b8 hf hx0 hx1) ?_
            refine br_T (m_b10_1 hf hx0 hx1) ?_
            refine br_F (m_b12 hf hx0 hx1) ?_
            refine br_T (m_b10_12 hf) ?_
            refine ⟨fun hsq => ?_, fun hsq => ?_⟩
            · skip
              refine br_F (m_b2_15 hf hx0 hx1 hsq) ?_
              refine ⟨fun _h => ?_, fun _h => ?_⟩
              · skip
                refine br_T b_one ?_
                refine ⟨fun _h => ?_, fun _h => ?_⟩
                · skip
                  refine ⟨fun _h => ?_, fun _h => ?_⟩
                  · skip
                    exact again0 hk (by first | exact .inl his | exact .inr hx0)
                  · skip
                    exact again0 hk (by first | exact .inl his | exact .inr hx0)
                · skip
                  exact again0 hk (by first | exact .inl his | exact .inr hx0)
              · skip
                exact again0 hk (by first | exact .inl his | exact .inr hx0)
            · skip
              refine br_F (m_b2_10 hf hx0 hx1 hsq) ?_
              refine ⟨fun _h => ?_, fun _h => ?_⟩
              · skip
                refine br_T b_one ?_
                refine ⟨fun _h => ?_, fun _h => ?_⟩
                · skip
                  refine ⟨fun _h => ?_, fun _h => ?_⟩
                  · skip
                    exact again0 hk (by first | exact .inl his | exact .inr hx0)
                  · skip
                    exact again0 hk (by first | exact .inl his | exact .inr hx0)
                · skip
                  exact again0 hk (by first | exact .inl his | exact .inr hx0)
              · skip
                exact again0 hk (by first | exact .inl his | exact .inr hx0)
          · replace hx1 := c_x1.2 hx1
            refine br_F (m_out hf (by omega)) ?_
            refine ⟨fun _h => ?_, fun _h => ?_⟩
            · skip
              refine br_T b_one ?_
              exact again0 hk (by first | exact .inl his | exact .inr hx0)
            · skip
              exact again0 hk (by first | exact .inl his | exact .inr hx0)
        · replace hn0 := c_n0.2 hn0
          refine ⟨fun hn9 => ?_, fun hn9 => ?_⟩
          · replace hn9 := c_n9.1 hn9
            refine ⟨fun hx1 => ?_, fun hx1 => ?_⟩
            · replace hx1 := c_x1.1 hx1
              refine br_T (m_e1 hf hx0 hx1) ?_
              refine br_T (m_e5 hf) ?_
              refine br_F (m_b9 hf hx0 hx1) ?_
              refine br_F (m_b8 hf hx0 hx1) ?_
              refine br_T (m_b10_1 hf hx0 hx1) ?_
              refine br_F (m_b12 hf hx0 hx1) ?_
              refine br_T (m_b10_12 hf) ?_
              refine ⟨fun hsq => ?_, fun hsq => ?_⟩
              · skip
                refine br_F (m_b2_15 hf hx0 hx1 hsq) ?_
                refine ⟨fun _h => ?_, fun _h => ?_⟩
                · skip
                  refine br_T b_one ?_
                  refine ⟨fun _h => ?_, fun _h => ?_⟩
                  · skip
                    refine ⟨fun _h => ?_, fun _h => ?_⟩
                    · skip
                      exact again0 hk (by first | exact .inl his | exact .inr hx0)
                    · skip
                      exact again0 hk (by first | exact .inl his | exact .inr hx0)
                  · skip
                    exact again0 hk (by first | exact .inl his | exact .inr hx0)
                · skip
                  exact again0 hk (by first | exact .inl his | exact .inr hx0)
              · skip
                refine br_F (m_b2_10 hf hx0 hx1 hsq) ?_
                refine ⟨fun _h => ?_, fun _h => ?_⟩
                · skip
                  refine br_T b_one ?_
                  refine ⟨fun _h => ?_, fun _h => ?_⟩
                  · skip
                    refine ⟨fun _h => ?_, fun _h => ?_⟩
                    · skip
                      exact again0 hk (by first | exact .inl his | exact .inr hx0)
                    · skip
                      exact again0 hk (by first | exact .inl his | exact .inr hx0)
                  · skip
                    exact again0 hk (by first | exact .inl his | exact .inr hx0)
                · skip
                  exact again0 hk (by first | exact .inl his | exact .inr hx0)
            · replace hx1 := c_x1.2 hx1
              refine br_F (m_out hf (by omega)) ?_
              refine ⟨fun _h => ?_, fun _h => ?_⟩
              · skip
                refine br_T b_one ?_
                exact again0 hk (by first | exact .inl his | exact .inr hx0)
              · skip
                exact again0 hk (by first | exact .inl his | exact .inr hx0)
          · replace hn9 := c_n9.2 hn9
            refine ⟨fun hx1 => ?_, fun hx1 => ?_⟩
            · replace hx1 := c_x1n.1 hx1
              refine br_F (m_out hf (by omega)) ?_
              refine ⟨fun _h => ?_, fun _h => ?_⟩
              · skip
                refine br_T b_one ?_
                exact again0 hk (by first | exact .inl his | exact .inr hx0)
              · skip
                exact again0 hk (by first | exact .inl his | exact .inr hx0)
            · replace hx1 := c_x1n.2 hx1
              refine br_F (m_valid hx0 hx1 (by omega) (by omega)) ?_
              refine br_T (m_e1 hf hx0 hx1) ?_
              refine br_T (m_e5 hf) ?_
              refine br_F (m_b9 hf hx0 hx1) ?_
              refine br_F (m_b8 hf hx0 hx1) ?_
              refine br_T (m_b10_1 hf hx0 hx1) ?_
              refine br_F (m_b12 hf hx0 hx1) ?_
              refine br_T (m_b10_12 hf) ?_
              refine ⟨fun hsq => ?_, fun hsq => ?_⟩
              · skip
                refine br_F (m_b2_15 hf hx0 hx1 hsq) ?_
                refine ⟨fun _h => ?_, fun _h => ?_⟩
                · skip
                  refine br_T b_one ?_
                  refine ⟨fun _h => ?_, fun _h => ?_⟩
                  · skip
                    refine ⟨fun _h => ?_, fun _h => ?_⟩
                    · skip
                      exact again0 hk (by first | exact .inl his | exact .inr hx0)
                    · skip
                      exact again0 hk (by first | exact .inl his | exact .inr hx0)
                  · skip
                    exact again0 hk (by first | exact .inl his | exact .inr hx0)
                · skip
                  exact again0 hk (by first | exact .inl his | exact .inr hx0)
              · skip
                refine br_F (m_b2_10 hf hx0 hx1 hsq) ?_
                refine ⟨fun _h => ?_, fun _h => ?_⟩
                · skip
                  refine br_T b_one ?_
                  refine ⟨fun _h => ?_, fun _h => ?_⟩
                  · skip
                    refine ⟨fun _h => ?_, fun _h => ?_⟩
                    · skip
                      exact again0 hk (by first | exact .inl his | exact .inr hx0)
                    · skip
                      exact again0 hk (by first | exact .inl his | exact .inr hx0)
                  · skip
                    exact again0 hk (by first | exact .inl his | exact .inr hx0)
                · skip
                  exact again0 hk (by first | exact .inl his | exact .inr hx0)
    · replace hx0 := c_x0.2 hx0
      refine br_T (b_cap hk) ?_
      refine ⟨fun his => ?_, fun his => ?_⟩
      · replace his := c_is.1 his
        refine ⟨fun hn0 => ?_, fun hn0 => ?_⟩
        · replace hn0 := c_n0.1 hn0
          refine br_F (m_out hf (by omega)) ?_
          refine ⟨fun _h => ?_, fun _h => ?_⟩
          · skip
            refine br_T b_one ?_
            exact again0 hk (by first | exact .inl his | exact .inr hx0)
          · skip
            exact again0 hk (by first | exact .inl his | exact .inr hx0)
        · replace hn0 := c_n0.2 hn0
          refine ⟨fun hn9 => ?_, fun hn9 => ?_⟩
          · replace hn9 := c_n9.1 hn9
            refine br_F (m_out hf (by omega)) ?_
            refine ⟨fun _h => ?_, fun _h => ?_⟩
            · skip
              refine br_T b_one ?_
              exact again0 hk (by first | exact .inl his | exact .inr hx0)
            · skip
              exact again0 hk (by first | exact .inl his | exact .inr hx0)
          · replace hn9 := c_n9.2 hn9
            refine br_F (m_out hf (by omega)) ?_
            refine ⟨fun _h => ?_, fun _h => ?_⟩
            · skip
              refine br_T b_one ?_
              exact again0 hk (by first | exact .inl his | exact .inr hx0)
            · skip
              exact again0 hk (by first | exact .inl his | exact .inr hx0)
      · replace his := c_is.2 his
        refine ⟨fun hn0 => ?_, fun hn0 => ?_⟩
        · replace hn0 := c_n0.1 hn0
          refine br_F (m_out hf (by omega)) ?_
          refine ⟨fun _h => ?_, fun _h => ?_⟩
          · skip
            refine br_T b_one ?_
            exact again0 hk (by first | exact .inl his | exact .inr hx0)
          · skip
            exact again0 hk (by first | exact .inl his | exact .inr hx0)
        · replace hn0 := c_n0.2 hn0
          refine ⟨fun hn9 => ?_, fun hn9 => ?_⟩
          · replace hn9 := c_n9.1 hn9
            refine br_F (m_out hf (by omega)) ?_
            refine ⟨fun _h => ?_, fun _h => ?_⟩
            · skip
              refine br_T b_one ?_
              exact again0 hk (by first | exact .inl his | exact .inr hx0)
            · skip
              exact again0 hk (by first | exact .inl his | exact .inr hx0)
          · replace hn9 := c_n9.2 hn9
            refine br_F (m_out hf (by omega)) ?_
            refine ⟨fun _h => ?_, fun _h => ?_⟩
            · skip
              refine br_T b_one ?_
              exact again0 hk (by first | exact .inl his | exact .inr hx0)
            · skip
              exact again0 hk (by first | exact .inl his | exact .inr hx0)
  · replace hk := c_i.2 hk
    exact done hk
end Go.Sx.L
