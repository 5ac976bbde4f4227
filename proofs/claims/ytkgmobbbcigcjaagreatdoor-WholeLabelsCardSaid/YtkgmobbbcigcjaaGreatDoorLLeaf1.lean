/- WholeLabels: loops over rows. -/
import Derived.Test.YtkgmobbbcigcjaaGreatDoorLTree
import Derived.Test.YtkgmobbbcigcjaaGreatDoorLDoes
namespace Go.Sx.L
set_option linter.unusedVariables false
open Go Go.Sx

theorem drop_cons {q : List SV} {n : Nat} (h : n < q.length) : q.drop n = q.getD n .nul :: q.drop (n + 1) := by
  rw [List.drop_eq_getElem_cons h]
  congr 1
  simp [List.getD, List.getElem?_eq_getElem h]

theorem eq_vals (ρ : Rho) : eqS.vals ρ = [ρ.sv 0, ρ.sv 1, ρ.sv 2, ρ.sv 4, ρ.sv 5, ρ.sv 6, ρ.sv 8] := rfl
theorem eq_args : eqS.args = [0, 1, 2, 4, 5, 6, 8] := rfl
theorem eq_leaves (ρ : Rho) (hI : eqInv (eqS.vals ρ)) : eqT.holds ρ (LeafOK eqS eqInv eqR eqMu ρ) := by
  rw [eq_vals] at hI
  simp only [eqInv] at hI
  obtain ⟨h0, h1, h2, h3, h4, h5⟩ := hI
  simp only [eqT, holds_br, holds_bad, holds_leaf, leaf_again, leaf_exit, den_lss, den_lss', den_not, den_not', den_eql, den_eql', den_at, den_lit, den_sel, den_plus, sv_at, sv_bin,
    eq_vals, eq_args, List.map_cons, List.map_nil, svOf_look, look, if_true, reduceCtorEq, Nat.reduceEqDiff, if_false]
  generalize ρ.sv 0 = q1 at *
  generalize ρ.sv 1 = lo1 at *
  generalize ρ.sv 2 = len1 at *
  generalize ρ.sv 4 = q2 at *
  generalize ρ.sv 5 = lo2 at *
  generalize ρ.sv 6 = len2 at *
  generalize ρ.sv 8 = i at *
  refine ⟨fun a1 => ⟨fun a2 => by omega, fun a2 => ⟨fun a3 => ⟨fun a4 => ⟨?_, fun _ => rfl⟩, fun a4 => ?_⟩, fun a3 => by omega⟩⟩, fun a1 => ⟨?_, fun _ => rfl⟩⟩
  · simp only [eqR]
    refine ex01_neg fun h => ?_
    have := h i.i.toNat (by omega) (by omega)
    rw [Int.toNat_of_nonneg h0] at this
    exact a4 this
  · rw [add64 (by omega) (by omega)]
    simp only [eqInv, eqMu, eqR, ofI_i]
    refine ⟨by omega, by omega, ?_⟩
    have : (∀ j : Nat, i.i + 1 ≤ j → (j : Int) < len1.i → nth q1 (lo1.i + j) = nth q2 (lo2.i + j)) ↔ (∀ j : Nat, i.i ≤ j → (j : Int) < len1.i → nth q1 (lo1.i + j) = nth q2 (lo2.i + j)) := by
      constructor
      · intro h j hj hj'
        by_cases e : (j : Int) = i.i
        · rw [e]; exact a4
        · exact h j (by omega) hj'
      · exact fun h j hj hj' => h j (by omega) hj'
    exact congrArg (·, fun _ => SV.nul) (ex01_congr this)
  · simp only [eqR]
    refine ex01_pos fun j hj hj' => ?_
    omega

theorem join_vals (ρ : Rho) : joinS.vals ρ = [ρ.sv 0, ρ.sv 1, ρ.sv 2, ρ.sv 3, ρ.sv 5] := rfl
theorem join_args : joinS.args = [0, 1, 2, 3, 5] := rfl
theorem meet_vals (ρ : Rho) : meetS.vals ρ = [ρ.sv 0, ρ.sv 1, ρ.sv 2, ρ.sv 3, ρ.sv 5] := rfl
theorem meet_args : meetS.args = [0, 1, 2, 3, 5] := rfl

theorem fold_step (op : BinOp) (out q lo len : SV) (n : Nat) (h : n < q.l.length) (hx : okN (q.l.getD n .nul).i = true) :
    foldR op [.ofI (intBin op .i64 out.i (q.l.getD n .nul).i), q, lo, len, .ofI ((n : Int) + 1)] = foldR op [out, q, lo, len, .ofI (n : Int)] := by
  have e1 : ((n : Int) + 1).toNat = n + 1 := by omega
  have e2 : ((n : Int)).toNat = n := by omega
  show foldO op _ (q.l.drop ((n : Int) + 1).toNat) = foldO op out (q.l.drop (n : Int).toNat)
  rw [e1, e2, drop_cons h]
  unfold foldO
  simp only [List.all_cons, hx, Bool.true_and, List.foldl_cons]
theorem fold_end (op : BinOp) (out q lo len : SV) (n : Nat) (h : q.l.length ≤ n) : foldR op [out, q, lo, len, .ofI (n : Int)] = (0, fun j => if j = 0 then out else .nul) := by
  have e2 : ((n : Int)).toNat = n := by omega
  show foldO op out (q.l.drop (n : Int).toNat) = _
  rw [e2, List.drop_eq_nil_of_le h]
  rfl
theorem fold_bad (op : BinOp) (out q lo len : SV) (n : Nat) (h : n < q.l.length) (hx : okN (q.l.getD n .nul).i = false) : foldR op [out, q, lo, len, .ofI (n : Int)] = (1, fun _ => .nul) := by
  have e2 : ((n : Int)).toNat = n := by omega
  show foldO op out (q.l.drop (n : Int).toNat) = _
  rw [e2, drop_cons h]
  unfold foldO
  simp only [List.all_cons, hx, Bool.false_and]

theorem join_leaves (ρ : Rho) (hI : foldInv (joinS.vals ρ)) : joinT.holds ρ (LeafOK joinS foldInv (foldR .or) foldMu ρ) := by
  rw [join_vals] at hI
  simp only [foldInv] at hI
  obtain ⟨h0, h1, ⟨n, h2, h3⟩, h4⟩ := hI
  simp only [joinT, joinE0, holds_br, holds_bad, holds_leaf, leaf_again, leaf_exit, den_lss, den_lss', den_not, den_not', den_at, den_lit, den_sel, den_plus, sv_at, sv_bin,
    join_vals, join_args, List.map_cons, List.map_nil, svOf_look, look, if_true, reduceCtorEq, Nat.reduceEqDiff, if_false]
  generalize hout : ρ.sv 0 = out at *
  generalize ρ.sv 1 = q at *
  generalize ρ.sv 2 = lo at *
  generalize ρ.sv 3 = len at *
  generalize ρ.sv 5 = i at *
  subst h0 h1 h2
  simp only [ofI_i, Int.zero_add, Int.toNat_natCast]
  refine ⟨fun a1 => ⟨fun a2 => by omega, fun a2 => ⟨fun a3 => ?_, fun a3 => ⟨fun a4 => ?_, fun a4 => ?_⟩⟩⟩, fun a1 => ?_⟩
  · rw [fold_bad .or out q _ _ n (by omega) (okN_f (by omega))]
    exact ⟨rfl, fun _ => rfl⟩
  · rw [fold_bad .or out q _ _ n (by omega) (okN_f (by omega))]
    exact ⟨rfl, fun _ => rfl⟩
  · rw [add64 (by omega) (by omega), fold_step .or out q _ _ n (by omega) (okN_t (by omega) (by omega))]
    refine ⟨⟨rfl, rfl, ⟨n + 1, rfl, by omega⟩, h4⟩, ?_, rfl⟩
    simp only [foldMu, ofI_i]; omega
  · rw [fold_end .or out q _ _ n (by omega)]
    refine ⟨rfl, fun i => ?_⟩
    by_cases e : i = 0
    · subst e; simp only [if_true, sv_at]; exact hout
    · simp only [if_neg e]
theorem meet_leaves (ρ : Rho) (hI : foldInv (meetS.vals ρ)) : meetT.holds ρ (LeafOK meetS foldInv (foldR .and) foldMu ρ) := by
  rw [meet_vals] at hI
  simp only [foldInv] at hI
  obtain ⟨h0, h1, ⟨n, h2, h3⟩, h4⟩ := hI
  simp only [meetT, meetE0, holds_br, holds_bad, holds_leaf, leaf_again, leaf_exit, den_lss, den_lss', den_not, den_not', den_at, den_lit, den_sel, den_plus, sv_at, sv_bin,
    meet_vals, meet_args, List.map_cons, List.map_nil, svOf_look, look, if_true, reduceCtorEq, Nat.reduceEqDiff, if_false]
  generalize hout : ρ.sv 0 = out at *
  generalize ρ.sv 1 = q at *
  generalize ρ.sv 2 = lo at *
  generalize ρ.sv 3 = len at *
  generalize ρ.sv 5 = i at *
  subst h0 h1 h2
  simp only [ofI_i, Int.zero_add, Int.toNat_natCast]
  refine ⟨fun a1 => ⟨fun a2 => by omega, fun a2 => ⟨fun a3 => ?_, fun a3 => ⟨fun a4 => ?_, fun a4 => ?_⟩⟩⟩, fun a1 => ?_⟩
  · rw [fold_bad .and out q _ _ n (by omega) (okN_f (by omega))]
    exact ⟨rfl, fun _ => rfl⟩
  · rw [fold_bad .and out q _ _ n (by omega) (okN_f (by omega))]
    exact ⟨rfl, fun _ => rfl⟩
  · rw [add64 (by omega) (by omega), fold_step .and out q _ _ n (by omega) (okN_t (by omega) (by omega))]
    refine ⟨⟨rfl, rfl, ⟨n + 1, rfl, by omega⟩, h4⟩, ?_, rfl⟩
    simp only [foldMu, ofI_i]; omega
  · rw [fold_end .and out q _ _ n (by omega)]
    refine ⟨rfl, fun i => ?_⟩
    by_cases e : i = 0
    · subst e; simp only [if_true, sv_at]; exact hout
    · simp only [if_neg e]

/-! ### Who flows to one -/
theorem idx_end (c : Int → Bool) (i : Nat) {q : List SV} (h : q.length ≤ i) : idx c i (q.drop i) = [] := by
  rw [List.drop_eq_nil_of_le h]; rfl
theorem idx_step (c : Int → Bool) {q : List SV} {n : Nat} (h : n < q.length) : idx c n (q.drop n) = (if c (q.getD n .nul).i then [.ofI (n : Int)] else []) ++ idx c (n + 1) (q.drop (n + 1)) := by
  rw [drop_cons h]
  simp only [idx]
  split <;> simp

theorem below_t {t x : Int} (h1 : 0 ≤ x) (h2 : x < 256) (h3 : 0 ≤ t) (h4 : t < 256) (h5 : intBin .andNot .i64 x t = 0) : below t x = true := by
  simp [below, okN_t h1 h2, okN_t h3 h4, h5]
theorem below_f {t x : Int} (h : x < 0 ∨ 256 ≤ x ∨ t < 0 ∨ 256 ≤ t ∨ ¬ intBin .andNot .i64 x t = 0) : below t x = false := by
  unfold below
  rcases h with h | h | h | h | h
  · rw [okN_f (.inl h)]; rfl
  · rw [okN_f (.inr h)]; rfl
  · rw [okN_f (x := t) (.inl h)]; simp
  · rw [okN_f (x := t) (.inr h)]; simp
  · rw [decide_eq_false h]; simp

theorem under_vals (ρ : Rho) : underS.vals ρ = [ρ.sv 0, ρ.sv 1, ρ.sv 2, ρ.sv 3, ρ.sv 5, ρ.sv 6, ρ.sv 7, ρ.sv 8, ρ.sv 9] := rfl
theorem under_args : underS.args = [0, 1, 2, 3, 5, 6, 7, 8, 9] := rfl

theorem under_leaves (ρ : Rho) (hI : underInv (underS.vals ρ)) : underT.holds ρ (LeafOK underS underInv underR underMu ρ) := by
  rw [under_vals] at hI
  simp only [underInv] at hI
  obtain ⟨h0, h1, ⟨n, h2, h3, h4⟩, h5, h6, h7, h8, h9⟩ := hI
  simp only [underT, underE0, holds_br, holds_bad, holds_leaf, leaf_again, leaf_exit, den_lss, den_lss', den_not, den_not', den_eql, den_eql', den_at, den_lit, den_sel, den_plus, den_bin, sv_at, sv_bin, sv_cat1, sv_plus, sv_lit,
    under_vals, under_args, List.map_cons, List.map_nil, svOf_look, look, if_true, reduceCtorEq, Nat.reduceEqDiff, if_false]
  generalize ht : ρ.sv 0 = t at *
  generalize hq : ρ.sv 1 = q at *
  generalize hlo : ρ.sv 2 = lo at *
  generalize hlen : ρ.sv 3 = len at *
  generalize hi : ρ.sv 5 = i at *
  generalize hu : ρ.sv 6 = u at *
  generalize hulo : ρ.sv 7 = ulo at *
  generalize hulen : ρ.sv 8 = ulen at *
  generalize hucap : ρ.sv 9 = ucap at *
  subst h0 h1 h2 h7 h8 h9
  simp only [ofI_i, Int.zero_add, Int.toNat_natCast, Int.toNat_zero, List.drop_zero, List.take_length]
  have skip : n < q.l.length → below t.i (q.l.getD n .nul).i = false →
      underInv [t, q, .ofI 0, .ofI q.l.length, .ofI (intBin .add .i64 (n : Int) 1), u, .ofI 0, .ofI u.l.length, .ofI u.l.length] ∧
      underMu [t, q, .ofI 0, .ofI q.l.length, .ofI (intBin .add .i64 (n : Int) 1), u, .ofI 0, .ofI u.l.length, .ofI u.l.length] < underMu [t, q, .ofI 0, .ofI q.l.length, .ofI n, u, .ofI 0, .ofI u.l.length, .ofI u.l.length] ∧
      underR [t, q, .ofI 0, .ofI q.l.length, .ofI (intBin .add .i64 (n : Int) 1), u, .ofI 0, .ofI u.l.length, .ofI u.l.length] = underR [t, q, .ofI 0, .ofI q.l.length, .ofI n, u, .ofI 0, .ofI u.l.length, .ofI u.l.length] := by
    intro hn hb
    rw [add64 (by omega) (by omega)]
    refine ⟨⟨rfl, rfl, ⟨n + 1, rfl, by omega, by omega⟩, h5, h6, rfl, rfl, rfl⟩, by simp only [underMu, ofI_i]; omega, ?_⟩
    simp only [underR, ofI_i]
    have e1 : ((n : Int) + 1).toNat = n + 1 := by omega
    rw [e1, Int.toNat_natCast, idx_step _ hn, hb]
    rfl
  refine ⟨fun a1 => ⟨fun a2 => by omega, fun a2 => ⟨fun a3 => ⟨fun a4 => ⟨fun a5 => ⟨fun a6 => ⟨fun a7 => ⟨fun a8 => ?_, fun a8 => by omega⟩, fun a7 => ?_⟩, fun a6 => ?_⟩, fun a5 => ?_⟩, fun a4 => ?_⟩, fun a3 => ?_⟩⟩, fun a1 => ?_⟩
  · have hn : n < q.l.length := by omega
    rw [add64 (by omega) (by omega)]
    have hl : (u.l ++ [SV.ofI (n : Int)]).length = u.l.length + 1 := by simp
    have e0 : ((u.l.length : Int) + 1) = ((u.l.length + 1 : Nat) : Int) := by omega
    refine ⟨⟨rfl, rfl, ⟨n + 1, rfl, by omega, by rw [ofL_l, hl]; omega⟩, h5, rfl, rfl, by rw [ofL_l, hl, e0], by rw [ofL_l, hl, e0]⟩, by simp only [underMu, ofI_i]; omega, ?_⟩
    simp only [underR, ofI_i, ofL_l]
    have e1 : ((n : Int) + 1).toNat = n + 1 := by omega
    rw [e1, Int.toNat_natCast, idx_step _ hn, below_t a3 a4 a5 a6 a7]
    simp
  · exact skip (by omega) (below_f (by omega))
  · exact skip (by omega) (below_f (by omega))
  · exact skip (by omega) (below_f (by omega))
  · exact skip (by omega) (below_f (by omega))
  · exact skip (by omega) (below_f (by omega))
  · have e : underR [t, q, .ofI 0, .ofI q.l.length, .ofI (n : Int), u, .ofI 0, .ofI u.l.length, .ofI u.l.length] = (0, rowX u.l) := by
      show (0, rowX (u.l ++ idx _ (n : Int).toNat _)) = _
      simp only [ofI_i, Int.toNat_natCast]
      rw [idx_end _ _ (by omega), List.append_nil]
    rw [e]
    refine ⟨rfl, fun j => ?_⟩
    match j with
    | 0 => simp only [if_true, sv_at, hu]; exact h6
    | 1 => simp only [sv_at, hulo, rowX, Nat.reduceEqDiff, if_false, if_true]
    | 2 => simp only [sv_at, hulen, rowX, Nat.reduceEqDiff, if_false, if_true]
    | 3 => simp only [sv_at, hucap, rowX, Nat.reduceEqDiff, if_false, if_true]
    | j + 4 => simp [rowX]

theorem low_vals (ρ : Rho) : lowS.vals ρ = [ρ.sv 0, ρ.sv 1, ρ.sv 2, ρ.sv 3, ρ.sv 4, ρ.sv 5, ρ.sv 6, ρ.sv 7, ρ.sv 8] := rfl
theorem low_args : lowS.args = [0, 1, 2, 3, 4, 5, 6, 7, 8] := rfl

theorem low_leaves (ρ : Rho) (hI : lowInv (lowS.vals ρ)) : lowT.holds ρ (LeafOK lowS lowInv lowR lowMu ρ) := by
  rw [low_vals] at hI
  simp only [lowInv] at hI
  obtain ⟨h0, h1, hc, ⟨n, h2, h3, h4⟩, h5, h6, h7, h8, h9⟩ := hI
  simp only [lowT, lowE0, holds_br, holds_bad, holds_leaf, leaf_again, leaf_exit, den_lss, den_lss', den_not, den_not', den_eql, den_eql', den_at, den_lit, den_sel, den_plus, den_bin, sv_at, sv_bin, sv_cat1, sv_plus, sv_lit,
    low_vals, low_args, List.map_cons, List.map_nil, svOf_look, look, if_true, reduceCtorEq, Nat.reduceEqDiff, if_false]
  generalize hq : ρ.sv 0 = q at *
  generalize hlo : ρ.sv 1 = lo at *
  generalize hlen : ρ.sv 2 = len at *
  generalize hcap : ρ.sv 3 = cap at *
  generalize hi : ρ.sv 4 = i at *
  generalize hu : ρ.sv 5 = u at *
  generalize hulo : ρ.sv 6 = ulo at *
  generalize hulen : ρ.sv 7 = ulen at *
  generalize hucap : ρ.sv 8 = ucap at *
  subst h0 h1 hc h2 h7 h8 h9
  simp only [ofI_i, Int.zero_add, Int.toNat_natCast, Int.toNat_zero, List.drop_zero, List.take_length]
  have hz : nth q 0 = (q.l.getD 0 .nul).i := rfl
  have skip : n < q.l.length → below (q.l.getD 0 .nul).i (q.l.getD n .nul).i = false →
      lowInv [q, .ofI 0, .ofI q.l.length, .ofI q.l.length, .ofI (intBin .add .i64 (n : Int) 1), u, .ofI 0, .ofI u.l.length, .ofI u.l.length] ∧
      lowMu [q, .ofI 0, .ofI q.l.length, .ofI q.l.length, .ofI (intBin .add .i64 (n : Int) 1), u, .ofI 0, .ofI u.l.length, .ofI u.l.length] < lowMu [q, .ofI 0, .ofI q.l.length, .ofI q.l.length, .ofI n, u, .ofI 0, .ofI u.l.length, .ofI u.l.length] ∧
      lowR [q, .ofI 0, .ofI q.l.length, .ofI q.l.length, .ofI (intBin .add .i64 (n : Int) 1), u, .ofI 0, .ofI u.l.length, .ofI u.l.length] = lowR [q, .ofI 0, .ofI q.l.length, .ofI q.l.length, .ofI n, u, .ofI 0, .ofI u.l.length, .ofI u.l.length] := by
    intro hn hb
    rw [add64 (by omega) (by omega)]
    refine ⟨⟨rfl, rfl, rfl, ⟨n + 1, rfl, by omega, by omega⟩, h5, h6, rfl, rfl, rfl⟩, by simp only [lowMu, ofI_i]; omega, ?_⟩
    simp only [lowR, ofI_i]
    have e1 : ((n : Int) + 1).toNat = n + 1 := by omega
    rw [e1, Int.toNat_natCast, idx_step _ hn, hz, hb]
    rfl
  refine ⟨fun a1 => ⟨fun a2 => by omega, fun a2 => ⟨fun b1 => ⟨fun a5 => ⟨fun a6 => ⟨fun a3 => ⟨fun a4 => ⟨fun a7 => ⟨fun a8 => ?_, fun a8 => by omega⟩, fun a7 => ?_⟩, fun a4 => ?_⟩, fun a3 => ?_⟩, fun a6 => ?_⟩, fun a5 => ?_⟩, fun b1 => by omega⟩⟩, fun a1 => ?_⟩
  · have hn : n < q.l.length := by omega
    rw [add64 (by omega) (by omega)]
    have hl : (u.l ++ [SV.ofI (n : Int)]).length = u.l.length + 1 := by simp
    have e0 : ((u.l.length : Int) + 1) = ((u.l.length + 1 : Nat) : Int) := by omega
    refine ⟨⟨rfl, rfl, rfl, ⟨n + 1, rfl, by omega, by rw [ofL_l, hl]; omega⟩, h5, rfl, rfl, by rw [ofL_l, hl, e0], by rw [ofL_l, hl, e0]⟩, by simp only [lowMu, ofI_i]; omega, ?_⟩
    simp only [lowR, ofI_i, ofL_l]
    have e1 : ((n : Int) + 1).toNat = n + 1 := by omega
    rw [e1, Int.toNat_natCast, idx_step _ hn, hz, below_t a3 a4 a5 a6 a7]
    simp
  · exact skip (by omega) (below_f (by omega))
  · exact skip (by omega) (below_f (by omega))
  · exact skip (by omega) (below_f (by omega))
  · exact skip (by omega) (below_f (by omega))
  · exact skip (by omega) (below_f (by omega))
  · have e : lowR [q, .ofI 0, .ofI q.l.length, .ofI q.l.length, .ofI (n : Int), u, .ofI 0, .ofI u.l.length, .ofI u.l.length] = (0, lowO q.l u.l) := by
      show (0, lowO q.l (u.l ++ idx _ (n : Int).toNat _)) = _
      simp only [ofI_i, Int.toNat_natCast]
      rw [idx_end _ _ (by omega), List.append_nil]
    rw [e]
    refine ⟨rfl, fun j => ?_⟩
    match j with
    | 0 => simp only [sv_at, hlo, lowO, Nat.reduceEqDiff, if_false, if_true]
    | 1 => simp only [sv_at, hlen, lowO, Nat.reduceEqDiff, if_false, if_true]
    | 2 => simp only [sv_at, hcap, lowO, Nat.reduceEqDiff, if_false, if_true]
    | 3 => simp only [sv_at, hu, lowO, Nat.reduceEqDiff, if_false, if_true]; exact h6
    | 4 => simp only [sv_at, hulo, lowO, Nat.reduceEqDiff, if_false, if_true]
    | 5 => simp only [sv_at, hulen, lowO, Nat.reduceEqDiff, if_false, if_true]
    | 6 => simp only [sv_at, hucap, lowO, Nat.reduceEqDiff, if_false, if_true]
    | j + 7 => simp [lowO]
end Go.Sx.L
