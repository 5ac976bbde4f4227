/- WholeLabels: loops over letters; functions. -/
import Derived.Test.YtkgmobbbcigcjaaGreatDoorLTree
import Derived.Test.YtkgmobbbcigcjaaGreatDoorLDoes
namespace Go.Sx.L
set_option linter.unusedVariables false
open Go Go.Sx

theorem bs_size (a : List UInt8) : (bs a).size = a.length := by simp [bs, ByteArray.size]

theorem piece : ∀ n : Fin 8, (((bs [97, 98, 99, 100, 101, 102, 103, 104]).extract n.val 8).extract 0 1).data.toList = [UInt8.ofNat (97 + (n.val : Int)).toNat] ∧ ((bs [97, 98, 99, 100, 101, 102, 103, 104]).extract n.val 8).size = 8 - n.val ∧ (((bs [97, 98, 99, 100, 101, 102, 103, 104]).extract n.val 8).extract 0 1).size = 1 := by
  decide +kernel

theorem let_vals (ρ : Rho) : letS.vals ρ = [ρ.sv 0, ρ.sv 1, ρ.sv 2] := rfl
theorem let_args : letS.args = [0, 1, 2] := rfl

theorem let_leaves (ρ : Rho) (hI : letInv (letS.vals ρ)) : letT.holds ρ (LeafOK letS letInv letR letMu ρ) := by
  rw [let_vals] at hI
  simp only [letInv] at hI
  obtain ⟨h0, n, h1, h2, h3⟩ := hI
  simp only [letT, letE1, letE0, holds_br, holds_bad, holds_leaf, leaf_again, leaf_exit, den_lss, den_lss', den_not, den_not', den_eql, den_eql', den_leq, den_leq', den_at, den_lit, den_plus, den_bin, den_slen, sv_at, sv_bin, sv_plus, sv_lit, sv_scat, sv_ssub, sv_str, ofS_s,
    let_vals, let_args, List.map_cons, List.map_nil, svOf_look, look, if_true, reduceCtorEq, Nat.reduceEqDiff, if_false]
  generalize hk : ρ.sv 0 = k at *
  generalize hs : ρ.sv 1 = s at *
  generalize hi : ρ.sv 2 = i at *
  subst h1
  have hbs : (⟨#[97, 98, 99, 100, 101, 102, 103, 104]⟩ : ByteArray) = bs [97, 98, 99, 100, 101, 102, 103, 104] := rfl
  simp only [ofI_i, Int.toNat_natCast, hbs]
  have step : n < 8 → ∀ t : ByteArray, t.data.toList = (if bit k.i n then s.s.data.toList ++ [UInt8.ofNat (97 + (n : Int)).toNat] else s.s.data.toList) → t.size ≤ s.s.size + 1 →
      letInv [k, .ofS t, .ofI (intBin .add .i64 (n : Int) 1)] ∧ letMu [k, .ofS t, .ofI (intBin .add .i64 (n : Int) 1)] < letMu [k, s, .ofI n] ∧ letR [k, .ofS t, .ofI (intBin .add .i64 (n : Int) 1)] = letR [k, s, .ofI n] := by
    intro hn t ht hsz
    rw [add64 (by omega) (by omega)]
    refine ⟨⟨rfl, n + 1, rfl, by omega, by rw [ofS_s]; omega⟩, by simp only [letMu, ofI_i]; omega, ?_⟩
    simp only [letR, ofI_i, ofS_s]
    have e1 : (8 - (n : Int)).toNat = (8 - ((n : Int) + 1)).toNat + 1 := by omega
    rw [e1, letL, ht]
  refine ⟨fun a1 => ⟨fun a2 => by omega, fun a2 => ⟨fun a3 => ⟨fun a4 => ⟨fun a5 => ?_, fun a5 => ?_⟩, fun a4 => ?_⟩, fun a3 => ?_⟩⟩, fun a1 => ?_⟩
  · obtain ⟨p1, p2, p3⟩ := piece ⟨n, by omega⟩
    have hb : bit k.i n = true := by simp [bit, a3]
    refine step (by omega) _ ?_ ?_
    · rw [hb, if_pos rfl, ← p1]
      simp
    · rw [ByteArray.size_append]
      simp only [Int.toNat_zero, Int.reduceToNat] at p3 ⊢
      omega
  · obtain ⟨p1, p2, p3⟩ := piece ⟨n, by omega⟩
    simp only [Int.toNat_zero, Int.reduceToNat] at p3 a5
    omega
  · obtain ⟨p1, p2, p3⟩ := piece ⟨n, by omega⟩
    simp only [Int.reduceToNat] at a4 p2
    omega
  · have hb : bit k.i n = false := by simp [bit, a3]
    have := step (by omega) s.s (by rw [hb]; simp) (by omega)
    rw [← h0] at this
    exact this
  · have e : letR [k, s, .ofI (n : Int)] = (0, fun j => if j = 0 then .ofS s.s else .nul) := by
      simp only [letR, ofI_i]
      have e1 : (8 - (n : Int)).toNat = 0 := by omega
      rw [e1, letL, bs_of]
    rw [e]
    refine ⟨rfl, fun j => ?_⟩
    by_cases e : j = 0
    · subst e; simp only [if_true, sv_at, hs]; exact h0
    · simp only [if_neg e]

theorem byt_vals (ρ : Rho) : bytS.vals ρ = [ρ.sv 0, ρ.sv 1, ρ.sv 2, ρ.sv 3, ρ.sv 4, ρ.sv 5] := rfl
theorem byt_args : bytS.args = [0, 1, 2, 3, 4, 5] := rfl

theorem conv_u8 {n : Nat} (h : n ≤ 8) : IntKind.u8.wrap (intBin .add .i64 97 (n : Int)) = 97 + n := by
  rw [add64 (by omega) (by omega)]
  unfold IntKind.wrap; simp [IntKind.signed, IntKind.bits]; omega

theorem byt_leaves (ρ : Rho) (hI : bytInv (bytS.vals ρ)) : bytT.holds ρ (LeafOK bytS bytInv bytR bytMu ρ) := by
  rw [byt_vals] at hI
  simp only [bytInv] at hI
  obtain ⟨h0, h1, h2, h3, n, h4, h5, h6⟩ := hI
  simp only [bytT, holds_br, holds_bad, holds_leaf, leaf_again, leaf_exit, den_lss, den_lss', den_not, den_not', den_eql, den_eql', den_at, den_lit, den_plus, den_bin, den_conv, sv_at, sv_bin, sv_plus, sv_lit, sv_cat1, sv_conv,
    byt_vals, byt_args, List.map_cons, List.map_nil, svOf_look, look, if_true, reduceCtorEq, Nat.reduceEqDiff, if_false]
  generalize hk : ρ.sv 0 = k at *
  generalize hq : ρ.sv 1 = q at *
  generalize hlo : ρ.sv 2 = lo at *
  generalize hlen : ρ.sv 3 = len at *
  generalize hcap : ρ.sv 4 = cap at *
  generalize hi : ρ.sv 5 = i at *
  subst h1 h2 h3 h4
  simp only [ofI_i, Int.toNat_natCast, Int.toNat_zero, List.drop_zero, List.take_length]
  refine ⟨fun a1 => ⟨fun a2 => by omega, fun a2 => ⟨fun a3 => ⟨fun a4 => ?_, fun a4 => by omega⟩, fun a3 => ?_⟩⟩, fun a1 => ?_⟩
  · have hb : bit k.i n = true := by simp [bit, a3]
    have hl : (q.l ++ [SV.ofI (97 + (n : Int))]).length = q.l.length + 1 := by simp
    have e0 : ((q.l.length : Int) + 1) = ((q.l.length + 1 : Nat) : Int) := by omega
    rw [conv_u8 h5, add64 (by omega) (by omega)]
    refine ⟨⟨rfl, rfl, by rw [ofL_l, hl, e0], by rw [ofL_l, hl, e0], n + 1, rfl, by omega, by rw [ofL_l, hl]; omega⟩, by simp only [bytMu, ofI_i]; omega, ?_⟩
    simp only [bytR, ofI_i, ofL_l]
    have e1 : (8 - (n : Int)).toNat = (8 - ((n : Int) + 1)).toNat + 1 := by omega
    rw [e1, bytL, hb]; rfl
  · have hb : bit k.i n = false := by simp [bit, a3]
    rw [add64 (by omega) (by omega)]
    refine ⟨⟨h0, rfl, rfl, rfl, n + 1, rfl, by omega, by omega⟩, by simp only [bytMu, ofI_i]; omega, ?_⟩
    simp only [bytR, ofI_i]
    have e1 : (8 - (n : Int)).toNat = (8 - ((n : Int) + 1)).toNat + 1 := by omega
    rw [e1, bytL, hb]; rfl
  · have e : bytR [k, q, .ofI 0, .ofI q.l.length, .ofI q.l.length, .ofI (n : Int)] = (0, rowX q.l) := by
      simp only [bytR, ofI_i]
      have e1 : (8 - (n : Int)).toNat = 0 := by omega
      rw [e1, bytL]
    rw [e]
    refine ⟨rfl, fun j => ?_⟩
    match j with
    | 0 => simp only [if_true, sv_at, hq]; exact h0
    | 1 => simp only [sv_at, hlo, rowX, Nat.reduceEqDiff, if_false, if_true]
    | 2 => simp only [sv_at, hlen, rowX, Nat.reduceEqDiff, if_false, if_true]
    | 3 => simp only [sv_at, hcap, rowX, Nat.reduceEqDiff, if_false, if_true]
    | j + 4 => simp [rowX]

theorem par_vals (ρ : Rho) : parS.vals ρ = [ρ.sv 0, ρ.sv 1, ρ.sv 2, ρ.sv 3] := rfl
theorem par_args : parS.args = [0, 1, 2, 3] := rfl

theorem drop_u8 {q : List UInt8} {n : Nat} (h : n < q.length) : q.drop n = q.getD n 0 :: q.drop (n + 1) := by
  rw [List.drop_eq_getElem_cons h]
  congr 1
  simp [List.getD, List.getElem?_eq_getElem h]
theorem wrap_u8 (c : UInt8) : IntKind.i64.wrap ((c.toNat : Nat) : Int) = c.toNat := by
  have : c.toNat < 256 := c.toNat_lt
  unfold IntKind.wrap; simp [IntKind.signed, IntKind.bits]; omega

theorem par_leaves (ρ : Rho) (hI : parInv (parS.vals ρ)) : parT.holds ρ (LeafOK parS parInv parR parMu ρ) := by
  rw [par_vals] at hI
  simp only [parInv] at hI
  obtain ⟨⟨m, h0⟩, h1, h2, n, h3, h4⟩ := hI
  simp only [parT, parE0, holds_br, holds_bad, holds_leaf, leaf_again, leaf_exit, den_lss, den_lss', den_not, den_not', den_eql, den_eql', den_at, den_lit, den_plus, den_bin, den_conv, den_slen, den_sat, sv_at, sv_bin, sv_plus, sv_lit,
    par_vals, par_args, List.map_cons, List.map_nil, svOf_look, look, if_true, reduceCtorEq, Nat.reduceEqDiff, if_false]
  generalize hs : ρ.sv 0 = s at *
  generalize hl : ρ.sv 1 = l at *
  generalize hi : ρ.sv 2 = i at *
  generalize hn : ρ.sv 3 = len at *
  subst h0 h1 h3
  simp only [ofI_i, Int.toNat_natCast, wrap_u8]
  generalize hc : s.s.data.toList.getD n 0 = c at *
  have hsz : s.s.data.toList.length = s.s.size := by rw [Array.length_toList]; rfl
  have hcb : c.toNat < 256 := c.toNat_lt
  rw [sub64 (by omega) (by omega)]
  have out : n < s.s.size → parR [s, .ofI m, .ofI (n : Int), .ofI s.s.size] = match parL (c :: s.s.data.toList.drop (n + 1)) m with
      | some v => (0, fun j => if j = 0 then .ofI v else .nul)
      | none => (1, fun _ => .nul) := by
    intro hn
    simp only [parR, ofI_i, Int.toNat_natCast]
    rw [drop_u8 (by omega), hc]
    cases parL (c :: s.s.data.toList.drop (n + 1)) m <;> rfl
  refine ⟨fun a1 => ⟨fun a2 => by omega, fun a2 => ⟨fun a3 => ⟨fun a4 => ?_, fun a4 => ⟨fun a5 => ?_, fun a5 => ⟨fun a6 => ?_, fun a6 => ?_⟩⟩⟩, fun a3 => by omega⟩⟩, fun a1 => ?_⟩
  · rw [out (by omega)]
    simp only [parL, if_pos a4]
    exact ⟨trivial, fun _ => trivial⟩
  · rw [out (by omega)]
    simp only [parL, if_neg (show ¬ ((c.toNat : Int) - 97 < 0) by omega), if_pos (show ¬ ((c.toNat : Int) - 97 < 8) by omega)]
    exact ⟨trivial, fun _ => trivial⟩
  · rw [out (by omega)]
    simp only [parL, if_neg (show ¬ ((c.toNat : Int) - 97 < 0) by omega), if_neg (show ¬ ¬ ((c.toNat : Int) - 97 < 8) by omega), if_pos a6]
    exact ⟨trivial, fun _ => trivial⟩
  · rw [out (by omega), add64 (by omega) (by omega)]
    refine ⟨⟨⟨_, rfl⟩, rfl, h2, n + 1, rfl, by omega⟩, by simp only [parMu, ofI_i]; omega, ?_⟩
    simp only [parL, if_neg (show ¬ ((c.toNat : Int) - 97 < 0) by omega), if_neg (show ¬ ¬ ((c.toNat : Int) - 97 < 8) by omega), if_neg (show ¬ ¬ intBin .shr .i64 m ((c.toNat : Int) - 97) = 0 by simp [a6])]
    simp only [parR, ofI_i]
    have e1 : ((n : Int) + 1).toNat = n + 1 := by omega
    rw [e1]
    rfl
  · have e : parR [s, .ofI m, .ofI (n : Int), .ofI s.s.size] = (0, fun j => if j = 0 then .ofI m else .nul) := by
      simp only [parR, ofI_i, Int.toNat_natCast]
      rw [List.drop_eq_nil_of_le (by omega)]
      rfl
    rw [e]
    refine ⟨rfl, fun j => ?_⟩
    by_cases e : j = 0
    · subst e; simp only [if_true, sv_at, hl]
    · simp only [if_neg e]

theorem cnt_vals (ρ : Rho) : cntS.vals ρ = [ρ.sv 0, ρ.sv 1] := rfl
theorem cnt_args : cntS.args = [0, 1] := rfl
theorem cnt_at {k : Int} (h0 : 0 < k) (h1 : k < 256) : 0 ≤ intBin .and .i64 k (intBin .sub .i64 k 1) ∧ intBin .and .i64 k (intBin .sub .i64 k 1) < k ∧ pop (intBin .and .i64 k (intBin .sub .i64 k 1)) + 1 = pop k := by
  have := cnt_facts ⟨k.toNat, by omega⟩ (by simp only; omega)
  have e : ((k.toNat : Nat) : Int) = k := by omega
  simp only [e] at this
  exact this

theorem cnt_leaves (ρ : Rho) (hI : cntInv (cntS.vals ρ)) : cntT.holds ρ (LeafOK cntS cntInv cntR cntMu ρ) := by
  rw [cnt_vals] at hI
  simp only [cntInv] at hI
  obtain ⟨h0, h1, h2, h3, h4⟩ := hI
  simp only [cntT, holds_br, holds_bad, holds_leaf, leaf_again, leaf_exit, den_not, den_not', den_eql, den_eql', den_at, den_lit, den_bin, sv_at, sv_bin, sv_lit,
    cnt_vals, cnt_args, List.map_cons, List.map_nil, svOf_look, look, if_true, reduceCtorEq, Nat.reduceEqDiff, if_false]
  generalize hk : ρ.sv 0 = k at *
  generalize hn : ρ.sv 1 = n at *
  refine ⟨fun a1 => ?_, fun a1 => ?_⟩
  · obtain ⟨g1, g2, g3⟩ := cnt_at (k := k.i) (by omega) h1
    rw [add64 (by omega) (by omega)]
    refine ⟨⟨by simpa only [ofI_i] using g1, by simp only [ofI_i]; omega, rfl, by simp only [ofI_i]; omega, by simp only [ofI_i]; omega⟩, by simp only [cntMu, ofI_i]; omega, ?_⟩
    simp only [cntR, ofI_i]
    have e : n.i + 1 + pop (intBin .and .i64 k.i (intBin .sub .i64 k.i 1)) = n.i + pop k.i := by omega
    rw [e]
  · have e : cntR [k, n] = (0, fun j => if j = 0 then .ofI n.i else .nul) := by
      simp only [cntR, a1]
      have : pop 0 = 0 := by decide +kernel
      rw [this, Int.add_zero]
    rw [e]
    refine ⟨rfl, fun j => ?_⟩
    by_cases e : j = 0
    · subst e; simp only [if_true, sv_at, hn]; exact h2
    · simp only [if_neg e]
end Go.Sx.L
