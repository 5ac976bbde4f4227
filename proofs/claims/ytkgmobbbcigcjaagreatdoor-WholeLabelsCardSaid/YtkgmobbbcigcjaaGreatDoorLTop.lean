/- WholeLabels: the law answers true. -/
import Derived.Test.YtkgmobbbcigcjaaGreatDoorLMain2
import Derived.Test.YtkgmobbbcigcjaaGreatDoorLLeaf1
namespace Go.Sx.L
set_option linter.unusedVariables false
open Go Go.Sx

theorem ints_all (l : List SV) : ((ints l).all fun x => okN x.i) = l.all fun x => okN x.i := by
  simp [ints, List.all_map, Function.comp_def, ofI_i]
theorem ints_fold (op : BinOp) (l : List SV) (a : SV) : (ints l).foldl (fun a x => .ofI (intBin op .i64 a.i x.i)) a = l.foldl (fun a x => .ofI (intBin op .i64 a.i x.i)) a := by
  simp [ints, List.foldl_map, ofI_i]
theorem ints_len (l : List SV) : (ints l).length = l.length := by simp [ints]
theorem idx_len (c : Int → Bool) : ∀ (i : Nat) (l : List SV), (idx c i l).length ≤ l.length
  | _, [] => by simp [idx]
  | i, x :: xs => by
    have := idx_len c (i + 1) xs
    simp only [idx]
    split <;> simp <;> omega

theorem top_n (ρ : Rho) (h0 : 0 ≤ (ρ.sv 2).i) (h1 : (ρ.sv 2).i < 256) : -1 ≤ (topE0.sv ρ).i ∧ (topE0.sv ρ).i ≤ 10 := by
  have hr : intBin .rem .u8 (ρ.sv 2).i 12 = (ρ.sv 2).i % 12 := by
    show (ρ.sv 2).i.tmod 12 = _
    rw [Int.tmod_eq_emod_of_nonneg h0]
  have e : (topE0.sv ρ).i = intBin .sub .i64 (IntKind.i64.wrap (intBin .rem .u8 (ρ.sv 2).i 12)) 1 := rfl
  rw [e, hr, wrap64_small (by omega) (by omega), sub64 (by omega) (by omega)]
  omega

theorem top_leaves (ρ : Rho) (hf : ρ.fn = fn) (h1 : ρ.sv 1 = .ofI (ρ.sv 0).l.length) (hr : ∀ e ∈ (ρ.sv 0).l, -32768 ≤ e.i ∧ e.i ≤ 32767) (hn0 : 0 ≤ (ρ.sv 2).i) (hn1 : (ρ.sv 2).i < 256) :
    topT.holds ρ fun b => b.den ρ = true := by
  obtain ⟨hb1, hb2⟩ := top_n ρ hn0 hn1
  refine ⟨fun _ => rfl, fun hm => ?_⟩
  rw [den_not', den_lss, den_at, h1, ofI_i, den_lit] at hm
  generalize hq : ρ.sv 0 = q at *
  -- the law's loop
  have hA : mainInv [q, .ofI 0, .ofI q.l.length, .ofI 0, topE0.sv ρ, .ofL [], .ofI 0, .ofI 0, .ofI 0, .ofI 0, .ofI 255, .ofI 1] :=
    ⟨rfl, rfl, by omega, hr, hb1, hb2, 0, by omega, rfl, rfl, rfl, rfl, rfl, rfl, rfl, rfl⟩
  have svA : IE.svs ρ [(.at 0), (.lit 0), (.at 1), (.lit 0), topE0, (.prim .row []), (.lit 0), (.lit 0), (.lit 0), (.lit 0), (.lit 255), (.lit 1)] = [q, .ofI 0, .ofI q.l.length, .ofI 0, topE0.sv ρ, .ofL [], .ofI 0, .ofI 0, .ofI 0, .ofI 0, .ofI 255, .ofI 1] := by
    simp only [IE.svs, sv_at, sv_lit, sv_row0, hq, h1]
  have out : ∀ i : Nat, fn (5 + 64 * (2 + 2 * i)) [q, .ofI 0, .ofI q.l.length, .ofI 0, topE0.sv ρ, .ofL [], .ofI 0, .ofI 0, .ofI 0, .ofI 0, .ofI 255, .ofI 1] = mainO q.l i := fun i => fn_outs (b := 5) (by omega) i _
  have s1 : topE1.sv ρ = .ofL (ints q.l) := by rw [topE1, sv_app, hf, svA]; exact out 0
  have s4 : topE4.sv ρ = .ofI 0 := by rw [topE4, sv_app, hf, svA]; exact out 1
  have s3 : topE3.sv ρ = .ofI q.l.length := by rw [topE3, sv_app, hf, svA]; exact out 2
  have s6 : topE6.sv ρ = .ofI q.l.length := by rw [topE6, sv_app, hf, svA]; exact out 3
  have s5 : topE5.sv ρ = q.l.foldl (fun a x => .ofI (intBin .or .i64 a.i x.i)) (.ofI 0) := by rw [topE5, sv_app, hf, svA]; exact out 4
  have s2 : topE2.sv ρ = q.l.foldl (fun a x => .ofI (intBin .and .i64 a.i x.i)) (.ofI 255) := by rw [topE2, sv_app, hf, svA]; exact out 5
  refine br_T ?_ (br_T ?_ ?_)
  · rw [den_is, den_app, hf, svA]; exact (fn_inv (b := 5) (by omega) _).2 hA
  · rw [den_is, den_app, hf, svA]; exact (fn_kind (b := 5) (by omega) 0 _).2 rfl
  -- the law's second loop
  have svB : IE.svs ρ [topE1, topE4, topE3, topE6, (.lit 0), (.prim .row []), (.lit 0), (.lit 0), (.lit 0)] = [.ofL (ints q.l), .ofI 0, .ofI q.l.length, .ofI q.l.length, .ofI 0, .ofL [], .ofI 0, .ofI 0, .ofI 0] := by
    simp only [IE.svs, sv_lit, sv_row0, s1, s4, s3, s6]
  obtain ⟨u, hu⟩ : ∃ u, u = idx (below (nth (.ofL (ints q.l)) 0)) 0 (ints q.l) := ⟨_, rfl⟩
  have hul : u.length ≤ q.l.length := by rw [hu, ← ints_len q.l]; exact idx_len _ _ _
  have outB : ∀ i : Nat, fn (4 + 64 * (2 + 2 * i)) [.ofL (ints q.l), .ofI 0, .ofI q.l.length, .ofI q.l.length, .ofI 0, .ofL [], .ofI 0, .ofI 0, .ofI 0] = lowO (ints q.l) u i := fun i => by
    rw [hu]; exact fn_outs (b := 4) (by omega) i _
  have s10 : topE10.sv ρ = .ofI 0 := by rw [topE10, sv_app, hf, svB]; exact outB 0
  have s9 : topE9.sv ρ = .ofI q.l.length := by rw [topE9, sv_app, hf, svB, ← ints_len q.l]; exact outB 1
  have s8 : topE8.sv ρ = .ofL u := by rw [topE8, sv_app, hf, svB]; exact outB 3
  have s12 : topE12.sv ρ = .ofI 0 := by rw [topE12, sv_app, hf, svB]; exact outB 4
  have s11 : topE11.sv ρ = .ofI u.length := by rw [topE11, sv_app, hf, svB]; exact outB 5
  have b7 : (BE.is topE7).den ρ = true := by
    rw [den_is, topE7, den_app, hf, svB]
    refine (fn_inv (b := 4) (by omega) _).2 ⟨rfl, ?_, ?_, ⟨0, rfl, by omega, by simp [ofL_l]⟩, ?_, rfl, rfl, rfl, rfl⟩
    · rw [ofL_l, ints_len]
    · rw [ofL_l, ints_len]
    · rw [ofL_l, ints_len]; omega
  -- what is together, what is common
  have svC : IE.svs ρ [(.lit 0), topE1, topE10, topE9, (.lit 0)] = [.ofI 0, .ofL (ints q.l), .ofI 0, .ofI q.l.length, .ofI 0] := by
    simp only [IE.svs, sv_lit, s1, s10, s9]
  have svD : IE.svs ρ [(.lit 255), topE1, topE10, topE9, (.lit 0)] = [.ofI 255, .ofL (ints q.l), .ofI 0, .ofI q.l.length, .ofI 0] := by
    simp only [IE.svs, sv_lit, s1, s10, s9]
  have hfi : ∀ x : SV, foldInv [x, .ofL (ints q.l), .ofI 0, .ofI q.l.length, .ofI 0] := fun x =>
    ⟨rfl, by rw [ofL_l, ints_len], ⟨0, rfl, by omega⟩, by rw [ofL_l, ints_len]; omega⟩
  have b14 : (BE.is topE14).den ρ = true := by
    rw [den_is, topE14, den_app, hf, svC]; exact (fn_inv (b := 1) (by omega) _).2 (hfi (.ofI 0))
  have b16 : (BE.is topE16).den ρ = true := by
    rw [den_is, topE16, den_app, hf, svD]; exact (fn_inv (b := 2) (by omega) _).2 (hfi (.ofI 255))
  have hR : ∀ (op : BinOp) (x : SV), foldR op [x, .ofL (ints q.l), .ofI 0, .ofI q.l.length, .ofI 0] = match q.l.all fun x => okN x.i with
      | true => (0, fun j => if j = 0 then q.l.foldl (fun a x => .ofI (intBin op .i64 a.i x.i)) x else .nul)
      | false => (1, fun _ => .nul) := by
    intro op x
    show foldO op x (ints q.l) = _
    unfold foldO
    rw [ints_all, ints_fold]
    cases q.l.all fun x => okN x.i <;> rfl
  have k15 : (BE.is topE15).den ρ = q.l.all fun x => okN x.i := by
    have h := fn_kind (b := 1) (by omega) 0 [.ofI 0, .ofL (ints q.l), .ofI 0, .ofI q.l.length, .ofI 0]
    have h : (fn 65 [.ofI 0, .ofL (ints q.l), .ofI 0, .ofI q.l.length, .ofI 0]).i ≠ 0 ↔ (foldR .or [.ofI 0, .ofL (ints q.l), .ofI 0, .ofI q.l.length, .ofI 0]).1 = 0 := h
    rw [hR] at h
    cases hall : q.l.all fun x => okN x.i with
    | true =>
      rw [hall] at h
      rw [den_is, topE15, den_app, hf, svC]; exact h.2 rfl
    | false =>
      rw [hall] at h
      rw [den_is', topE15, den_app, hf, svC]
      exact Decidable.byContradiction fun e => absurd (h.1 e) (by simp)
  have k18 : (BE.is topE18).den ρ = q.l.all fun x => okN x.i := by
    have h := fn_kind (b := 2) (by omega) 0 [.ofI 255, .ofL (ints q.l), .ofI 0, .ofI q.l.length, .ofI 0]
    have h : (fn 66 [.ofI 255, .ofL (ints q.l), .ofI 0, .ofI q.l.length, .ofI 0]).i ≠ 0 ↔ (foldR .and [.ofI 255, .ofL (ints q.l), .ofI 0, .ofI q.l.length, .ofI 0]).1 = 0 := h
    rw [hR] at h
    cases hall : q.l.all fun x => okN x.i with
    | true =>
      rw [hall] at h
      rw [den_is, topE18, den_app, hf, svD]; exact h.2 rfl
    | false =>
      rw [hall] at h
      rw [den_is', topE18, den_app, hf, svD]
      exact Decidable.byContradiction fun e => absurd (h.1 e) (by simp)
  have s17 : (q.l.all fun x => okN x.i) = true → topE17.sv ρ = q.l.foldl (fun a x => .ofI (intBin .or .i64 a.i x.i)) (.ofI 0) := by
    intro hall
    have h : fn 129 [.ofI 0, .ofL (ints q.l), .ofI 0, .ofI q.l.length, .ofI 0] = (foldR .or [.ofI 0, .ofL (ints q.l), .ofI 0, .ofI q.l.length, .ofI 0]).2 0 := fn_outs (b := 1) (by omega) 0 _
    rw [topE17, sv_app, hf, svC, h, hR, hall]
    rfl
  have s19 : (q.l.all fun x => okN x.i) = true → topE19.sv ρ = q.l.foldl (fun a x => .ofI (intBin .and .i64 a.i x.i)) (.ofI 255) := by
    intro hall
    have h : fn 130 [.ofI 255, .ofL (ints q.l), .ofI 0, .ofI q.l.length, .ofI 0] = (foldR .and [.ofI 255, .ofL (ints q.l), .ofI 0, .ofI q.l.length, .ofI 0]).2 0 := fn_outs (b := 2) (by omega) 0 _
    rw [topE19, sv_app, hf, svD, h, hR, hall]
    rfl
  -- who flows to the first one
  have s13 : (topE13.sv ρ).i = nth (.ofL (ints q.l)) 0 := by
    rw [topE13, sv_sel, s1, IE.den, s10]; rfl
  have svE : IE.svs ρ [topE13, topE1, topE10, topE9, (.lit 0), (.prim .row []), (.lit 0), (.lit 0), (.lit 0)] = [topE13.sv ρ, .ofL (ints q.l), .ofI 0, .ofI q.l.length, .ofI 0, .ofL [], .ofI 0, .ofI 0, .ofI 0] := by
    simp only [IE.svs, sv_lit, sv_row0, s1, s10, s9]
  have outE : ∀ i : Nat, fn (3 + 64 * (2 + 2 * i)) [topE13.sv ρ, .ofL (ints q.l), .ofI 0, .ofI q.l.length, .ofI 0, .ofL [], .ofI 0, .ofI 0, .ofI 0] = rowX u i := fun i => by
    rw [hu, ← s13]; exact fn_outs (b := 3) (by omega) i _
  have s22 : topE22.sv ρ = .ofL u := by rw [topE22, sv_app, hf, svE]; exact outE 0
  have s23 : topE23.sv ρ = .ofI 0 := by rw [topE23, sv_app, hf, svE]; exact outE 1
  have s21 : topE21.sv ρ = .ofI u.length := by rw [topE21, sv_app, hf, svE]; exact outE 2
  have b20 : (BE.is topE20).den ρ = true := by
    rw [den_is, topE20, den_app, hf, svE]
    refine (fn_inv (b := 3) (by omega) _).2 ⟨rfl, ?_, ⟨0, rfl, by omega, by simp [ofL_l]⟩, ?_, rfl, rfl, rfl, rfl⟩
    · rw [ofL_l, ints_len]
    · rw [ofL_l, ints_len]; omega
  have svF : IE.svs ρ [topE22, topE23, topE21, topE8, topE12, topE11, (.lit 0)] = [.ofL u, .ofI 0, .ofI u.length, .ofL u, .ofI 0, .ofI u.length, .ofI 0] := by
    simp only [IE.svs, sv_lit, s22, s23, s21, s8, s12, s11]
  have b24 : (BE.is topE24).den ρ = true := by
    rw [den_is, topE24, den_app, hf, svF]
    refine (fn_inv (b := 0) (by omega) _).2 (show eqInv [.ofL u, .ofI 0, .ofI u.length, .ofL u, .ofI 0, .ofI u.length, .ofI 0] from ?_)
    refine ⟨Int.le_refl 0, ?_, rfl, ?_, Int.le_refl 0, Int.le_refl 0⟩
    · show (0 : Int) ≤ (u.length : Int); omega
    · show (u.length : Int) ≤ 1000000; omega
  have b25 : (BE.is topE25).den ρ = true := by
    rw [den_is, topE25, den_app, hf, svF]
    refine (fn_kind (b := 0) (by omega) 0 _).2 ?_
    show ex01 _ = 0
    exact ex01_pos fun _ _ _ => rfl
  have b21 : (BE.not (.cmp .eql topE21 topE11)).den ρ = false := by
    rw [den_not', den_eql, IE.den, IE.den, s21, s11]
  have tail : ∀ (t : Tr BE), t = (.br (.cmp .eql topE9 (.lit 0)) (.leaf (.lit true)) (.br (.not (.cmp .lss topE9 (.lit 1))) (.br (.is topE20) (.br (.not (.cmp .eql topE21 topE11)) (.leaf (.lit false)) (.br (.is topE24) (.br (.is topE25) (.leaf (.lit true)) (.leaf (.lit false))) (.bad 50))) (.bad 50)) (.bad 2))) →
      t.holds ρ fun b => b.den ρ = true := by
    rintro _ rfl
    refine ⟨fun _ => rfl, fun h9 => ?_⟩
    have e9 : topE9.den ρ = q.l.length := by rw [IE.den, s9]; rfl
    rw [den_eql', e9, den_lit] at h9
    refine br_T ?_ (br_T b20 (br_F b21 (br_T b24 (br_T b25 rfl))))
    rw [den_not, den_lss', e9, den_lit]
    omega
  have kis : (BE.not (.is (.app 901 [(.at 0), (.lit 0), (.at 1), (.lit 0), topE0, (.prim .row []), (.lit 0), (.lit 0), (.lit 0), (.lit 0), (.lit 255), (.lit 1)]))).den ρ = !(q.l.all fun x => okN x.i) := by
    have h : fn 901 [q, .ofI 0, .ofI q.l.length, .ofI 0, topE0.sv ρ, .ofL [], .ofI 0, .ofI 0, .ofI 0, .ofI 0, .ofI 255, .ofI 1] = .ofI (if (q.l.all fun x => okN x.i) then 1 else 0) := out 6
    simp only [BE.den]
    rw [den_app, hf, svA, h]
    cases q.l.all fun x => okN x.i <;> rfl
  cases hall : q.l.all fun x => okN x.i with
  | false =>
    rw [hall] at k15 k18 kis
    exact br_T kis (br_T b7 (br_T b14 (br_F k15 (br_T b16 (br_F k18 (tail _ rfl))))))
  | true =>
    rw [hall] at k15 k18 kis
    refine br_F kis (br_T b7 (br_T b14 (br_T k15 (br_T ?_ (br_T b16 (br_T k18 (br_T ?_ (tail _ rfl))))))))
    · rw [den_eql, IE.den, IE.den, s17 hall, s5]
    · rw [den_eql, IE.den, IE.den, s19 hall, s2]
end Go.Sx.L
