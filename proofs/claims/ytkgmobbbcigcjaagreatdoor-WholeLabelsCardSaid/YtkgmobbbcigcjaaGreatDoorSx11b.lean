/- An executor for the model's Go code over an abstract state: rows that are appended. -/
import Derived.Test.YtkgmobbbcigcjaaGreatDoorSx11
import Derived.Test.YtkgmobbbcigcjaaGreatDoorSx8b
namespace Go.Sx
set_option linter.unusedVariables false
section
variable {ρ : Rho} {δ : Dl} {P : Program} {w : World} {hs : HS}

theorem groupE_sound {row : List CK} (hw : 1 ≤ row.length) : ∀ (m : Nat) (vs : List AV) (es : List IE) (us : List Value), groupE row m vs = some es → VRels ρ δ vs us →
    us = rowCs row (es.map (IE.sv ρ)) ∧ es.length = m
  | 0, [], es, us, h, hv => by simp [groupE] at h; subst h; simp only [VRels] at hv; subst hv; exact ⟨rfl, rfl⟩
  | 0, _ :: _, es, us, h, _ => by simp [groupE] at h
  | m + 1, vs, es, us, h, hv => by
    simp only [groupE] at h
    split at h
    case h_2 => cases h
    rename_i ps hps
    split at h
    case h_2 => cases h
    rename_i r hl hr
    have hl := beq_eq hl
    simp only [Option.some.injEq] at h; subst h
    obtain ⟨h1, h2⟩ := CK.ofs_sound hps (hv.take row.length)
    obtain ⟨h3, h4⟩ := groupE_sound hw m _ r _ hr (hv.drop row.length)
    refine ⟨?_, by simp [h4]⟩
    simp only [List.map_cons, rowCs]
    rw [← h3]
    have hlen : (vs.take row.length).length = row.length := by rw [← h1, hl]
    have hvl := hv.length
    rw [List.length_take] at hlen
    have : us.take row.length = rowC row ((newE row.length 0 ps (.lit 0)).sv ρ) := by
      apply List.ext_getElem?
      intro j
      rw [rowC_get]
      by_cases hj : j < row.length
      · obtain ⟨u, hu⟩ : ∃ u, (us.take row.length)[j]? = some u := ⟨_, List.getElem?_eq_getElem (by rw [List.length_take]; omega)⟩
        obtain ⟨ck, e, h5, h6, h7⟩ := h2 j u hu
        rw [hu, h5, mixE_part hj (by omega), Nat.sub_zero, h6]
        have : Nat.ble 0 j = true := Nat.ble_eq_true_of_le (Nat.zero_le _)
        rw [this]
        simp [h7]
      · rw [List.getElem?_eq_none (by rw [List.length_take]; omega), List.getElem?_eq_none (by omega)]
        rfl
    rw [← this]
    exact (List.take_append_drop _ _).symm

theorem subE_l (q lo len : IE) : ((subE q lo len).sv ρ).l = ((q.sv ρ).l.drop (lo.den ρ).toNat).take (len.den ρ).toNat := by
  have gen : ((IE.prim .sub [q, lo, len]).sv ρ).l = ((q.sv ρ).l.drop (lo.den ρ).toNat).take (len.den ρ).toNat := by
    simp [IE.sv, IE.svs, Prim.den, SV.ofL, SV.l, IE.den]
  unfold subE
  split
  · rename_i q'
    split
    · rename_i h
      have := IE.same_eq h
      subst this
      simp [IE.den, IE.sv, IE.svs, Prim.den, SV.ofI, SV.i]
    · exact gen
  · exact gen

theorem catE_l (a b : IE) : ((catE a b).sv ρ).l = (a.sv ρ).l ++ (b.sv ρ).l := by
  unfold catE
  split
  · simp [IE.sv, IE.svs, Prim.den, SV.ofL, SV.l]
  · simp [IE.sv, svs_map, Prim.den, SV.ofL, SV.l]
  · simp [IE.sv, IE.svs, Prim.den, SV.ofL, SV.l]

theorem run_firstCells_nil (w : World) (size c : Nat) (p : Option Addr) : (Builtin.firstCells size 0 (.slice p 0 c)).run P w = .ok #[] w := by
  cases p with
  | none => simp [Builtin.firstCells]
  | some a =>
    have := run_firstCells_some (P := P) w size 0 a 0 c [] (by simp) (fun j x hx => by simp at hx)
    simpa using this

theorem srcRow_sound {row : List CK} (hw : 1 ≤ row.length) {x : AV} {ux : Value} {news m : IE} (hb : ∀ n b, hs.heap.get n = some b → BRep ρ δ w n b) (hv : VRel ρ δ x ux)
    (h : srcRow hs.heap row x = some (news, m)) :
    m.den ρ = ((news.sv ρ).l.length : Int) ∧ ∀ w' : World, w'.heap = w.heap → (Builtin.lenOf ux).run P w' = .ok (news.sv ρ).l.length w' ∧
      (Builtin.firstCells row.length (news.sv ρ).l.length ux).run P w' = .ok (rowCs row (news.sv ρ).l).toArray w' := by
  unfold srcRow at h
  split at h
  · rename_i n rm wd lo len ex cap
    simp only [VRel] at hv
    split at h
    case h_2 => cases h
    rename_i q row' elem rm' rw hg
    split at h
    case h_2 => cases h
    rename_i e1 e2 e3
    have e1 := beq_eq e1; have e2 := of_decide_eq_true e2; have e3 := beq_eq e3
    subst e1 e2 e3
    simp only [Option.some.injEq, Prod.mk.injEq] at h
    obtain ⟨rfl, rfl⟩ := h
    obtain ⟨g1, g2, g3, b, o, r, cnt, c, g4, g5, g6, g7, g8, g9, g10⟩ := hv
    obtain ⟨b', o', r', k1, k2, k3, k4⟩ := hb _ _ hg
    rw [g4] at k1
    simp only [Option.some.injEq, Prod.mk.injEq] at k1
    obtain ⟨rfl, rfl⟩ := k1
    rw [g6] at k3
    injection k3 with k3
    have hlen : ((subE q lo len).sv ρ).l.length = (len.den ρ).toNat := by
      rw [subE_l, List.length_take, List.length_drop]; omega
    rw [hlen]
    refine ⟨by omega, fun w' hw' => ?_⟩
    rcases g10 with ⟨g10, p, rfl⟩ | ⟨g10, g11, rfl⟩
    · have h0 : (len.den ρ).toNat = 0 := by omega
      have hnil : ((subE q lo len).sv ρ).l = [] := List.eq_nil_of_length_eq_zero (by rw [hlen, h0])
      rw [h0, hnil]
      exact ⟨by simp [Builtin.lenOf], run_firstCells_nil w' _ _ _⟩
    · refine ⟨by simp [Builtin.lenOf], ?_⟩
      rcases k4 with ⟨k4, _⟩ | ⟨_, cur, fr, ⟨_, k5, _⟩, k6, _, k7, k8⟩
      · exact absurd k4 g10
      have hcells := rowAt_iff.1 (show RowAt row (q.sv ρ).l cur o from k6)
      refine run_firstCells_some w' row.length (len.den ρ).toNat ⟨b, o + (lo.den ρ).toNat * row.length, none⟩ _ c (rowCs row ((subE q lo len).sv ρ).l) (by rw [rowCs_length, hlen]) fun j u hu => ?_
      have hj : j < (rowCs row ((subE q lo len).sv ρ).l).length := (List.getElem?_eq_some_iff.1 hu).1
      rw [addr_add]
      simp only [World.cell?, hw', k5]
      have hsplit : (q.sv ρ).l = (q.sv ρ).l.take (lo.den ρ).toNat ++ (((q.sv ρ).l.drop (lo.den ρ).toNat).take (len.den ρ).toNat ++ ((q.sv ρ).l.drop (lo.den ρ).toNat).drop (len.den ρ).toNat) := by
        rw [List.take_append_drop, List.take_append_drop]
      have hget : (rowCs row (q.sv ρ).l)[(lo.den ρ).toNat * row.length + j]? = some u := by
        rw [hsplit, rowCs_append, rowCs_append, ← subE_l]
        have hll : (rowCs row ((q.sv ρ).l.take (lo.den ρ).toNat)).length = (lo.den ρ).toNat * row.length := by
          rw [rowCs_length, List.length_take]
          congr 1; omega
        rw [List.getElem?_append_right (by omega), hll, List.getElem?_append_left (by omega)]
        rw [← hu]; congr 1; omega
      have := hcells _ _ hget
      rw [← Nat.add_assoc] at this
      simpa using this
  · rename_i n off len cap
    have hv' := hv
    simp only [VRel] at hv
    split at h
    case h_2 => cases h
    rename_i cs km elem tl rw hla hg
    split at h
    case h_2 => cases h
    rename_i vs hvs
    split at h
    case h_2 => cases h
    rename_i es hes
    simp only [Option.some.injEq, Prod.mk.injEq] at h
    obtain ⟨rfl, rfl⟩ := h
    obtain ⟨us, h1, h2, h3⟩ := src_sound (P := P) (hs := hs) (m := len.n) hb hv' (by simp [lenOf, hla]) (show srcCells hs.heap (.slice n off len cap) len.n row.length = some vs by simp only [srcCells, hg]; exact hvs)
    obtain ⟨h4, h5⟩ := groupE_sound hw _ _ _ _ hes h2
    have hl : ((IE.prim .row es).sv ρ).l = es.map (IE.sv ρ) := by simp [IE.sv, svs_map, Prim.den, SV.ofL, SV.l]
    rw [hl, List.length_map, h5]
    refine ⟨rfl, fun w' hw' => ?_⟩
    obtain ⟨h6, h7⟩ := h3 w' hw'
    refine ⟨h6, ?_⟩
    rw [h7, ← h4]
  · simp only [VRel] at hv
    subst hv
    simp only [Option.some.injEq, Prod.mk.injEq] at h
    obtain ⟨rfl, rfl⟩ := h
    have hl : ((IE.prim .row []).sv ρ).l = [] := by simp [IE.sv, IE.svs, Prim.den, SV.ofL, SV.l]
    rw [hl]
    exact ⟨rfl, fun w' _ => ⟨by simp [Builtin.lenOf], run_firstCells_nil w' _ _ _⟩⟩
  · cases h
end
end Go.Sx
