/- An executor for the model's Go code over an abstract state: rows that are appended; operations with effects. -/
import Derived.Test.YtkgmobbbcigcjaaGreatDoorSx11b
namespace Go.Sx
set_option linter.unusedVariables false
section
variable {ρ : Rho} {δ : Dl} {P : Program} {w : World} {hs : HS}

theorem askE_val {pc : PC} {b : BE} {r : ER} {v : AV} {hs' : HS} (hp : PCh ρ pc) (h : askE pc b r = .val v hs') : b.den ρ = true ∧ r = .val v hs' := by
  unfold askE at h
  split at h
  · rename_i hx; exact ⟨dec_sound hp hx, h⟩
  · cases h
  · cases h

theorem rowAt_of_cells {row : List CK} {l : List SV} {cur : Array Value} {o : Nat} (h : ∀ k, k < l.length * row.length → cur[o + k]? = (rowCs row l)[k]?) : RowAt row l cur o := by
  refine rowAt_iff.2 fun k u hk => ?_
  have hlt := (List.getElem?_eq_some_iff.1 hk).1
  rw [rowCs_length] at hlt
  rw [h k hlt, hk]

/-- Nothing is there, and it has a name. -/
theorem HRep.rowNil (hr : HRep ρ δ hs w) {q : IE} {row : List CK} {elem : TypeId} {H : T ABlk} (hq : (q.sv ρ).l = [])
    (hH : ∀ k blk, H.get k = some blk → (k = hs.nx ∧ blk = .seq q row elem hs.nc true) ∨ (k ≠ hs.nx ∧ blk.live = false) ∨ (k ≠ hs.nx ∧ hs.heap.get k = some blk)) :
    ∃ δ', HRep ρ δ' { heap := H, nx := hs.nx + 1, nc := hs.nc + 2 } w ∧ Evo δ hs w δ' { heap := H, nx := hs.nx + 1, nc := hs.nc + 2 } w ∧
      δ'.at_ hs.nx = some (gy, 0) ∧ δ'.cap hs.nc = some 0 ∧ δ'.cap (hs.nc + 1) = some (q.sv ρ).l.length :=
  hr.rowBind (w' := w) (b := gy) (o := 0) (r := 0)
    (fun k blk hk => by
      rcases hH k blk hk with h | h | ⟨h1, h2⟩
      · exact .inl h
      · exact .inr (.inl h)
      · exact .inr (.inr ⟨h1, h2, fun _ _ _ _ h => absurd rfl h⟩))
    (Nat.le_refl _) (fun _ _ _ => rfl) (.inl rfl) hr.pos (.inl ⟨rfl, hq⟩) rfl rfl rfl

/-- A new block. -/
theorem HRep.rowNew (hr : HRep ρ δ hs w) {q : IE} {row : List CK} {elem : TypeId} {H : T ABlk} {cells extra : Array Value} {w' : World}
    (hw : w'.heap = w.heap.push (.cells (cells ++ extra) elem)) (ho : w'.os = w.os) (ht : w'.tape = w.tape) (hout : w'.output = w.output)
    (hc : cells.toList = rowCs row (q.sv ρ).l)
    (hH : ∀ k blk, H.get k = some blk → (k = hs.nx ∧ blk = .seq q row elem hs.nc true) ∨ (k ≠ hs.nx ∧ blk.live = false) ∨ (k ≠ hs.nx ∧ hs.heap.get k = some blk)) :
    ∃ δ', HRep ρ δ' { heap := H, nx := hs.nx + 1, nc := hs.nc + 2 } w' ∧ Evo δ hs w δ' { heap := H, nx := hs.nx + 1, nc := hs.nc + 2 } w' ∧
      δ'.at_ hs.nx = some (w.heap.size, 0) ∧ δ'.cap hs.nc = some (cells ++ extra).size ∧ δ'.cap (hs.nc + 1) = some (q.sv ρ).l.length := by
  have hsz : w'.heap.size = w.heap.size + 1 := by rw [hw]; simp
  have hcs : cells.size = (q.sv ρ).l.length * row.length := by rw [← rowCs_length, ← hc]; simp
  refine hr.rowBind (w' := w') (b := w.heap.size) (o := 0) (r := (cells ++ extra).size)
    (fun k blk hk => by
      rcases hH k blk hk with h | h | ⟨h1, h2⟩
      · exact .inl h
      · exact .inr (.inl h)
      · exact .inr (.inr ⟨h1, h2, fun y o' ha hl _ => Nat.ne_of_lt ((hr.blk k blk h2).lt hr.pos hl ha)⟩))
    (by omega) (fun y hy _ => by rw [hw, Array.getElem?_push_lt hy, Array.getElem?_eq_getElem hy]) (.inr (.inl (Nat.le_refl _))) (by omega) ?_ ho ht hout
  refine .inr ⟨Nat.ne_of_gt hr.pos, cells ++ extra, by rw [hw]; simp, ?_, by omega, by rw [Array.size_append]; omega⟩
  refine rowAt_of_cells fun k hk => ?_
  rw [Nat.zero_add, Array.getElem?_append_left (by omega), ← hc, Array.getElem?_toList]

set_option maxHeartbeats 1000000 in
theorem appendRow_sound {pc : PC} {st xt ty : TypeId} {s x v : AV} {us ux : Value} {hs' : HS} (hp : PCh ρ pc) (hr : HRep ρ δ hs w) (hvs : VRel ρ δ s us) (hvx : VRel ρ δ x ux)
    (h : appendRow P pc st xt s x hs = .val v hs') : Comes1 ρ δ hs w ((Builtin.append_ #[st, xt] ty #[us, ux]).run P w) v hs' := by
  unfold appendRow at h
  split at h
  case h_2 => cases h
  rename_i elem ht
  split at h
  case h_2 => cases h
  rename_i i xd row hi hx hrow
  split at h
  case h_2 => cases h
  rename_i hni hz hsz hwd
  have hsz1 : 1 ≤ i.size := ble_le hsz
  have hwd := beq_eq hwd
  have hw1 : 1 ≤ row.length := by omega
  obtain ⟨z, hz1, hz2⟩ : ∃ z, i.zero = some z ∧ z.cells.size = i.size := by
    split at hz
    · rename_i z hz'; exact ⟨z, hz', beq_eq hz⟩
    · cases hz
  split at h
  case h_2 => cases h
  rename_i news m hsrc
  obtain ⟨hm, hrd⟩ := srcRow_sound (P := P) hw1 hr.blk hvx hsrc
  obtain ⟨M, hM⟩ : ∃ M, M = (news.sv ρ).l.length := ⟨_, rfl⟩
  rw [← hM] at hm hrd
  have hdiv : ∀ n : Nat, (n : Int) ≤ ((1048576 / (i.bytes + 1) : Nat) : Int) → n * i.bytes ≤ 1048576 ∧ n ≤ 1048576 := by
    intro n hn
    have h1 : n ≤ 1048576 / (i.bytes + 1) := by omega
    have h2 : n * (i.bytes + 1) ≤ 1048576 := by
      have := Nat.mul_le_mul_right (i.bytes + 1) h1
      have h3 := Nat.div_mul_le_self 1048576 (i.bytes + 1)
      omega
    constructor
    · exact Nat.le_trans (Nat.mul_le_mul_left _ (Nat.le_succ _)) h2
    · exact Nat.le_trans (Nat.le_mul_of_pos_right _ (by omega)) h2
  -- onto nothing
  have fresh : ∀ p : Option Addr, us = .slice p 0 0 → (p = none ∨ ∃ a, p = some a) →
      askE pc (mkCmp .leq m (.lit (Int.ofNat (1048576 / (i.bytes + 1)))))
        (.val (.sl hs.nx hs.nc row.length (.lit 0) m false m) { heap := hs.heap.set hs.nx (.seq news row elem hs.nc true), nx := hs.nx + 1, nc := hs.nc + 2 }) = .val v hs' →
      Comes1 ρ δ hs w ((Builtin.append_ #[st, xt] ty #[us, ux]).run P w) v hs' := by
    intro p hus hpc h
    obtain ⟨hbig, h⟩ := askE_val hp h
    have hbig := leq_den hbig
    simp only [eq_iff_iff, iff_true, lit_den] at hbig
    rw [hm] at hbig
    obtain ⟨hb1, hb2⟩ := hdiv M hbig
    simp only [ER.val.injEq] at h
    obtain ⟨rfl, rfl⟩ := h
    have hH : ∀ k blk, (hs.heap.set hs.nx (.seq news row elem hs.nc true)).get k = some blk → (k = hs.nx ∧ blk = .seq news row elem hs.nc true) ∨ (k ≠ hs.nx ∧ blk.live = false) ∨ (k ≠ hs.nx ∧ hs.heap.get k = some blk) := by
      intro k blk hk
      rw [T.get_set] at hk
      by_cases e : k = hs.nx
      · rw [if_pos e] at hk; injection hk with hk; exact .inl ⟨e, hk.symm⟩
      · rw [if_neg e] at hk; exact .inr (.inr ⟨e, hk⟩)
    rcases Nat.eq_zero_or_pos M with h0 | h0
    · have hq : (news.sv ρ).l = [] := List.eq_nil_of_length_eq_zero (by omega)
      obtain ⟨δ', k1, k2, k3, k4, k5⟩ := hr.rowNil hq hH
      rw [hq] at k5 hrd
      rw [h0] at hrd hm
      have hrun : (Builtin.append_ #[st, xt] ty #[us, ux]).run P w = .ok (.slice p 0 0) w := by
        rw [hus]
        rcases hpc with rfl | ⟨a, rfl⟩
        · exact run_append_none (P := P) (w := w) st xt ty elem i xd ht hi hx hni ux _ (hrd w rfl).1 (by rw [hwd]; exact (hrd w rfl).2)
        · exact run_append_in (P := P) st xt ty elem i xd ht hi hx hni a 0 0 ux 0 _ w (hrd w rfl).1 (by rw [hwd]; exact (hrd w rfl).2) rfl (Nat.le_refl _)
      refine ⟨δ', w, _, hrun, k1, k2, ?_⟩
      simp only [VRel]
      rw [hm, lit_den]
      exact ⟨by omega, by simp, by simp, gy, 0, 0, 0, 0, k3, k4, k5, by simp, by simp, fun e => (by cases e), .inl ⟨rfl, p, rfl⟩⟩
    · have hrun := run_append_new (P := P) (w := w) st xt ty elem i z xd ht hi hz1 hx hni p 0 0 ux M #[] (rowCs row (news.sv ρ).l).toArray (fun w' e => (hrd w' e).1) (fun w' e => by rw [hwd]; exact (hrd w' e).2)
        (fun w' _ => run_firstCells_nil w' _ _ _) (by omega) (by omega) (growslice_fits (by omega) (by simp only [Nat.zero_add]; omega))
      simp only [Nat.zero_add] at hrun
      obtain ⟨δ', k1, k2, k3, k4, k5⟩ := hr.rowNew (q := news) (row := row) (elem := elem) (cells := #[] ++ (rowCs row (news.sv ρ).l).toArray) (extra := Builtin.zeroCells z.cells (grownCap w M 0 elem - M))
        (w' := w.drew.alloc (.cells (#[] ++ (rowCs row (news.sv ρ).l).toArray ++ Builtin.zeroCells z.cells (grownCap w M 0 elem - M)) elem)) rfl rfl rfl rfl (by simp) hH
      refine ⟨δ', _, _, by rw [hus]; exact hrun, k1, k2, ?_⟩
      simp only [VRel]
      rw [hm, lit_den]
      have hgc := grownCap_ge w M 0 elem
      refine ⟨by omega, by omega, by omega, w.heap.size, 0, _, _, grownCap w M 0 elem, k3, k4, k5, by omega, by omega, fun e => (by cases e), .inr ⟨Nat.ne_of_gt hr.pos, ?_, by simp⟩⟩
      have hsize : (#[] ++ (rowCs row (news.sv ρ).l).toArray ++ Builtin.zeroCells z.cells (grownCap w M 0 elem - M)).size = M * row.length + (grownCap w M 0 elem - M) * row.length := by
        rw [Array.size_append, size_zeroCells, hz2, hwd]
        simp [rowCs_length, ← hM]
      rw [hsize, ← Nat.add_mul]
      simp only [Int.toNat_zero, Nat.zero_add]
      exact Nat.le_of_eq (by congr 1; omega)
  simp only at h
  split at h
  · simp only [VRel] at hvs
    exact fresh none hvs (.inl rfl) h
  · simp only [VRel, NE.den, CRel] at hvs
    obtain ⟨b, o, c, _, hc, hvs⟩ := hvs
    subst hc
    exact fresh _ hvs (.inr ⟨_, rfl⟩) h
  · rename_i n rm wd lo len ex cap
    split at h
    case h_2 => cases h
    rename_i q row' elem' rm' hg
    split at h
    case h_2 => cases h
    rename_i e1 e2 e3 e4
    have e1 := beq_eq e1; have e2 := of_decide_eq_true e2; have e3 := beq_eq e3; have e4 := beq_eq e4
    subst e1 e2 e3 e4
    obtain ⟨hbig, h⟩ := askE_val hp h
    have hbig := leq_den hbig
    simp only [eq_iff_iff, iff_true, lit_den] at hbig
    rw [plusE_den, hm] at hbig
    simp only [ER.val.injEq] at h
    obtain ⟨rfl, rfl⟩ := h
    have hvs' := hvs
    simp only [VRel] at hvs
    obtain ⟨g1, g2, g3, b, o, r, cnt, c, g4, g5, g6, g7, g8, g9, g10⟩ := hvs
    obtain ⟨L, hL⟩ : ∃ L : Nat, len.den ρ = (L : Int) := ⟨(len.den ρ).toNat, by omega⟩
    obtain ⟨O, hO⟩ : ∃ O : Nat, lo.den ρ = (O : Int) := ⟨(lo.den ρ).toNat, by omega⟩
    rw [hL] at hbig
    have hbig' : (L : Int) + (M : Int) ≤ ((1048576 / (i.bytes + 1) : Nat) : Int) := hbig
    obtain ⟨hb1, hb2⟩ := hdiv (L + M) (by rw [Int.natCast_add]; exact hbig')
    obtain ⟨hol, hord⟩ := srcRow_sound (P := P) (x := .sl n rm row.length lo len ex cap) (news := subE q lo len) (m := len) hw1 hr.blk hvs' (by simp [srcRow, hg])
    have holL : ((subE q lo len).sv ρ).l.length = L := by omega
    rw [holL] at hord
    have hql : ((catE (subE q lo len) news).sv ρ).l = ((subE q lo len).sv ρ).l ++ (news.sv ρ).l := catE_l _ _
    have hqlen : ((catE (subE q lo len) news).sv ρ).l.length = L + M := by rw [hql, List.length_append, holL, ← hM]
    have hnx : n ≠ hs.nx := fun e => by rw [e, hr.freshN hs.nx (Nat.le_refl _)] at g4; cases g4
    have hH0 : ∀ k blk, ((hs.heap.set n .dead).set hs.nx (.seq (catE (subE q lo len) news) row elem hs.nc true)).get k = some blk →
        (k = hs.nx ∧ blk = .seq (catE (subE q lo len) news) row elem hs.nc true) ∨ (k ≠ hs.nx ∧ blk.live = false) ∨ (k ≠ hs.nx ∧ k ≠ n ∧ hs.heap.get k = some blk) := by
      intro k blk hk
      rw [T.get_set, T.get_set] at hk
      by_cases e : k = hs.nx
      · rw [if_pos e] at hk; injection hk with hk; exact .inl ⟨e, hk.symm⟩
      · rw [if_neg e] at hk
        by_cases e' : k = n
        · rw [if_pos e'] at hk; injection hk with hk; subst hk; exact .inr (.inl ⟨e, rfl⟩)
        · rw [if_neg e'] at hk; exact .inr (.inr ⟨e, e', hk⟩)
    have hH : ∀ k blk, ((hs.heap.set n .dead).set hs.nx (.seq (catE (subE q lo len) news) row elem hs.nc true)).get k = some blk →
        (k = hs.nx ∧ blk = .seq (catE (subE q lo len) news) row elem hs.nc true) ∨ (k ≠ hs.nx ∧ blk.live = false) ∨ (k ≠ hs.nx ∧ hs.heap.get k = some blk) := by
      intro k blk hk
      rcases hH0 k blk hk with h | h | ⟨h1, _, h2⟩
      · exact .inl h
      · exact .inr (.inl h)
      · exact .inr (.inr ⟨h1, h2⟩)
    -- a new block
    have grow : ∀ p, us = .slice p L c → c < L + M → Comes1 ρ δ hs w ((Builtin.append_ #[st, xt] ty #[us, ux]).run P w) (.sl hs.nx hs.nc row.length (.lit 0) (plusE len m) false (plusE len m))
        { heap := (hs.heap.set n .dead).set hs.nx (.seq (catE (subE q lo len) news) row elem hs.nc true), nx := hs.nx + 1, nc := hs.nc + 2 } := by
      intro p hus hlt
      have hlo : ∀ w' : World, w'.heap = w.heap → (Builtin.firstCells i.size L (.slice p L c)).run P w' = .ok (rowCs row ((subE q lo len).sv ρ).l).toArray w' := fun w' e => by rw [hwd, ← hus]; exact (hord w' e).2
      have hrun := run_append_new (P := P) (w := w) st xt ty elem i z xd ht hi hz1 hx hni p L c ux M _ (rowCs row (news.sv ρ).l).toArray (fun w' e => (hrd w' e).1) (fun w' e => by rw [hwd]; exact (hrd w' e).2)
        hlo hlt (by omega) (growslice_fits hlt (by omega))
      obtain ⟨δ', k1, k2, k3, k4, k5⟩ := hr.rowNew (q := catE (subE q lo len) news) (row := row) (elem := elem) (cells := (rowCs row ((subE q lo len).sv ρ).l).toArray ++ (rowCs row (news.sv ρ).l).toArray) (extra := Builtin.zeroCells z.cells (grownCap w (L + M) c elem - (L + M)))
        (w' := w.drew.alloc (.cells ((rowCs row ((subE q lo len).sv ρ).l).toArray ++ (rowCs row (news.sv ρ).l).toArray ++ Builtin.zeroCells z.cells (grownCap w (L + M) c elem - (L + M))) elem)) rfl rfl rfl rfl (by rw [hql, rowCs_append]; simp) hH
      refine ⟨δ', _, _, by rw [hus]; exact hrun, k1, k2, ?_⟩
      simp only [VRel]
      rw [plusE_den, hm, hL, lit_den]
      have hgc := grownCap_ge w (L + M) c elem
      refine ⟨by omega, by omega, by omega, w.heap.size, 0, _, _, grownCap w (L + M) c elem, k3, k4, k5, by omega, by omega, fun e => (by cases e), .inr ⟨Nat.ne_of_gt hr.pos, ?_, by simp; omega⟩⟩
      have hsize : ((rowCs row ((subE q lo len).sv ρ).l).toArray ++ (rowCs row (news.sv ρ).l).toArray ++ Builtin.zeroCells z.cells (grownCap w (L + M) c elem - (L + M))).size = (L + M) * row.length + (grownCap w (L + M) c elem - (L + M)) * row.length := by
        rw [Array.size_append, size_zeroCells, hz2, hwd]
        simp [rowCs_length, ← hM, holL, Nat.add_mul]
      rw [hsize, ← Nat.add_mul]
      simp only [Int.toNat_zero, Nat.zero_add]
      exact Nat.le_of_eq (by congr 1; omega)
    rcases g10 with ⟨g10, p, g11⟩ | ⟨g10, g11, g12⟩
    · have hL0 : L = 0 := by omega
      rcases Nat.eq_zero_or_pos M with h0 | h0
      · have hq : ((catE (subE q lo len) news).sv ρ).l = [] := List.eq_nil_of_length_eq_zero (by omega)
        obtain ⟨δ', k1, k2, k3, k4, k5⟩ := hr.rowNil hq hH
        rw [hq] at k5
        have hqn : (news.sv ρ).l = [] := List.eq_nil_of_length_eq_zero (by omega)
        rw [hqn, h0] at hrd
        have hrun : (Builtin.append_ #[st, xt] ty #[us, ux]).run P w = .ok (.slice p 0 0) w := by
          rw [g11]
          cases p with
          | none => exact run_append_none (P := P) (w := w) st xt ty elem i xd ht hi hx hni ux _ (hrd w rfl).1 (by rw [hwd]; exact (hrd w rfl).2)
          | some a => exact run_append_in (P := P) st xt ty elem i xd ht hi hx hni a 0 0 ux 0 _ w (hrd w rfl).1 (by rw [hwd]; exact (hrd w rfl).2) rfl (Nat.le_refl _)
        refine ⟨δ', w, _, hrun, k1, k2, ?_⟩
        simp only [VRel]
        rw [plusE_den, hm, hL, lit_den, hL0, h0]
        exact ⟨by omega, by simp, by simp, gy, 0, 0, 0, 0, k3, k4, k5, by simp, by simp, fun e => (by cases e), .inl ⟨rfl, p, rfl⟩⟩
      · exact grow p (by rw [g11, hL0, g10]) (by omega)
    · rw [hL, Int.toNat_natCast] at g12
      rw [hO, Int.toNat_natCast] at g11 g12
      by_cases hin : L + M ≤ c
      · -- in place
        obtain ⟨b', o', r', k1, k2, k3, k4⟩ := hr.blk _ _ hg
        rw [g4] at k1
        simp only [Option.some.injEq, Prod.mk.injEq] at k1
        obtain ⟨rfl, rfl⟩ := k1
        rw [g5] at k2
        injection k2 with k2
        subst k2
        rcases k4 with ⟨k4, _⟩ | ⟨_, cur, fr, ⟨el, k5, hel⟩, k6, k7, k8, k9⟩
        · exact absurd k4 g10
        rw [hel rfl] at k5
        have hfr := k7 rfl
        subst hfr
        have hmul : (O + (L + M)) * row.length ≤ (O + c) * row.length := Nat.mul_le_mul_right _ (by omega)
        have hmul2 : (O + (L + M)) * row.length = O * row.length + (L * row.length + M * row.length) := by rw [Nat.add_mul, Nat.add_mul]
        have hnl : (rowCs row (news.sv ρ).l).length = M * row.length := by rw [rowCs_length, ← hM]
        have hfit : o + (O * row.length + L * row.length) + 0 + (rowCs row (news.sv ρ).l).length ≤ cur.size := by rw [hnl]; omega
        have hst := run_storeCells_at P b (o + (O * row.length + L * row.length)) elem (rowCs row (news.sv ρ).l) 0 cur w k5 hfit (rowCs_oneCell row _)
        simp only [Nat.add_zero] at hst hfit
        have hrun := run_append_in (P := P) (w := w) st xt ty elem i xd ht hi hx hni ⟨b, o + O * row.length, none⟩ L c ux M _ _ (hrd w rfl).1 (by rw [hwd]; exact (hrd w rfl).2)
          (by rw [addr_add, hwd, Nat.add_assoc]; exact hst) hin
        have hBcells : RowAt row ((catE (subE q lo len) news).sv ρ).l (cur.toList.take (o + (O * row.length + L * row.length)) ++ rowCs row (news.sv ρ).l ++ cur.toList.drop (o + (O * row.length + L * row.length) + (rowCs row (news.sv ρ).l).length)).toArray (o + O * row.length) := by
          refine rowAt_of_cells fun k hk => ?_
          rw [hqlen] at hk
          have hk' : k < L * row.length + M * row.length := by rw [← Nat.add_mul]; exact hk
          have hsp := splice_get cur.toList (rowCs row (news.sv ρ).l) (o + (O * row.length + L * row.length)) (o + O * row.length + k) (by simpa using hfit)
          have hsp' : (cur.toList.take (o + (O * row.length + L * row.length)) ++ rowCs row (news.sv ρ).l ++ cur.toList.drop (o + (O * row.length + L * row.length) + (rowCs row (news.sv ρ).l).length)).toArray[o + O * row.length + k]? = if o + (O * row.length + L * row.length) ≤ o + O * row.length + k ∧ o + O * row.length + k < o + (O * row.length + L * row.length) + (rowCs row (news.sv ρ).l).length then (rowCs row (news.sv ρ).l)[o + O * row.length + k - (o + (O * row.length + L * row.length))]? else cur[o + O * row.length + k]? := by
            simpa using hsp
          rw [hsp', hql, rowCs_append]
          have hol2 : (rowCs row ((subE q lo len).sv ρ).l).length = L * row.length := by rw [rowCs_length, holL]
          by_cases hkl : k < L * row.length
          · rw [if_neg (by omega), List.getElem?_append_left (by omega)]
            obtain ⟨u, hu⟩ : ∃ u, (rowCs row ((subE q lo len).sv ρ).l)[k]? = some u := ⟨_, List.getElem?_eq_getElem (by omega)⟩
            rw [hu]
            have hsplit : (q.sv ρ).l = (q.sv ρ).l.take O ++ (((q.sv ρ).l.drop O).take L ++ ((q.sv ρ).l.drop O).drop L) := by
              rw [List.take_append_drop, List.take_append_drop]
            have hsub : ((subE q lo len).sv ρ).l = ((q.sv ρ).l.drop O).take L := by rw [subE_l, hO, hL]; simp
            have hget : (rowCs row (q.sv ρ).l)[O * row.length + k]? = some u := by
              rw [hsplit, rowCs_append, rowCs_append, ← hsub]
              have hcq : cnt = (q.sv ρ).l.length := by rw [g6] at k3; injection k3
              have hll : (rowCs row ((q.sv ρ).l.take O)).length = O * row.length := by
                rw [rowCs_length, List.length_take]
                congr 1; omega
              rw [List.getElem?_append_right (by omega), hll, List.getElem?_append_left (by omega)]
              rw [← hu]; congr 1; omega
            have := rowAt_iff.1 (show RowAt row (q.sv ρ).l cur o from k6) _ _ hget
            rw [← Nat.add_assoc] at this
            exact this
          · rw [if_pos (by omega), List.getElem?_append_right (by omega), hol2]
            congr 1; omega
        have hcsz : (cur.toList.take (o + (O * row.length + L * row.length)) ++ rowCs row (news.sv ρ).l ++ cur.toList.drop (o + (O * row.length + L * row.length) + (rowCs row (news.sv ρ).l).length)).toArray.size = cur.size := by
          simp; omega
        obtain ⟨δ', k1', k2', k3', k4', k5'⟩ := hr.rowBind (w' := w.setRow b (cur.toList.take (o + (O * row.length + L * row.length)) ++ rowCs row (news.sv ρ).l ++ cur.toList.drop (o + (O * row.length + L * row.length) + (rowCs row (news.sv ρ).l).length)).toArray)
          (q := catE (subE q lo len) news) (row := row) (elem := elem) (b := b) (o := o + O * row.length) (r := r - O * row.length) (H := (hs.heap.set n .dead).set hs.nx (.seq (catE (subE q lo len) news) row elem hs.nc true))
          (fun k blk hk => by
            rcases hH0 k blk hk with h | h | ⟨h1, h1', h2⟩
            · exact .inl h
            · exact .inr (.inl h)
            · exact .inr (.inr ⟨h1, h2, fun y o' ha hl hbg => Ne.symm (hr.sep n k _ blk b y o o' hg h2 (Ne.symm h1') rfl hl g4 ha hbg)⟩))
          (by simp) (fun y _ hyb => setRow_other w b y _ (hyb g10)) (.inr (.inr ⟨n, _, o, hg, rfl, g4⟩))
          (by simp; exact (Array.getElem?_eq_some_iff.1 k5).1)
          (.inr ⟨g10, _, setRow_heap w b cur _ elem _ k5, hBcells, by rw [hcsz]; omega, by rw [hqlen]; have := Nat.add_mul L M row.length; omega⟩)
          (by simp) (by simp) (by simp)
        refine ⟨δ', _, _, by rw [g12]; exact hrun, k1', k2', ?_⟩
        simp only [VRel]
        rw [plusE_den, hm, hL, lit_den]
        rw [hqlen] at k5'
        refine ⟨by omega, by omega, by omega, b, _, _, _, c, k3', k4', k5', by omega, by omega, fun e => (by cases e), .inr ⟨g10, ?_, by simp; omega⟩⟩
        simp only [Int.toNat_zero, Nat.zero_add]
        have := Nat.add_mul O c row.length
        omega
      · exact grow _ g12 (by omega)
  · cases h

theorem eop_val {pc : PC} {tm : TM} {a : Act} {o : Oper} {v : AV} {hs' : HS} (hp : PCh ρ pc) (hr : HRep ρ δ hs w) (ho : EvOK ρ δ tm a o.op.operands.toList) (h : eop P pc tm hs o.op = .val v hs') :
    ∃ δ' w' u, ((execOp a.eval o).run P w = .ok (.value u) w' ∨ ((execOp a.eval o).run P w = .ok .skip w' ∧ u = undef)) ∧ HRep ρ δ' hs' w' ∧ Evo δ hs w δ' hs' w' ∧ VRel ρ δ' v u := by
  unfold eop at h
  split at h
  case h_2 => exact eop0_val hr ho h
  obtain ⟨dst, op, type, pos, after, guard⟩ := o
  unfold eopx at h
  split at h
  case h_2 => cases h
  rename_i c hop
  simp only at hop; subst hop
  split at h
  case h_2 => cases h
  rename_i hcal
  obtain ⟨callee, args, argTypes⟩ := c
  simp only at hcal; subst hcal
  split at h
  case h_2 => cases h
  rename_i st xt s x hts has
  simp only at hts has
  have hva := evs_ok (ρ := ρ) (δ := δ) (a := a) (fun y hy => ho y (by simpa [Op.operands, Call.operands] using hy)) has
  simp only [VRels] at hva
  obtain ⟨us, r1, he, hvs, ux, r2, rfl, hvx, rfl⟩ := hva
  have hts' : argTypes = #[st, xt] := by rw [← Array.toArray_toList (xs := argTypes), hts]
  have hargs : args.map a.eval = #[us, ux] := by rw [← Array.toArray_toList (xs := args.map a.eval), Array.toList_map, he]
  subst hts'
  obtain ⟨δ', w', u, h1, h2, h3, h4⟩ := appendRow_sound (P := P) (ty := type) hp hr hvs hvx h
  refine ⟨δ', w', u, .inl ?_, h2, h3, h4⟩
  simp only [execOp, resolve, Sem.run_bind, Sem.run_pure, Result.andThen_ok, invoke, builtin, hargs, h1]

theorem appendRow_no_call {pc : PC} (st xt : TypeId) (s x : AV) {f : FuncId} {vs : List AV} : appendRow P pc st xt s x hs ≠ .call f vs := by
  intro h
  unfold appendRow askE at h
  repeat' (first | cases h | split at h)

theorem eop_call {pc : PC} {tm : TM} {a : Act} {o : Oper} {f : FuncId} {vs : List AV} (ho : EvOK ρ δ tm a o.op.operands.toList) (h : eop P pc tm hs o.op = .call f vs) :
    ∃ us : Array Value, VRels ρ δ vs us.toList ∧ ∀ w, (execOp a.eval o).run P w = (callFunc f us).run P w := by
  unfold eop at h
  split at h
  case h_2 => exact eop0_call ho h
  unfold eopx at h
  split at h
  case h_2 => cases h
  split at h
  case h_2 => cases h
  split at h
  case h_2 => cases h
  exact (appendRow_no_call _ _ _ _ h).elim
end
end Go.Sx
