/- An executor for the model's Go code over an abstract state: back from a pattern's run; memory. -/
import Derived.Test.YtkgmobbbcigcjaaGreatDoorSx21
namespace Go.Sx
set_option linter.unusedVariables false
section
variable {δP δ δ' : Dl} {ρP ρ ρ' : Rho} {θ : Sub} {hs : HS} {w w' : World}

theorem instCells_mem : ∀ (l r : List (Nat × AV)), PBlk.inst.instCells θ l = some r → ∀ i a, (i, a) ∈ r → ∃ p, (i, p) ∈ l ∧ p.inst θ = some a
  | [], r, h, i, a, hm => by simp [PBlk.inst.instCells] at h; subst h; cases hm
  | (j, p) :: l, r, h, i, a, hm => by
    simp only [PBlk.inst.instCells] at h
    split at h
    case h_2 => cases h
    rename_i x y hx hy
    simp only [Option.some.injEq] at h; subst h
    rcases List.mem_cons.1 hm with e | hm
    · injection e with e1 e2
      subst e1 e2
      exact ⟨p, List.mem_cons_self, hx⟩
    · obtain ⟨q, h1, h2⟩ := instCells_mem l y hy i a hm
      exact ⟨q, List.mem_cons_of_mem _ h1, h2⟩

theorem instCells_get : ∀ (l r : List (Nat × AV)), PBlk.inst.instCells θ l = some r → ∀ i a, (T.puts .nil r).get i = some a → ∃ p, (T.puts .nil l).get i = some p ∧ p.inst θ = some a
  | [], r, h, i, a, hm => by simp [PBlk.inst.instCells] at h; subst h; simp [T.puts, T.get_nil] at hm
  | (j, p) :: l, r, h, i, a, hm => by
    simp only [PBlk.inst.instCells] at h
    split at h
    case h_2 => cases h
    rename_i x y hx hy
    simp only [Option.some.injEq] at h; subst h
    simp only [T.puts] at hm ⊢
    rw [T.get_set] at hm ⊢
    by_cases e : i = j
    · rw [if_pos e] at hm ⊢
      injection hm with hm
      subst hm
      exact ⟨p, rfl, hx⟩
    · rw [if_neg e] at hm ⊢
      exact instCells_get l y hy i a hm

theorem PBlk.inst_rep (h : SubOK θ ρP δP ρ δ) {n m : Nat} {p : PBlk} {b : ABlk} (hn : nmOf θ.nm n = some m) (hi : p.inst θ = some b) (hb : BRep ρP δP w n p.blk) :
    BRep ρ δ w m b ∧ b.rw = p.blk.rw ∧ b.live = true := by
  cases p with
  | cells cs k elem ex rw =>
    simp only [PBlk.inst] at hi
    split at hi
    case h_2 => cases hi
    rename_i r hr
    simp only [Option.some.injEq] at hi; subst hi
    obtain ⟨b, o, cur, fr, g1, g2, g3, g4, g5, g6⟩ := hb
    refine ⟨⟨b, o, cur, fr, by rw [← h.nm _ _ hn]; exact g1, g2, fun i a ha => ?_, g4, g5, ?_⟩, rfl, rfl⟩
    · obtain ⟨p, h1, h2⟩ := instCells_get cs r hr i a ha
      obtain ⟨u, h3, h4⟩ := g3 i p h1
      exact ⟨u, h3, (AV.inst_rel h p a u h2).1 h4⟩
    · cases ex with
      | true => exact g6
      | false => trivial
  | seq q row elem rm rw =>
    simp only [PBlk.inst] at hi
    split at hi
    case h_2 => cases hi
    rename_i e j he hj
    simp only [Option.some.injEq] at hi; subst hi
    obtain ⟨b, o, r, g1, g2, g3, g4⟩ := hb
    have hq : e.sv ρ = q.sv ρP := IE.inst_sv h.fn h.sv q e he
    refine ⟨⟨b, o, r, by rw [← h.nm _ _ hn]; exact g1, by rw [← (cp2_some h hj).1]; exact g2, by rw [← (cp2_some h hj).2, hq]; exact g3, ?_⟩, rfl, rfl⟩
    rw [hq]
    exact g4

theorem kills_get {s : SubL} : ∀ (l : List (Nat × PBlk)) (H : T ABlk) (m : Nat) (b : ABlk), (kills s l H).get m = some b →
    (b = .dead) ∨ (H.get m = some b ∧ ∀ n p, (n, p) ∈ l → p.blk.rw = true → nmOf s.sub.nm n ≠ some m)
  | [], H, m, b, h => .inr ⟨h, fun n p hm => by cases hm⟩
  | (n, p) :: l, H, m, b, h => by
    simp only [kills] at h
    split at h
    · rename_i m' hrw hn
      rw [T.get_set] at h
      by_cases e : m = m'
      · rw [if_pos e] at h; injection h with h; exact .inl h.symm
      · rw [if_neg e] at h
        rcases kills_get l H m b h with h1 | ⟨h1, h2⟩
        · exact .inl h1
        · refine .inr ⟨h1, fun n' p' hm hr => ?_⟩
          rcases List.mem_cons.1 hm with e' | hm
          · injection e' with e1 e2
            subst e1 e2
            rw [hn]; intro e'; injection e' with e'; exact e e'.symm
          · exact h2 n' p' hm hr
    · rename_i hno
      rcases kills_get l H m b h with h1 | ⟨h1, h2⟩
      · exact .inl h1
      · refine .inr ⟨h1, fun n' p' hm hr => ?_⟩
        rcases List.mem_cons.1 hm with e' | hm
        · injection e' with e1 e2
          subst e1 e2
          intro hn
          exact hno m hr hn
        · exact h2 n' p' hm hr

theorem putX_get {H : T ABlk} : ∀ (l : List (Nat × PBlk)) (H' : T ABlk), putX θ H l = some H' → ∀ m b, H'.get m = some b →
    (∃ n p, (n, p) ∈ l ∧ (T.puts .nil (l.map fun x => (x.1, x.2.blk))).get n = some p.blk ∧ nmOf θ.nm n = some m ∧ p.inst θ = some b ∧ p.blk.rw = true) ∨
    (H.get m = some b ∧ ∀ n p, (n, p) ∈ l → nmOf θ.nm n ≠ some m)
  | [], H', h, m, b, hb => by simp [putX] at h; subst h; exact .inr ⟨hb, fun n p hm => by cases hm⟩
  | (n, p) :: l, H', h, m, b, hb => by
    simp only [putX] at h
    split at h
    case h_2 => cases h
    rename_i H1 m' b' h1 hn hi hrw
    simp only [Option.some.injEq] at h; subst h
    rw [T.get_set] at hb
    by_cases e : m = m'
    · rw [if_pos e] at hb; injection hb with hb; subst hb
      subst e
      refine .inl ⟨n, p, List.mem_cons_self, ?_, hn, hi, hrw⟩
      simp only [List.map_cons, T.puts]
      rw [T.get_set, if_pos rfl]
    · rw [if_neg e] at hb
      rcases putX_get l H1 h1 m b hb with ⟨n', p', g1, g2, g3, g4, g5⟩ | ⟨g1, g2⟩
      · refine .inl ⟨n', p', List.mem_cons_of_mem _ g1, ?_, g3, g4, g5⟩
        simp only [List.map_cons, T.puts]
        rw [T.get_set]
        have hne : n' ≠ n := fun e' => by subst e'; rw [hn] at g3; injection g3 with g3; exact e g3.symm
        rw [if_neg hne]
        exact g2
      · refine .inr ⟨g1, fun n' p' hm => ?_⟩
        rcases List.mem_cons.1 hm with e' | hm
        · injection e' with e1 e2
          subst e1 e2
          rw [hn]; intro e'; injection e' with e'; exact e e'.symm
        · exact g2 n' p' hm

/-- Names of an exit's blocks are not alike in the caller. -/
theorem goes_inj {H X : Pat} {s : SubL} {stab stabC : List Nat} (h5 : H.heap.Pairwise (fun x y => nmOf s.sub.nm x.1 ≠ nmOf s.sub.nm y.1)) (hg : Goes θ s stab stabC hs X)
    (hb : ∀ n m, n ∈ stab → s.sub.nm.get n = some m → m < hs.nx ∧ gbound ≤ n) : True := trivial

theorem leave_rep {H X : Pat} {s : SubL} {stab stabC : List Nat} {H2 : T ABlk}
    (hr : HRep ρ δ hs w) (hX : HRep ρ' δ' X.hs w') (hev : EvoW (dlOf s.sub δ) H.hs w δ' X.hs w')
    (hheap : ∀ n b, H.hs.heap.get n = some b → ∃ m b', nmOf s.sub.nm n = some m ∧ hs.heap.get m = some b' ∧ b'.live = true ∧ (b.rw = true → b'.rw = true ∧ (∃ p, (n, p) ∈ H.heap ∧ p.blk.rw = true)))
    (hok : SubOK θ ρ' δ' ρ (dlAfter stab stabC hs X δ δ'))
    (hput : putX θ (kills s H.heap hs.heap) X.heap = some H2) :
    HRep ρ (dlAfter stab stabC hs X δ δ') { heap := H2, nx := hs.nx + X.nx, nc := hs.nc + X.nc } w' ∧
    Evo δ hs w (dlAfter stab stabC hs X δ δ') { heap := H2, nx := hs.nx + X.nx, nc := hs.nc + X.nc } w' := by
  have hle := dlAfter_le (δ' := δ') (stab := stab) (stabC := stabC) (X := X) hr
  -- a block of the caller's that stays
  have old : ∀ m b, H2.get m = some b → b.live = true → (∃ n p, X.hs.heap.get n = some p ∧ nmOf θ.nm n = some m ∧ BRep ρ (dlAfter stab stabC hs X δ δ') w' m b ∧ b.rw = p.rw ∧ p.rw = true) ∨
      (hs.heap.get m = some b ∧ ∀ n p, (n, p) ∈ H.heap → p.blk.rw = true → nmOf s.sub.nm n ≠ some m) := by
    intro m b hb hl
    rcases putX_get _ _ hput m b hb with ⟨n, p, g1, g2, g3, g4, g5⟩ | ⟨g1, g2⟩
    · left
      have hB := PBlk.inst_rep hok g3 g4 (hX.blk n p.blk g2)
      exact ⟨n, p.blk, g2, g3, hB.1, hB.2.1, g5⟩
    · right
      rcases kills_get _ _ m b g1 with h1 | h1
      · subst h1; cases hl
      · exact h1
  -- what stays lies apart from what was written
  have apart : ∀ m b, hs.heap.get m = some b → b.live = true → (∀ n p, (n, p) ∈ H.heap → p.blk.rw = true → nmOf s.sub.nm n ≠ some m) →
      ∀ y o, δ.at_ m = some (y, o) → y ≠ gy → ∀ n o' blk, H.hs.heap.get n = some blk → blk.rw = true → (dlOf s.sub δ).at_ n = some (y, o') → False := by
    intro m b hb hl hno y o hy hyg n o' blk hn hrw hat
    obtain ⟨m', b', g1, g2, g3, g4⟩ := hheap n blk hn
    obtain ⟨g5, p, g6, g7⟩ := g4 hrw
    simp only [dlOf, g1] at hat
    have hne : m' ≠ m := fun e => hno n p g6 g7 (by rw [g1, e])
    exact hr.sep m' m b' b y y o' o g2 hb hne g5 hl hat hy hyg rfl
  have keep : ∀ m b, hs.heap.get m = some b → b.live = true → (∀ n p, (n, p) ∈ H.heap → p.blk.rw = true → nmOf s.sub.nm n ≠ some m) → ∀ y o, δ.at_ m = some (y, o) → w'.heap[y]? = w.heap[y]? := by
    intro m b hb hl hno y o hy
    exact hev.unch y ((hr.blk m b hb).lt hr.pos hl hy) fun hyg n o' blk hn hrw hat => apart m b hb hl hno y o hy hyg n o' blk hn hrw hat
  have atOld : ∀ m b, hs.heap.get m = some b → b.live = true → ∀ x, (dlAfter stab stabC hs X δ δ').at_ m = some x → δ.at_ m = some x := by
    intro m b hb hl x hx
    obtain ⟨y, o, hy⟩ := (hr.blk m b hb).bound hl
    rw [hle.1 m _ hy] at hx
    rw [hy, hx]
  -- a block of the exit, told by the pattern
  have xlive : ∀ n p m y o, X.hs.heap.get n = some p → p.rw = true → nmOf θ.nm n = some m → (dlAfter stab stabC hs X δ δ').at_ m = some (y, o) → y ≠ gy →
      w.heap.size ≤ y ∨ ∃ m0 b0 o0, hs.heap.get m0 = some b0 ∧ b0.live = true ∧ b0.rw = true ∧ δ.at_ m0 = some (y, o0) ∧ (∃ n0 p0, (n0, p0) ∈ H.heap ∧ p0.blk.rw = true ∧ nmOf s.sub.nm n0 = some m0) := by
    intro n p m y o hn hrw hm hy hyg
    rw [← hok.nm n m hm] at hy
    rcases hev.live n p y o hn (ABlk.live_of_rw hrw) hy hyg with h | ⟨n0, blk0, o0, g1, g2, g3, g4⟩
    · exact .inl h
    · right
      obtain ⟨m0, b0, k1, k2, k3, k4⟩ := hheap n0 blk0 g1
      obtain ⟨k5, p0, k6, k7⟩ := k4 (g3 hrw)
      simp only [dlOf, k1] at g4
      exact ⟨m0, b0, o0, k2, k3, k5, g4, n0, p0, k6, k7, k1⟩
  refine ⟨⟨?_, ?_, ?_, ?_, ?_, ?_, ?_⟩, ⟨hle, hev.size, ?_, ?_, Nat.le_add_right _ _, Nat.le_add_right _ _, ?_, hev.os, hev.tape, hev.output⟩⟩
  · intro m b hb
    cases hl : b.live with
    | false => cases b <;> first | trivial | cases hl
    | true =>
      rcases old m b hb hl with ⟨_, _, _, _, h1, _⟩ | ⟨h1, h2⟩
      · exact h1
      · exact ((hr.blk m b h1).keep fun y o ha _ => keep m b h1 hl h2 y o ha).mono_le hle
  · intro m1 m2 b1 b2 x y o1 o2 h1 h2 hne hrw hlv hx hy hxg e
    subst e
    rcases old m1 b1 h1 (ABlk.live_of_rw hrw) with ⟨n1, p1, g1, g2, _, g3, g4⟩ | ⟨g1, g2⟩
    · rcases old m2 b2 h2 hlv with ⟨n2, p2, k1, k2, _, k3, k4⟩ | ⟨k1, k2⟩
      · have hnn : n1 ≠ n2 := fun e => by subst e; rw [g2] at k2; injection k2 with k2; exact hne k2
        rw [← hok.nm _ _ g2] at hx
        rw [← hok.nm _ _ k2] at hy
        exact hX.sep n1 n2 p1 p2 x x o1 o2 g1 k1 hnn g4 (ABlk.live_of_rw k4) hx hy hxg rfl
      · have hy' := atOld m2 b2 k1 hlv _ hy
        rcases xlive n1 p1 m1 x o1 g1 g4 g2 hx hxg with h | ⟨m0, b0, o0, j1, j2, j3, j4, n0, p0, j5, j6, j7⟩
        · have := (hr.blk m2 b2 k1).lt hr.pos hlv hy'; omega
        · have hne' : m0 ≠ m2 := fun e => k2 n0 p0 j5 j6 (by rw [j7, e])
          exact hr.sep m0 m2 b0 b2 x x o0 o2 j1 k1 hne' j3 hlv j4 hy' hxg rfl
    · have hx' := atOld m1 b1 g1 (ABlk.live_of_rw hrw) _ hx
      rcases old m2 b2 h2 hlv with ⟨n2, p2, k1, k2, _, k3, k4⟩ | ⟨k1, k2⟩
      · rcases xlive n2 p2 m2 x o2 k1 k4 k2 hy hxg with h | ⟨m0, b0, o0, j1, j2, j3, j4, n0, p0, j5, j6, j7⟩
        · have := (hr.blk m1 b1 g1).lt hr.pos (ABlk.live_of_rw hrw) hx'; omega
        · have hne' : m1 ≠ m0 := fun e => g2 n0 p0 j5 j6 (by rw [j7, e])
          exact hr.sep m1 m0 b1 b0 x x o1 o0 g1 j1 hne' hrw j2 hx' j4 hxg rfl
      · exact hr.sep m1 m2 b1 b2 x x o1 o2 g1 k1 hne hrw hlv hx' (atOld m2 b2 k1 hlv _ hy) hxg rfl
  · intro n hn
    simp only at hn
    simp only [dlAfter]
    rw [if_neg (by omega), if_neg (by omega)]
  · intro i hi
    simp only at hi
    simp only [dlAfter]
    rw [if_neg (by omega), if_neg (by omega)]
  · intro g hg
    exact hle.1 g _ (hr.glob g hg)
  · exact Nat.le_trans hr.nx (Nat.le_add_right _ _)
  · exact hX.pos
  · intro b hb hn
    refine hev.unch b hb fun hbg n o blk h1 h2 h3 => ?_
    obtain ⟨m, b', g1, g2, g3, g4⟩ := hheap n blk h1
    simp only [dlOf, g1] at h3
    exact hn hbg m o b' g2 (g4 h2).1 h3
  · intro m b y o hb hl hy hyg
    rcases old m b hb hl with ⟨n, p, g1, g2, _, g3, g4⟩ | ⟨g1, g2⟩
    · rcases xlive n p m y o g1 g4 g2 hy hyg with h | ⟨m0, b0, o0, j1, j2, j3, j4, _⟩
      · exact .inl h
      · exact .inr ⟨m0, b0, o0, j1, j2, fun _ => j3, j4⟩
    · exact .inr ⟨m, b, o, g1, hl, id, atOld m b g1 hl _ hy⟩
  · intro n x hx
    simp only [dlAfter] at hx
    by_cases h1 : n < hs.nx
    · rw [if_pos h1] at hx; exact .inl hx
    · rw [if_neg h1] at hx
      split at hx
      · rename_i h2
        exact .inr ⟨by omega, by simp only; omega⟩
      · cases hx
end
end Go.Sx
