/- An executor for the model's Go code over an abstract state: a region whose order is drawn. -/
import Derived.Test.YtkgmobbbcigcjaaGreatDoorSx15
namespace Go.Sx
set_option linter.unusedVariables false

mutual
theorem sameAV_eq : ∀ (a b : AV), sameAV a b = true → a = b
  | .int k x, b, h => by cases b <;> simp [sameAV] at h; obtain ⟨rfl, h2⟩ := h; rw [IE.same_eq h2]
  | .bool x, b, h => by cases b <;> simp [sameAV] at h; rw [BE.same_eq h]
  | .val i, b, h => by cases b <;> simp [sameAV] at h; subst h; rfl
  | .ptrx n r w i f, b, h => by cases b <;> simp [sameAV] at h; obtain ⟨⟨⟨⟨rfl, rfl⟩, rfl⟩, h3⟩, rfl⟩ := h; rw [IE.same_eq h3]
  | .sl n r w x y z c, b, h => by
    cases b <;> simp [sameAV] at h
    obtain ⟨⟨⟨⟨⟨⟨rfl, rfl⟩, rfl⟩, h4⟩, h5⟩, h6⟩, h7⟩ := h
    rw [IE.same_eq h4, IE.same_eq h5, IE.same_eq h7, h6]
  | .ptr n o, b, h => by cases b <;> simp [sameAV] at h; obtain ⟨rfl, rfl⟩ := h; rfl
  | .nilp, b, h => by cases b <;> simp [sameAV] at h; rfl
  | .nils, b, h => by cases b <;> simp [sameAV] at h; rfl
  | .slice n o l c, b, h => by
    cases b <;> simp [sameAV] at h
    rename_i n' o' l' c'
    obtain ⟨⟨⟨⟨⟨rfl, rfl⟩, h3⟩, h4⟩, h5⟩, h6⟩ := h
    cases l; cases c; cases l'; cases c'
    simp only at h3 h4 h5 h6
    subst h3 h4 h5 h6
    rfl
  | .str i, b, h => by cases b <;> simp [sameAV] at h; rw [IE.same_eq h]
  | .map i, b, h => by cases b <;> simp [sameAV] at h; subst h; rfl
  | .raw x, b, h => by
    cases b
    case raw y =>
      cases x <;> cases y <;> simp [sameAV] at h <;> try rfl
      rename_i s t
      have h1 : s.data = t.data := h
      have h2 : s = t := by cases s; cases t; simp only at h1; subst h1; rfl
      rw [h2]
    all_goals (cases x <;> simp [sameAV] at h)
  | .func fn p q, b, h => by
    cases b
    case func fn' p' q' =>
      cases fn <;> cases fn' <;> simp [sameAV] at h
      obtain ⟨⟨rfl, h2⟩, h3⟩ := h
      rw [sameL_eq p _ h2, sameL_eq q _ h3]
    all_goals (cases fn <;> simp [sameAV] at h)
  | .iface t v, b, h => by
    cases b <;> simp only [sameAV] at h <;> try (cases h; done)
    simp only [Bool.and_eq_true] at h
    have := beq_eq h.1
    subst this
    rw [sameAV_eq v _ h.2]
  | .agg p, b, h => by cases b <;> simp only [sameAV] at h <;> first | (cases h; done) | rw [sameL_eq p _ h]
  | .tup p, b, h => by cases b <;> simp only [sameAV] at h <;> first | (cases h; done) | rw [sameL_eq p _ h]
theorem sameL_eq : ∀ (a b : List AV), sameAV.sameL a b = true → a = b
  | [], b, h => by cases b <;> simp [sameAV.sameL] at h; rfl
  | x :: xs, b, h => by
    cases b with
    | nil => simp [sameAV.sameL] at h
    | cons y ys =>
      simp only [sameAV.sameL] at h
      split at h
      · rename_i hxy
        rw [sameAV_eq x y hxy, sameL_eq xs ys h]
      · cases h
end

theorem heldAt_spec {P : Program} {b : Nat} {H : T ABlk} : ∀ {l l' : List (Nat × TypeId × AV × AV)}, heldAt P b H l = some l' →
    ∀ x ∈ l, has b x.1 = false → x ∈ l' ∧ loadAt P H x.2.1 x.2.2.1 = some x.2.2.2
  | [], _, _, x, hx, _ => by cases hx
  | (i, t, a, v) :: l, l', h, x, hx, hb => by
    simp only [heldAt] at h
    split at h
    · cases h
    · rename_i l1 hl1
      have ih := heldAt_spec hl1
      split at h
      · rename_i hbi
        simp only [Option.some.injEq] at h; subst h
        rcases List.mem_cons.1 hx with rfl | hx
        · simp only at hb; rw [hbi] at hb; cases hb
        · exact ih x hx hb
      · split at h
        · rename_i v' hv'
          split at h
          · rename_i hs
            simp only [Option.some.injEq] at h; subst h
            rcases List.mem_cons.1 hx with rfl | hx
            · exact ⟨List.mem_cons_self, by simp only; rw [sameAV_eq v v' hs]; exact hv'⟩
            · obtain ⟨h1, h2⟩ := ih x hx hb
              exact ⟨List.mem_cons_of_mem _ h1, h2⟩
          · cases h
        · cases h

theorem allBehind_spec {done e : Nat} : ∀ (bs : List Nat) (j0 : Nat), allBehind done e j0 bs = true → ∀ (i : Nat) (b : Nat), bs[i]? = some b → has done (j0 + i) = true ∨ j0 + i = e ∨ has b e = true
  | [], _, _, i, b, hb => by simp at hb
  | x :: bs, j0, h, i, b, hb => by
    simp only [allBehind] at h
    split at h
    · cases h
    · rename_i hne
      cases i with
      | zero =>
        simp only [List.getElem?_cons_zero, Option.some.injEq] at hb
        subst hb
        rw [Nat.add_zero]
        cases h1 : has done j0 with
        | true => exact .inl rfl
        | false =>
          cases h2 : Nat.beq j0 e with
          | true => exact .inr (.inl (beq_eq h2))
          | false =>
            cases h3 : has x e with
            | true => exact .inr (.inr rfl)
            | false => exact absurd h3 (fun h3 => hne h1 h2 h3)
      | succ i =>
        have := allBehind_spec bs (j0 + 1) h i b (by simpa using hb)
        rw [show j0 + (i + 1) = j0 + 1 + i by omega]
        exact this

section
variable {ρ : Rho} {P : Program} {ops : Array Oper} {bits : List Nat} {nt base : Nat} {tm0 : TM} {δ0 : Dl} {hs0 : HS} {w0 : World} {Q : Exit → Act → World → Prop}

/-- The memory that an operation with effects is given. -/
theorem Inv.given {S : DS} {pc : PC} {listed : Array Bool} {δ : Dl} {a : Act} {w : World} (h : Inv ρ P ops bits nt base tm0 δ0 hs0 w0 S pc listed δ a w)
    {b : Nat} (hb : ∀ j, has b j = true → listed.getD j false = true) :
    (∀ k blk, (mergeB b S.hs.heap S.pend).get k = some blk → blk.live = true → (insD (fun j => listed.getD j false) S.hs.heap S.pend).get k = some blk) ∧
    HRep ρ δ { S.hs with heap := mergeB b S.hs.heap S.pend } w := by
  have key : ∀ k blk, (mergeB b S.hs.heap S.pend).get k = some blk → blk.live = true → (insD (fun j => listed.getD j false) S.hs.heap S.pend).get k = some blk := by
    intro k blk hk hlv
    rw [mergeB_eq] at hk
    rcases insD_cases h.pendD hk with ⟨x, hx, hxb, rfl, rfl⟩ | ⟨hno, hk'⟩
    · exact insD_in S.pend S.hs.heap h.pendD x hx (hb _ hxb)
    · rw [insD_out]
      · exact hk'
      · intro x hx _ e
        have h9 := h.hsF x.1 (h.dn _ (h.pendW x hx).2) (.inr ⟨x, hx, rfl⟩) blk (by rw [← h.pendN x hx, e]; exact hk')
        rw [hlv] at h9; cases h9
  exact ⟨key, h.heap.sub key rfl rfl⟩

/-- An operation with effects has come up. -/
theorem Inv.effect (hf : Fixed ops bits) {S : DS} {pc pc' : PC} {listed : Array Bool} {δ δ' : Dl} {a : Act} {w w' : World} (h : Inv ρ P ops bits nt base tm0 δ0 hs0 w0 S pc listed δ a w)
    {e : Nat} {o : Oper} {v : AV} {u : Value} {hs1 : HS} {tm' : TM} {held' : List (Nat × TypeId × AV × AV)} (ho : ops[e]? = some o) (hr : ∀ x ∈ o.after, Region.binds .any x = true → listed.getD x.on false = true)
    (hnd : has S.done e = false) (hbd : ∀ j, has (bits.getD e 0) j = true → has S.done j = true) (hput : put nt S.tm o.dst v = some tm')
    (hheld : heldAt P (bits.getD e 0) hs1.heap S.held = some held') (hpc : PCh ρ pc')
    (hr1 : HRep ρ δ' hs1 w') (he1 : Evo δ { S.hs with heap := mergeB (bits.getD e 0) S.hs.heap S.pend } w δ' hs1 w') (hu : VRel ρ δ' v u) :
    Inv ρ P ops bits nt base tm0 δ0 hs0 w0 { done := Nat.lor S.done (Nat.pow 2 e), tm := tm', hs := hs1, pend := leftB (bits.getD e 0) S.pend, held := held' } pc' (listed.setIfInBounds e true) δ' (a.put o.dst u) w' := by
  obtain ⟨hp1, hp2⟩ := put_spec hput
  have hsz : e < ops.size := (Array.getElem?_eq_some_iff.1 ho).1
  have hil : e < listed.size := by rw [h.lsz]; exact hsz
  have hbl : ∀ j, has (bits.getD e 0) j = true → listed.getD j false = true := hf.before h.clo e o ho hr
  have hset : ∀ j, j ≠ e → (listed.setIfInBounds e true).getD j false = listed.getD j false := fun j hj => getD_set_ne false (Ne.symm hj)
  have hmono : ∀ j, listed.getD j false = true → (listed.setIfInBounds e true).getD j false = true := fun j hj => by
    by_cases e' : j = e
    · subst e'; exact getD_set_same hil
    · rw [hset j e']; exact hj
  have hul : listed.getD e false = false := by
    cases hl : listed.getD e false with
    | false => rfl
    | true => rw [h.sub e hl] at hnd; cases hnd
  obtain ⟨hgk, hgr⟩ := h.given hbl
  have hleft : ∀ x, x ∈ leftB (bits.getD e 0) S.pend ↔ x ∈ S.pend ∧ has (bits.getD e 0) x.1 = false := by
    intro x; unfold leftB; rw [List.mem_filter]; simp
  have hpe : ∀ x ∈ S.pend, x.1 ≠ e := fun x hx e' => by have := (h.pendW x hx).2; rw [e', hnd] at this; cases this
  have hleftD : (leftB (bits.getD e 0) S.pend).Pairwise (fun x y => x.2.1 ≠ y.2.1) := h.pendD.filter _
  have hother : ∀ (j : Nat) (p : Oper) t, ops[j]? = some p → j ≠ e → p.dst = some t → tm'.get t = S.tm.get t := by
    intro j p t hj hne hd
    exact hp2 t (hf.uniq e j o p t ho hj (Ne.symm hne) hd)
  -- a block that waits in the wings
  have wing : ∀ x ∈ leftB (bits.getD e 0) S.pend, listed.getD x.1 false = true → (insD (fun j => listed.getD j false) S.hs.heap S.pend).get x.2.1 = some x.2.2 ∧
      (mergeB (bits.getD e 0) S.hs.heap S.pend).get x.2.1 = S.hs.heap.get x.2.1 := by
    intro x hx hl
    obtain ⟨hx1, hx2⟩ := (hleft x).1 hx
    refine ⟨insD_in S.pend S.hs.heap h.pendD x hx1 hl, ?_⟩
    rw [mergeB_eq]
    refine insD_out S.pend S.hs.heap fun y hy hyb hyx => ?_
    have : y.1 = x.1 := by have h1 := h.pendN y hy; have h2 := h.pendN x hx1; omega
    rw [this, hx2] at hyb; cases hyb
  have wingdead : ∀ x ∈ leftB (bits.getD e 0) S.pend, ∀ blk, S.hs.heap.get x.2.1 = some blk → blk.live = false := by
    intro x hx blk hb
    obtain ⟨hx1, _⟩ := (hleft x).1 hx
    refine h.hsF x.1 (h.dn _ (h.pendW x hx1).2) (.inr ⟨x, hx1, rfl⟩) blk ?_
    rw [← h.pendN x hx1]; exact hb
  -- it is apart from whatever the operation knew
  have wingsep : ∀ x ∈ leftB (bits.getD e 0) S.pend, listed.getD x.1 false = true → ∀ n0 blk0 y o1 o2, (mergeB (bits.getD e 0) S.hs.heap S.pend).get n0 = some blk0 → blk0.live = true →
      δ.at_ x.2.1 = some (y, o1) → δ.at_ n0 = some (y, o2) → False := by
    intro x hx hl n0 blk0 y o1 o2 hn0 hlv ha hb
    obtain ⟨hw1, hw2⟩ := wing x hx hl
    have hne : x.2.1 ≠ n0 := by
      intro e'; subst e'
      rw [hw2] at hn0
      have := wingdead x hx blk0 hn0
      rw [hlv] at this; cases this
    exact h.heap.sep x.2.1 n0 x.2.2 blk0 y y o1 o2 hw1 (hgk n0 blk0 hn0 hlv) hne (ABlk.rw_of_solid (h.pendW x ((hleft x).1 hx).1).1) hlv ha hb (((h.heap.blk _ _ hw1).solid (h.pendW x ((hleft x).1 hx).1).1 ha)) rfl
  have hD : ∀ x ∈ leftB (bits.getD e 0) S.pend, (listed.setIfInBounds e true).getD x.1 false = listed.getD x.1 false := fun x hx => hset _ (hpe x ((hleft x).1 hx).1)
  have hins : insD (fun j => (listed.setIfInBounds e true).getD j false) hs1.heap (leftB (bits.getD e 0) S.pend) = insD (fun j => listed.getD j false) hs1.heap (leftB (bits.getD e 0) S.pend) :=
    insD_congr _ _ hD
  -- memory behind it
  have hheap : HRep ρ δ' { hs1 with heap := insD (fun j => listed.getD j false) hs1.heap (leftB (bits.getD e 0) S.pend) } w' := by
    refine ⟨?_, ?_, hr1.freshN, hr1.freshC, hr1.glob, hr1.nx, hr1.pos⟩
    · intro k blk hk
      rcases insD_cases hleftD hk with ⟨x, hx, hxl, rfl, rfl⟩ | ⟨_, hk'⟩
      · have hb := h.heap.blk x.2.1 x.2.2 (wing x hx hxl).1
        refine (hb.keep fun y o1 ha hlv => ?_).mono_le he1.le
        exact he1.unch y (hb.lt h.heap.pos hlv ha) fun _ n0 o2 blk0 hn0 hrw0 hb0 => wingsep x hx hxl n0 blk0 y o1 o2 hn0 (ABlk.live_of_rw hrw0) ha hb0
      · exact hr1.blk k blk hk'
    · have half : ∀ x ∈ leftB (bits.getD e 0) S.pend, listed.getD x.1 false = true → ∀ l c y z o1 o2, hs1.heap.get l = some c → c.live = true → δ'.at_ x.2.1 = some (y, o1) → δ'.at_ l = some (z, o2) → y ≠ z := by
        intro x hx hxl l c y z o1 o2 hl hlv hy hz e'
        subst e'
        have hb := h.heap.blk x.2.1 x.2.2 (wing x hx hxl).1
        have hxlv : x.2.2.live = true := ABlk.live_of_rw (ABlk.rw_of_solid (h.pendW x ((hleft x).1 hx).1).1)
        obtain ⟨y', o1', ha⟩ := hb.bound hxlv
        have ha' := he1.le.1 _ _ ha
        rw [hy] at ha'
        injection ha' with ha'
        have hyy : y = y' := congrArg Prod.fst ha'
        subst hyy
        have hlt := hb.lt h.heap.pos hxlv ha
        rcases he1.live l c y o2 hl hlv hz (hb.solid (h.pendW x ((hleft x).1 hx).1).1 ha) with h9 | ⟨n0, blk0, o0, h10, h11, _, h12⟩
        · omega
        · exact wingsep x hx hxl n0 blk0 y o1' o0 h10 h11 ha h12
      intro k l bk bl y z o1 o2 hk hl hkl hrw hlv hy hz hyg
      rcases insD_cases hleftD hk with ⟨x, hx, hxl, rfl, rfl⟩ | ⟨_, hk'⟩
      · rcases insD_cases hleftD hl with ⟨x', hx', hxl', rfl, rfl⟩ | ⟨_, hl'⟩
        · have hb1 := h.heap.blk x.2.1 x.2.2 (wing x hx hxl).1
          have hb2 := h.heap.blk x'.2.1 x'.2.2 (wing x' hx' hxl').1
          obtain ⟨y1, p1, a1⟩ := hb1.bound (ABlk.live_of_rw hrw)
          obtain ⟨y2, p2, a2⟩ := hb2.bound hlv
          have a1' := he1.le.1 _ _ a1
          have a2' := he1.le.1 _ _ a2
          rw [hy] at a1'; rw [hz] at a2'
          injection a1' with a1'; injection a2' with a2'
          have e1 : y = y1 := congrArg Prod.fst a1'
          have e2 : z = y2 := congrArg Prod.fst a2'
          subst e1 e2
          exact h.heap.sep _ _ _ _ y z p1 p2 (wing x hx hxl).1 (wing x' hx' hxl').1 hkl hrw hlv a1 a2 hyg
        · exact half x hx hxl l bl y z o1 o2 hl' hlv hy hz
      · rcases insD_cases hleftD hl with ⟨x', hx', hxl', rfl, rfl⟩ | ⟨_, hl'⟩
        · exact Ne.symm (half x' hx' hxl' k bk z y o2 o1 hk' (ABlk.live_of_rw hrw) hz hy)
        · exact hr1.sep k l bk bl y z o1 o2 hk' hl' hkl hrw hlv hy hz hyg
  have hevo : Evo δ { S.hs with heap := insD (fun j => listed.getD j false) S.hs.heap S.pend } w δ' { hs1 with heap := insD (fun j => listed.getD j false) hs1.heap (leftB (bits.getD e 0) S.pend) } w' := by
    refine ⟨he1.le, he1.size, ?_, ?_, he1.nx, he1.nc, he1.new, he1.os, he1.tape, he1.output⟩
    · intro y hy hn
      exact he1.unch y hy fun hyg n0 o2 blk0 hn0 hrw0 hb0 => hn hyg n0 o2 blk0 (hgk n0 blk0 hn0 (ABlk.live_of_rw hrw0)) hrw0 hb0
    · intro k blk y o1 hk hlv hy hyg
      rcases insD_cases hleftD hk with ⟨x, hx, hxl, rfl, rfl⟩ | ⟨_, hk'⟩
      · have hw1 := (wing x hx hxl).1
        obtain ⟨y', o1', ha⟩ := (h.heap.blk _ _ hw1).bound hlv
        have ha' := he1.le.1 _ _ ha
        rw [hy] at ha'
        injection ha' with ha'
        have hyy : y = y' := congrArg Prod.fst ha'
        subst hyy
        exact .inr ⟨x.2.1, x.2.2, o1', hw1, hlv, id, ha⟩
      · rcases he1.live k blk y o1 hk' hlv hy hyg with h9 | ⟨n0, blk0, o0, h10, h11, h12, h13⟩
        · exact .inl h9
        · exact .inr ⟨n0, blk0, o0, hgk n0 blk0 h10 h11, h11, h12, h13⟩
  have hdone' : ∀ j, has (Nat.lor S.done (Nat.pow 2 e)) j = true ↔ has S.done j = true ∨ e = j := fun j => has_lor_pow _ _ _
  have hnew : ∀ j, j < ops.size → listed.getD j false = false → δ'.at_ (base + j) = none := by
    intro j hj hjl
    cases hat : δ'.at_ (base + j) with
    | none => rfl
    | some x =>
      rcases he1.new _ _ hat with h1 | ⟨h1, _⟩
      · rw [h.resv j hj hjl] at h1; cases h1
      · have := h.nxb; simp only at h1; omega
  refine ⟨hpc, by simp [h.lsz], ?_, ?_, ?_, ?_, ?_, ?_, ?_, ?_, ?_, ?_, by rw [hins]; exact hheap, by rw [hins]; exact h.evo.trans hevo, ?_, ?_, ?_, ?_, hleftD, ?_, ?_, h.base0⟩
  · intro j p hp hj x hx hb
    by_cases e' : j = e
    · subst e'; rw [ho] at hp; injection hp with hp; subst hp; exact hmono _ (hr x hx hb)
    · rw [hset j e'] at hj; exact hmono _ (h.clo j p hp hj x hx hb)
  · intro j hj
    rcases (hdone' j).1 hj with hj | rfl
    · exact h.dn j hj
    · exact hsz
  · intro j hj k hk
    rcases (hdone' j).1 hj with hj | rfl
    · exact (hdone' k).2 (.inl (h.dclo j hj k hk))
    · exact (hdone' k).2 (.inl (hbd k hk))
  · intro j hj
    by_cases e' : j = e
    · exact (hdone' j).2 (.inr e'.symm)
    · rw [hset j e'] at hj; exact (hdone' j).2 (.inl (h.sub j hj))
  · intro j p hp hj hk
    rcases (hdone' j).1 hj with hj | rfl
    · exact hmono _ (h.effD j p hp hj hk)
    · exact getD_set_same hil
  · cases hdd : o.dst <;> simp [Act.put, h.dfr]
  · cases hdd : o.dst <;> simp [Act.put, h.size]
  · intro j p t x hp hj hpd hx
    simp only at hx
    by_cases e' : j = e
    · subst e'
      rw [ho] at hp; injection hp with hp; subst hp
      obtain ⟨h1, h2⟩ := hp1 t hpd
      rw [h2] at hx; injection hx with hx; subst hx
      exact ⟨u, by simp [Act.put, hpd, h.size, h1], hu⟩
    · rw [hset j e'] at hj
      rw [hother j p t hp e' hpd] at hx
      obtain ⟨y, hy1, hy2⟩ := h.t1 j p t x hp hj hpd hx
      have hne : o.dst ≠ some t := hf.uniq e j o p t ho hp (Ne.symm e') hpd
      refine ⟨y, ?_, VRel.mono he1.le _ _ hy2⟩
      cases hod : o.dst with
      | none => simpa [Act.put] using hy1
      | some d =>
        have hdt : d ≠ t := fun e => hne (by rw [hod, e])
        simp [Act.put, Array.getElem?_setIfInBounds_ne hdt, hy1]
  · intro t x hx hno
    have hne : o.dst ≠ some t := hno e o ho (getD_set_same hil)
    obtain ⟨y, hy1, hy2⟩ := h.t2 t x hx fun j p hp hj => hno j p hp (hmono j hj)
    refine ⟨y, ?_, VRel.mono he1.le _ _ hy2⟩
    cases hod : o.dst with
    | none => simpa [Act.put] using hy1
    | some d =>
      have hdt : d ≠ t := fun e => hne (by rw [hod, e])
      simp [Act.put, Array.getElem?_setIfInBounds_ne hdt, hy1]
  · intro t ht
    simp only
    rw [hp2 t (ht e o ho ((hdone' e).2 (.inr rfl)))]
    exact h.tc t fun j p hp hj => ht j p hp ((hdone' j).2 (.inl hj))
  · intro j hj hjl
    have e' : j ≠ e := fun e' => by subst e'; rw [getD_set_same hil] at hjl; cases hjl
    rw [hset j e'] at hjl
    exact hnew j hj hjl
  · intro j p hp hj hjl
    have e' : j ≠ e := fun e' => by subst e'; rw [getD_set_same hil] at hjl; cases hjl
    rw [hset j e'] at hjl
    have hj' : has S.done j = true := by
      rcases (hdone' j).1 hj with hj | rfl
      · exact hj
      · exact absurd rfl e'
    have hbj : has (bits.getD e 0) j = false := by
      cases hbj : has (bits.getD e 0) j with
      | false => rfl
      | true => rw [hbl j hbj] at hjl; cases hjl
    obtain ⟨tmi, di, pci, x, e1, e2, e3, e4, e5, e6, e7, e8, e11, e9⟩ := h.ents j p hp hj' hjl
    refine ⟨tmi, di, pci, x, e1, e2, e3, e4, fun k hk' => (hdone' k).2 (.inl (e5 k hk')), ?_, e7, ?_, ?_, ?_⟩
    · intro t k q hk' hq hd
      have hne : k ≠ e := fun e => by subst e; rw [e5 k hk'] at hnd; cases hnd
      simp only
      rw [hother k q t hq hne hd]; exact e6 t k q hk' hq hd
    · intro t hd
      simp only
      rw [hother j p t hp e' hd]; exact e8 t hd
    · intro y hy hyj
      exact e11 y ((hleft y).1 hy).1 hyj
    · rcases e9 with e9 | ⟨e9, e10 | ⟨t, y, av, f1, f2, f3, f4⟩ | ⟨blk, mk, f1, f2, f3, f4⟩⟩
      · exact .inl e9
      · exact .inr ⟨e9, .inl e10⟩
      · obtain ⟨g1, g2⟩ := heldAt_spec hheld _ f4 hbj
        exact .inr ⟨e9, .inr (.inl ⟨t, y, av, f1, f2, g2, g1⟩)⟩
      · exact .inr ⟨e9, .inr (.inr ⟨blk, mk, f1, f2, f3, (hleft _).2 ⟨f4, hbj⟩⟩)⟩
  · intro x hx; exact h.pendN x ((hleft x).1 hx).1
  · intro x hx
    have := h.pendW x ((hleft x).1 hx).1
    exact ⟨this.1, (hdone' _).2 (.inl this.2)⟩
  · exact Nat.le_trans h.nxb he1.nx
  · intro j hj hor blk hg
    simp only at hg
    cases hlv : blk.live with
    | false => rfl
    | true =>
      exfalso
      obtain ⟨y, o1, hat⟩ := (hr1.blk _ _ hg).bound hlv
      cases hjl : listed.getD j false with
      | false => rw [hnew j hj hjl] at hat; cases hat
      | true =>
        rcases hor with hor | ⟨x, hx, rfl⟩
        · rw [(hdone' j).2 (.inl (h.sub j hjl))] at hor; cases hor
        · obtain ⟨hx1, hx2⟩ := (hleft x).1 hx
          have hb := h.heap.blk x.2.1 x.2.2 (wing x hx hjl).1
          have hxlv : x.2.2.live = true := ABlk.live_of_rw (ABlk.rw_of_solid (h.pendW x hx1).1)
          obtain ⟨y', o1', ha⟩ := hb.bound hxlv
          have ha' := he1.le.1 _ _ ha
          rw [h.pendN x hx1, hat] at ha'
          injection ha' with ha'
          have hyy : y = y' := congrArg Prod.fst ha'
          subst hyy
          have hlt := hb.lt h.heap.pos hxlv ha
          rcases he1.live _ blk y o1 hg hlv hat (hb.solid (h.pendW x hx1).1 ha) with h9 | ⟨n0, blk0, o0, h10, h11, _, h12⟩
          · omega
          · exact wingsep x hx hjl n0 blk0 y o1' o0 h10 h11 ha h12
end
end Go.Sx
