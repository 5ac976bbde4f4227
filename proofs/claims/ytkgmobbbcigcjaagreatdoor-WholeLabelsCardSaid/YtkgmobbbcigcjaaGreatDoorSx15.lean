/- An executor for the model's Go code over an abstract state: an operation of a drawn region comes up. -/
import Derived.Test.YtkgmobbbcigcjaaGreatDoorSx14
namespace Go.Sx
set_option linter.unusedVariables false

theorem insD_congr {D D' : Nat → Bool} : ∀ (l : List (Nat × Nat × ABlk)) (H : T ABlk), (∀ x ∈ l, D x.1 = D' x.1) → insD D H l = insD D' H l
  | [], _, _ => rfl
  | (i, n, blk) :: l, H, h => by
    have h0 := h (i, n, blk) List.mem_cons_self
    simp only at h0
    have ih := fun H => insD_congr l H fun x hx => h x (List.mem_cons_of_mem _ hx)
    simp only [insD, h0, ih]

theorem getD_set_same {listed : Array Bool} {i : Nat} (hi : i < listed.size) : (listed.setIfInBounds i true).getD i false = true := by simp [hi]

section
variable {ρ : Rho} {P : Program} {ops : Array Oper} {bits : List Nat} {nt base : Nat} {tm0 : TM} {δ0 : Dl} {hs0 : HS} {w0 : World} {Q : Exit → Act → World → Prop}

/-- A quiet operation has come up. -/
theorem Inv.list (hf : Fixed ops bits) {S : DS} {pc : PC} {listed : Array Bool} {δ δ' : Dl} {a : Act} {w w' : World} (h : Inv ρ P ops bits nt base tm0 δ0 hs0 w0 S pc listed δ a w)
    {i : Nat} {o : Oper} {v : AV} {u : Value} (ho : ops[i]? = some o) (hr : ∀ e ∈ o.after, Region.binds .any e = true → listed.getD e.on false = true) (hd : has S.done i = true)
    (hdst : ∀ t, o.dst = some t → t < nt ∧ S.tm.get t = some v) (hle : δ.le δ') (hu : VRel ρ δ' v u)
    (hheap : HRep ρ δ' { S.hs with heap := insD (fun j => (listed.setIfInBounds i true).getD j false) S.hs.heap S.pend } w')
    (hevo : Evo δ0 hs0 w0 δ' { S.hs with heap := insD (fun j => (listed.setIfInBounds i true).getD j false) S.hs.heap S.pend } w')
    (hresv : ∀ j, j < ops.size → (listed.setIfInBounds i true).getD j false = false → δ'.at_ (base + j) = none) :
    Inv ρ P ops bits nt base tm0 δ0 hs0 w0 S pc (listed.setIfInBounds i true) δ' (a.put o.dst u) w' := by
  have hsz : i < ops.size := (Array.getElem?_eq_some_iff.1 ho).1
  have hil : i < listed.size := by rw [h.lsz]; exact hsz
  have hset : ∀ j, j ≠ i → (listed.setIfInBounds i true).getD j false = listed.getD j false := fun j hj => getD_set_ne false (Ne.symm hj)
  have hmono : ∀ j, listed.getD j false = true → (listed.setIfInBounds i true).getD j false = true := fun j hj => by
    by_cases e : j = i
    · subst e; exact getD_set_same hil
    · rw [hset j e]; exact hj
  refine ⟨h.pcs, by simp [h.lsz], ?_, h.dn, h.dclo, ?_, ?_, ?_, ?_, ?_, ?_, h.tc, hheap, hevo, hresv, ?_, h.pendN, h.pendW, h.pendD, h.nxb, h.hsF, h.base0⟩
  · intro j p hp hj e he hb
    by_cases e' : j = i
    · subst e'; rw [ho] at hp; injection hp with hp; subst hp; exact hmono _ (hr e he hb)
    · rw [hset j e'] at hj; exact hmono _ (h.clo j p hp hj e he hb)
  · intro j hj
    by_cases e : j = i
    · subst e; exact hd
    · rw [hset j e] at hj; exact h.sub j hj
  · intro j p hp hj hk; exact hmono _ (h.effD j p hp hj hk)
  · cases hdd : o.dst <;> simp [Act.put, h.dfr]
  · cases hdd : o.dst <;> simp [Act.put, h.size]
  · intro j p t x hp hj hpd hx
    by_cases e : j = i
    · subst e
      rw [ho] at hp; injection hp with hp; subst hp
      obtain ⟨h1, h2⟩ := hdst t hpd
      rw [h2] at hx; injection hx with hx; subst hx
      exact ⟨u, by simp [Act.put, hpd, h.size, h1], hu⟩
    · rw [hset j e] at hj
      obtain ⟨y, hy1, hy2⟩ := h.t1 j p t x hp hj hpd hx
      have hne : o.dst ≠ some t := hf.uniq i j o p t ho hp (Ne.symm e) hpd
      refine ⟨y, ?_, VRel.mono hle _ _ hy2⟩
      cases hod : o.dst with
      | none => simpa [Act.put] using hy1
      | some d =>
        have hdt : d ≠ t := fun e => hne (by rw [hod, e])
        simp [Act.put, Array.getElem?_setIfInBounds_ne hdt, hy1]
  · intro t x hx hno
    have hne : o.dst ≠ some t := hno i o ho (getD_set_same hil)
    obtain ⟨y, hy1, hy2⟩ := h.t2 t x hx fun j p hp hj => hno j p hp (hmono j hj)
    refine ⟨y, ?_, VRel.mono hle _ _ hy2⟩
    cases hod : o.dst with
    | none => simpa [Act.put] using hy1
    | some d =>
      have hdt : d ≠ t := fun e => hne (by rw [hod, e])
      simp [Act.put, Array.getElem?_setIfInBounds_ne hdt, hy1]
  · intro j p hp hj hl
    have e : j ≠ i := fun e => by subst e; rw [getD_set_same hil] at hl; cases hl
    rw [hset j e] at hl
    exact h.ents j p hp hj hl

theorem Inv.exec (hf : Fixed ops bits) {S : DS} {pc : PC} {listed : Array Bool} {δ : Dl} {a : Act} {w : World} (h : Inv ρ P ops bits nt base tm0 δ0 hs0 w0 S pc listed δ a w)
    {i : Nat} {o : Oper} (ho : ops[i]? = some o) (hr : ∀ e ∈ o.after, Region.binds .any e = true → listed.getD e.on false = true) (hd : has S.done i = true) (hul : listed.getD i false = false)
    {K : Act → World → Prop} (hK : ∀ δ' a' w', Inv ρ P ops bits nt base tm0 δ0 hs0 w0 S pc (listed.setIfInBounds i true) δ' a' w' → K a' w') : wpOp P ops Q i K a w := by
  have hsz : i < ops.size := (Array.getElem?_eq_some_iff.1 ho).1
  have hil : i < listed.size := by rw [h.lsz]; exact hsz
  have hset : ∀ j, j ≠ i → (listed.setIfInBounds i true).getD j false = listed.getD j false := fun j hj => getD_set_ne false (Ne.symm hj)
  obtain ⟨tmi, di, pci, v, e1, e2, e3, e4, e5, e6, e7, e8, e11, e9⟩ := h.ents i o ho hd hul
  have hlook : LookOK ρ δ ops tmi a o := by
    intro t ht x hx
    by_cases hw : ∃ (j : Nat) (p : Oper), ops[j]? = some p ∧ p.dst = some t ∧ j ≠ i ∧ has di j = true
    · obtain ⟨j, p, hp, hpd, hji, hdj⟩ := hw
      rcases hf.order i j o p t ho hp (Ne.symm hji) hpd ht with h1 | h1
      · have hlj := hf.before h.clo i o ho hr j h1
        exact h.t1 j p t x hp hlj hpd (by rw [← e6 t j p hdj hp hpd]; exact hx)
      · have := e4 j hdj i h1
        rw [e3] at this; cases this
    · have hno : ∀ (j : Nat) (p : Oper), ops[j]? = some p → has di j = true → p.dst ≠ some t := by
        intro j p hp hdj hpd
        have hji : j ≠ i := fun e => by subst e; rw [e3] at hdj; cases hdj
        exact hw ⟨j, p, hp, hpd, hji, hdj⟩
      rw [e7 t hno] at hx
      refine h.t2 t x hx fun j p hp hlj hpd => ?_
      have hji : j ≠ i := fun e => by subst e; rw [hul] at hlj; cases hlj
      rcases hf.order i j o p t ho hp (Ne.symm hji) hpd ht with h1 | h1
      · exact hno j p hp (e2 j h1) hpd
      · have := hf.beforeD h.clo hp hlj h1
        rw [hul] at this; cases this
  have hev := hlook.ev h.heap.glob
  have hwant := want_sound (a := a) e1 hlook
  -- what does not change memory
  have same : (∀ x ∈ S.pend, x.1 ≠ i) → ∀ u, VRel ρ δ v u → K (a.put o.dst u) w := by
    intro hnp u hu
    have hins : insD (fun j => (listed.setIfInBounds i true).getD j false) S.hs.heap S.pend = insD (fun j => listed.getD j false) S.hs.heap S.pend :=
      insD_congr _ _ fun x hx => hset x.1 (hnp x hx)
    refine hK δ _ w (h.list hf ho hr hd e8 δ.le_refl hu (by rw [hins]; exact h.heap) (by rw [hins]; exact h.evo) ?_)
    intro j hj hjl
    have hji : j ≠ i := fun e => by subst e; rw [getD_set_same hil] at hjl; cases hjl
    rw [hset j hji] at hjl
    exact h.resv j hj hjl
  unfold wpOp
  simp only [ho]
  rcases e9 with ⟨hs, rfl⟩ | ⟨hy, hk⟩
  · rw [hwant.2 hs]
    simp only [Bool.false_eq_true, if_false]
    exact same (fun x hx e => by have := (e11 x hx e).2; rw [hs] at this; cases this) undef (by simp [VRel, VRels, undef])
  · rw [hwant.1 hy]
    simp only [if_true]
    left
    rcases hk with ⟨hk, hpop⟩ | ⟨t, x, av, hop, hav, hld, _⟩ | ⟨blk, mk, hk, hal, rfl, hmem⟩
    · obtain ⟨u, hu1, hu2⟩ := pop_sound (P := P) e1 hev hpop
      unfold Oper.wp
      rw [hu2 w]
      exact same (fun x hx e => by have := (e11 x hx e).1; rw [hk] at this; cases this) u hu1
    · have hkl : kindOf o.op = .load := by rw [hop]; rfl
      have hnl : ∀ k b, S.hs.heap.get k = some b → b.live = true → (insD (fun j => listed.getD j false) S.hs.heap S.pend).get k = some b := by
        intro k b hb hlv
        rw [insD_out]
        · exact hb
        · intro x hx _ e
          have h9 := h.hsF x.1 (h.dn _ (h.pendW x hx).2) (.inr ⟨x, hx, rfl⟩) b (by rw [← h.pendN x hx, e]; exact hb)
          rw [hlv] at h9; cases h9
      have hblk : ∀ n b, S.hs.heap.get n = some b → BRep ρ δ w n b := by
        intro n b hb
        cases b with
        | dead => trivial
        | cells => exact h.heap.blk n _ (hnl n _ hb rfl)
        | seq => exact h.heap.blk n _ (hnl n _ hb rfl)
      obtain ⟨y, hy1, hy2⟩ := load_sound (P := P) hblk (hev x (by rw [hop]; simp [Op.operands]) av hav) hld
      unfold Oper.wp
      have he : (execOp a.eval o).run P w = .ok (.value y) w := by
        obtain ⟨dst, op, type, pos, after, guard⟩ := o
        simp only at hop; subst hop
        simp [execOp, hy2]
      rw [he]
      exact same (fun x hx e => by have := (e11 x hx e).1; rw [hkl] at this; cases this) y hy1
    · obtain ⟨hrw, cur, elem, hA⟩ := alloc_sound (P := P) hev hal w h.heap.pos
      have hfn := h.resv i hsz hul
      have hlt : base + i < S.hs.nx := by have := h.nxb; omega
      have hle : δ.le (δ.bind (base + i) (w.heap.size, 0)) := Dl.le_bind hfn
      obtain ⟨hb, u, hu1, hu2⟩ := hA (δ.bind (base + i) (w.heap.size, 0)) (base + i) hle Dl.bind_same
      have hext : ∀ k, (insD (fun j => (listed.setIfInBounds i true).getD j false) S.hs.heap S.pend).get k = ((insD (fun j => listed.getD j false) S.hs.heap S.pend).set (base + i) blk).get k := by
        intro k
        rw [T.get_set]
        by_cases e : k = base + i
        · subst e
          rw [if_pos rfl]
          exact insD_in S.pend S.hs.heap h.pendD (i, base + i, blk) hmem (getD_set_same hil)
        · rw [if_neg e]
          by_cases hex : ∃ x ∈ S.pend, (listed.setIfInBounds i true).getD x.1 false = true ∧ x.2.1 = k
          · obtain ⟨x, hx, hxl, hxk⟩ := hex
            have hxi : x.1 ≠ i := fun e' => e (by rw [← hxk, h.pendN x hx, e'])
            have hxl' : listed.getD x.1 false = true := by rw [← hset x.1 hxi]; exact hxl
            rw [← hxk, insD_in S.pend S.hs.heap h.pendD x hx hxl, insD_in S.pend S.hs.heap h.pendD x hx hxl']
          · rw [insD_out S.pend S.hs.heap fun x hx hxl e' => hex ⟨x, hx, hxl, e'⟩]
            rw [insD_out S.pend S.hs.heap fun x hx hxl e' => hex ⟨x, hx, ?_, e'⟩]
            by_cases hxi : x.1 = i
            · rw [hxi]; exact getD_set_same hil
            · rw [hset x.1 hxi]; exact hxl
      have ha := h.heap.alloc (nm := base + i) (nx' := S.hs.nx) (obj := .cells cur elem) hfn (Nat.le_refl _) hlt hb
      have hea := h.evo.alloc (nm := base + i) (nx' := S.hs.nx) (obj := .cells cur elem) (blk := blk) hfn (by rw [h.base0]; omega) (Nat.le_refl _) hlt
      unfold Oper.wp
      rw [hu2]
      refine hK _ _ _ (h.list hf ho hr hd e8 hle hu1 (ha.ext hext rfl rfl) (hea.ext hext rfl rfl) ?_)
      intro j hj hjl
      have hji : j ≠ i := fun e => by subst e; rw [getD_set_same hil] at hjl; cases hjl
      rw [hset j hji] at hjl
      rw [Dl.bind_other (by omega)]
      exact h.resv j hj hjl
end
end Go.Sx
