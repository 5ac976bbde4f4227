/- An executor for the model's Go code over an abstract state: what holds in the midst of a region whose order is drawn. -/
import Derived.Test.YtkgmobbbcigcjaaGreatDoorSx13
namespace Go.Sx
set_option linter.unusedVariables false

def insD (D : Nat → Bool) (H : T ABlk) : List (Nat × Nat × ABlk) → T ABlk
  | [] => H
  | (i, n, blk) :: l => match D i with
    | true => insD D (H.set n blk) l
    | false => insD D H l

theorem mergeB_eq (b : Nat) : ∀ (l : List (Nat × Nat × ABlk)) (H : T ABlk), mergeB b H l = insD (has b) H l
  | [], _ => rfl
  | (i, n, blk) :: l, H => by
    simp only [mergeB, insD]
    cases has b i with
    | true => exact mergeB_eq b l _
    | false => exact mergeB_eq b l _

theorem mergeAll_eq : ∀ (l : List (Nat × Nat × ABlk)) (H : T ABlk), mergeAll H l = insD (fun _ => true) H l
  | [], _ => rfl
  | (_, n, blk) :: l, H => by
    simp only [mergeAll, insD]
    exact mergeAll_eq l _

theorem insD_out {D : Nat → Bool} {k : Nat} : ∀ (l : List (Nat × Nat × ABlk)) (H : T ABlk), (∀ x ∈ l, D x.1 = true → x.2.1 ≠ k) → (insD D H l).get k = H.get k
  | [], _, _ => rfl
  | (i, n, blk) :: l, H, h => by
    simp only [insD]
    split
    · rename_i hd
      rw [insD_out l _ fun x hx => h x (List.mem_cons_of_mem _ hx), T.get_set]
      have := h (i, n, blk) List.mem_cons_self hd
      rw [if_neg (Ne.symm this)]
    · exact insD_out l _ fun x hx => h x (List.mem_cons_of_mem _ hx)

theorem insD_in {D : Nat → Bool} : ∀ (l : List (Nat × Nat × ABlk)) (H : T ABlk), l.Pairwise (fun x y => x.2.1 ≠ y.2.1) → ∀ x ∈ l, D x.1 = true → (insD D H l).get x.2.1 = some x.2.2
  | [], _, _, x, hx, _ => by cases hx
  | (i, n, blk) :: l, H, hp, x, hx, hd => by
    rw [List.pairwise_cons] at hp
    simp only [insD]
    rcases List.mem_cons.1 hx with rfl | hx
    · simp only at hd
      simp only [hd]
      rw [insD_out l _ fun y hy _ => Ne.symm (hp.1 y hy), T.get_set]
      simp
    · split
      · exact insD_in l _ hp.2 x hx hd
      · exact insD_in l _ hp.2 x hx hd

theorem insD_cases {D : Nat → Bool} {l : List (Nat × Nat × ABlk)} {H : T ABlk} (hp : l.Pairwise (fun x y => x.2.1 ≠ y.2.1)) {k : Nat} {b : ABlk} (h : (insD D H l).get k = some b) :
    (∃ x ∈ l, D x.1 = true ∧ x.2.1 = k ∧ x.2.2 = b) ∨ ((∀ x ∈ l, D x.1 = true → x.2.1 ≠ k) ∧ H.get k = some b) := by
  by_cases hc : ∃ x ∈ l, D x.1 = true ∧ x.2.1 = k
  · obtain ⟨x, hx, hd, rfl⟩ := hc
    rw [insD_in l H hp x hx hd] at h
    injection h with h
    exact .inl ⟨x, hx, hd, rfl, h⟩
  · right
    have hc' : ∀ x ∈ l, D x.1 = true → x.2.1 ≠ k := fun x hx hd e => hc ⟨x, hx, hd, e⟩
    exact ⟨hc', by rw [insD_out l H hc'] at h; exact h⟩

theorem HRep.ext {ρ : Rho} {δ : Dl} {hs hs' : HS} {w : World} (h : HRep ρ δ hs w) (hg : ∀ k, hs'.heap.get k = hs.heap.get k) (hx : hs'.nx = hs.nx) (hc : hs'.nc = hs.nc) : HRep ρ δ hs' w where
  blk := fun n b hn => h.blk n b (by rw [← hg]; exact hn)
  sep := fun n m b c x y o o' hn hm => h.sep n m b c x y o o' (by rw [← hg]; exact hn) (by rw [← hg]; exact hm)
  freshN := fun n hn => h.freshN n (by rw [← hx]; exact hn)
  freshC := fun i hi => h.freshC i (by rw [← hc]; exact hi)
  glob := h.glob
  nx := by rw [hx]; exact h.nx
  pos := h.pos

theorem HRep.sub {ρ : Rho} {δ : Dl} {hs hs' : HS} {w : World} (h : HRep ρ δ hs w) (hg : ∀ k b, hs'.heap.get k = some b → b.live = true → hs.heap.get k = some b) (hx : hs'.nx = hs.nx) (hc : hs'.nc = hs.nc) : HRep ρ δ hs' w where
  blk := fun n b hn => by
    cases b with
    | dead => trivial
    | cells => exact h.blk n _ (hg n _ hn rfl)
    | seq => exact h.blk n _ (hg n _ hn rfl)
  sep := fun n m b c x y o o' hn hm hne hrw hlv => h.sep n m b c x y o o' (hg n b hn (ABlk.live_of_rw hrw)) (hg m c hm hlv) hne hrw hlv
  freshN := fun n hn => h.freshN n (by rw [← hx]; exact hn)
  freshC := fun i hi => h.freshC i (by rw [← hc]; exact hi)
  glob := h.glob
  nx := by rw [hx]; exact h.nx
  pos := h.pos

theorem Evo.ext {δ δ' : Dl} {hs hs' hs2 : HS} {w w' : World} (h : Evo δ hs w δ' hs' w') (hg : ∀ k, hs2.heap.get k = hs'.heap.get k) (hx : hs2.nx = hs'.nx) (hc : hs2.nc = hs'.nc) : Evo δ hs w δ' hs2 w' where
  le := h.le
  size := h.size
  unch := h.unch
  live := fun n blk b o hn => h.live n blk b o (by rw [← hg]; exact hn)
  nx := by rw [hx]; exact h.nx
  nc := by rw [hc]; exact h.nc
  new := fun n x e => by rw [hx]; exact h.new n x e
  os := h.os
  tape := h.tape
  output := h.output

theorem put_spec {nt : Nat} {tm tm' : TM} {d : Option Tmp} {v : AV} (h : put nt tm d v = some tm') :
    (∀ t, d = some t → t < nt ∧ tm'.get t = some v) ∧ (∀ t, d ≠ some t → tm'.get t = tm.get t) := by
  unfold put at h
  cases d with
  | none => simp at h; subst h; exact ⟨fun t e => (by cases e), fun t _ => rfl⟩
  | some d =>
    simp only at h
    split at h
    · rename_i hlt
      simp only [Option.some.injEq] at h; subst h
      refine ⟨fun t e => ?_, fun t e => ?_⟩
      · injection e with e; subst e; exact ⟨blt_lt hlt, by rw [T.get_set]; simp⟩
      · rw [T.get_set, if_neg fun e' => e (by rw [e'])]
    · cases h

section
variable {ρ : Rho} {P : Program} {ops : Array Oper} {bits : List Nat} {nt base : Nat} {tm0 : TM} {δ0 : Dl} {hs0 : HS} {w0 : World}

/-- An operation that the executor has taken, and that may not have come up yet. -/
def Ent (ρ : Rho) (P : Program) (ops : Array Oper) (bits : List Nat) (nt base : Nat) (tm0 : TM) (S : DS) (i : Nat) (o : Oper) : Prop :=
  ∃ tmi di pci v, PCh ρ pci ∧ (∀ j, has (bits.getD i 0) j = true → has di j = true) ∧ has di i = false ∧ (∀ j, has di j = true → ∀ k, has (bits.getD j 0) k = true → has di k = true) ∧
    (∀ j, has di j = true → has S.done j = true) ∧
    (∀ t j p, has di j = true → ops[j]? = some p → p.dst = some t → T.get tmi t = S.tm.get t) ∧
    (∀ t, (∀ (j : Nat) (p : Oper), ops[j]? = some p → has di j = true → p.dst ≠ some t) → T.get tmi t = tm0.get t) ∧
    (∀ t, o.dst = some t → t < nt ∧ S.tm.get t = some v) ∧ (∀ x ∈ S.pend, x.1 = i → kindOf o.op = .alloc ∧ wantOf pci tmi ops o = .yes) ∧
    ((wantOf pci tmi ops o = .skip ∧ v = .tup []) ∨
     (wantOf pci tmi ops o = .yes ∧ ((kindOf o.op = .pure ∧ pop P pci tmi o = .val v) ∨
       (∃ t x av, o.op = .load t x ∧ ev tmi x = some av ∧ loadAt P S.hs.heap t av = some v ∧ (i, t, av, v) ∈ S.held) ∨
       (∃ blk mk, kindOf o.op = .alloc ∧ allocOf P tmi o.op = some (blk, mk) ∧ v = mk (base + i) ∧ (i, base + i, blk) ∈ S.pend))))

structure Inv (ρ : Rho) (P : Program) (ops : Array Oper) (bits : List Nat) (nt base : Nat) (tm0 : TM) (δ0 : Dl) (hs0 : HS) (w0 : World) (S : DS) (pc : PC) (listed : Array Bool) (δ : Dl) (a : Act) (w : World) : Prop where
  pcs : PCh ρ pc
  lsz : listed.size = ops.size
  clo : Closed ops listed
  dn : ∀ i, has S.done i = true → i < ops.size
  dclo : ∀ i, has S.done i = true → ∀ j, has (bits.getD i 0) j = true → has S.done j = true
  sub : ∀ i, listed.getD i false = true → has S.done i = true
  effD : ∀ (i : Nat) (o : Oper), ops[i]? = some o → has S.done i = true → kindOf o.op = .eff → listed.getD i false = true
  dfr : a.defers = []
  size : a.tmps.size = nt
  t1 : ∀ (i : Nat) (o : Oper) t v, ops[i]? = some o → listed.getD i false = true → o.dst = some t → S.tm.get t = some v → ∃ u, a.tmps[t]? = some u ∧ VRel ρ δ v u
  t2 : ∀ t v, tm0.get t = some v → (∀ (i : Nat) (o : Oper), ops[i]? = some o → listed.getD i false = true → o.dst ≠ some t) → ∃ u, a.tmps[t]? = some u ∧ VRel ρ δ v u
  tc : ∀ t, (∀ (j : Nat) (o : Oper), ops[j]? = some o → has S.done j = true → o.dst ≠ some t) → S.tm.get t = tm0.get t
  heap : HRep ρ δ { S.hs with heap := insD (fun i => listed.getD i false) S.hs.heap S.pend } w
  evo : Evo δ0 hs0 w0 δ { S.hs with heap := insD (fun i => listed.getD i false) S.hs.heap S.pend } w
  resv : ∀ i, i < ops.size → listed.getD i false = false → δ.at_ (base + i) = none
  ents : ∀ (i : Nat) (o : Oper), ops[i]? = some o → has S.done i = true → listed.getD i false = false → Ent ρ P ops bits nt base tm0 S i o
  pendN : ∀ x ∈ S.pend, x.2.1 = base + x.1
  pendW : ∀ x ∈ S.pend, x.2.2.solid = true ∧ has S.done x.1 = true
  pendD : S.pend.Pairwise (fun x y => x.2.1 ≠ y.2.1)
  nxb : base + ops.size ≤ S.hs.nx
  hsF : ∀ j, j < ops.size → (has S.done j = false ∨ ∃ x ∈ S.pend, x.1 = j) → ∀ blk, S.hs.heap.get (base + j) = some blk → blk.live = false
  base0 : hs0.nx = base

theorem has_lor_pow (d i j : Nat) : has (Nat.lor d (Nat.pow 2 i)) j = true ↔ has d j = true ∨ i = j := by
  rw [has_lor, has_pow]; simp

/-- The executor takes an operation that is quiet: nothing has come up. -/
theorem Inv.quiet (hf : Fixed ops bits) {S S' : DS} {pc : PC} {listed : Array Bool} {δ : Dl} {a : Act} {w : World} (h : Inv ρ P ops bits nt base tm0 δ0 hs0 w0 S pc listed δ a w)
    {i : Nat} {o : Oper} {v : AV} {tm' : TM} (ho : ops[i]? = some o) (hb : ∀ j, has (bits.getD i 0) j = true → has S.done j = true) (hi : has S.done i = false) (hk : kindOf o.op ≠ .eff)
    (hput : put nt S.tm o.dst v = some tm') (hdone : S'.done = Nat.lor S.done (Nat.pow 2 i)) (htm : S'.tm = tm') (hhs : S'.hs = S.hs)
    (hheld : ∀ x ∈ S.held, x ∈ S'.held) (hpend : S'.pend = S.pend ∨ (kindOf o.op = .alloc ∧ wantOf pc S.tm ops o = .yes) ∧ ∃ blk, blk.solid = true ∧ S'.pend = (i, base + i, blk) :: S.pend)
    (hek : (wantOf pc S.tm ops o = .skip ∧ v = .tup []) ∨
     (wantOf pc S.tm ops o = .yes ∧ ((kindOf o.op = .pure ∧ pop P pc S.tm o = .val v) ∨
       (∃ t x av, o.op = .load t x ∧ ev S.tm x = some av ∧ loadAt P S'.hs.heap t av = some v ∧ (i, t, av, v) ∈ S'.held) ∨
       (∃ blk mk, kindOf o.op = .alloc ∧ allocOf P S.tm o.op = some (blk, mk) ∧ v = mk (base + i) ∧ (i, base + i, blk) ∈ S'.pend)))) :
    Inv ρ P ops bits nt base tm0 δ0 hs0 w0 S' pc listed δ a w := by
  obtain ⟨hp1, hp2⟩ := put_spec hput
  have hsz : i < ops.size := (Array.getElem?_eq_some_iff.1 ho).1
  have hdone' : ∀ j, has S'.done j = true ↔ has S.done j = true ∨ i = j := fun j => by rw [hdone]; exact has_lor_pow _ _ _
  have hul : listed.getD i false = false := by
    cases hl : listed.getD i false with
    | false => rfl
    | true => rw [h.sub i hl] at hi; cases hi
  have hpin : ∀ x ∈ S.pend, x ∈ S'.pend := by
    intro x hx
    rcases hpend with e | ⟨_, blk, _, e⟩
    · rw [e]; exact hx
    · rw [e]; exact List.mem_cons_of_mem _ hx
  have hheap : insD (fun i => listed.getD i false) S'.hs.heap S'.pend = insD (fun i => listed.getD i false) S.hs.heap S.pend := by
    rw [hhs]
    rcases hpend with e | ⟨_, blk, _, e⟩
    · rw [e]
    · rw [e]; simp only [insD, hul]
  have hother : ∀ (j : Nat) (p : Oper) t, ops[j]? = some p → j ≠ i → p.dst = some t → S'.tm.get t = S.tm.get t := by
    intro j p t hj hne hd
    rw [htm]
    exact hp2 t (hf.uniq i j o p t ho hj (Ne.symm hne) hd)
  refine ⟨h.pcs, h.lsz, h.clo, ?_, ?_, ?_, ?_, h.dfr, h.size, ?_, h.t2, ?_, ?_, ?_, h.resv, ?_, ?_, ?_, ?_, ?_, ?_, h.base0⟩
  · intro j hj
    rcases (hdone' j).1 hj with hj | rfl
    · exact h.dn j hj
    · exact hsz
  · intro j hj k hk'
    rcases (hdone' j).1 hj with hj | rfl
    · exact (hdone' k).2 (.inl (h.dclo j hj k hk'))
    · exact (hdone' k).2 (.inl (hb k hk'))
  · intro j hj; exact (hdone' j).2 (.inl (h.sub j hj))
  · intro j p hp hj hkd
    rcases (hdone' j).1 hj with hj | rfl
    · exact h.effD j p hp hj hkd
    · rw [ho] at hp; injection hp with hp; subst hp; exact absurd hkd hk
  · intro j p t x hp hj hd hx
    have hne : j ≠ i := fun e => by subst e; rw [hul] at hj; cases hj
    rw [hother j p t hp hne hd] at hx
    exact h.t1 j p t x hp hj hd hx
  · intro t ht
    rw [htm, hp2 t (ht i o ho ((hdone' i).2 (.inr rfl)))]
    exact h.tc t fun j p hp hj => ht j p hp ((hdone' j).2 (.inl hj))
  · rw [hheap, hhs]; exact h.heap
  · rw [hheap, hhs]; exact h.evo
  · intro j p hp hj hjl
    by_cases hji : j = i
    · subst hji
      rw [ho] at hp; injection hp with hp; subst hp
      refine ⟨S.tm, S.done, pc, v, h.pcs, hb, hi, h.dclo, fun k hk' => (hdone' k).2 (.inl hk'), ?_, ?_, ?_, ?_, hek⟩
      · intro t k p hk' hp' hd
        have hne : k ≠ j := fun e => by subst e; rw [hi] at hk'; cases hk'
        exact (hother k p t hp' hne hd).symm
      · intro t ht; exact h.tc t fun k p hp' hk' => ht k p hp' hk'
      · intro t hd; rw [htm]; exact hp1 t hd
      · intro x hx hxj
        rcases hpend with e | ⟨e1, blk, _, e⟩
        · rw [e] at hx
          have h9 := (h.pendW x hx).2
          rw [hxj, hi] at h9; cases h9
        · exact e1
    · have hj' : has S.done j = true := by
        rcases (hdone' j).1 hj with hj | rfl
        · exact hj
        · exact absurd rfl hji
      obtain ⟨tmi, di, pci, x, e1, e2, e3, e4, e5, e6, e7, e8, e11, e9⟩ := h.ents j p hp hj' hjl
      refine ⟨tmi, di, pci, x, e1, e2, e3, e4, fun k hk' => (hdone' k).2 (.inl (e5 k hk')), ?_, e7, ?_, ?_, ?_⟩
      · intro t k q hk' hq hd
        have hne : k ≠ i := fun e => by subst e; rw [e5 k hk'] at hi; cases hi
        rw [hother k q t hq hne hd]; exact e6 t k q hk' hq hd
      · intro t hd
        rw [hother j p t hp hji hd]; exact e8 t hd
      · intro y hy hyj
        rcases hpend with e | ⟨_, blk, _, e⟩
        · rw [e] at hy; exact e11 y hy hyj
        · rw [e] at hy
          rcases List.mem_cons.1 hy with rfl | hy
          · exact absurd hyj.symm hji
          · exact e11 y hy hyj
      · rcases e9 with e9 | ⟨e9, e10 | ⟨t, y, av, f1, f2, f3, f4⟩ | ⟨blk, mk, f1, f2, f3, f4⟩⟩
        · exact .inl e9
        · exact .inr ⟨e9, .inl e10⟩
        · exact .inr ⟨e9, .inr (.inl ⟨t, y, av, f1, f2, by rw [hhs]; exact f3, hheld _ f4⟩)⟩
        · exact .inr ⟨e9, .inr (.inr ⟨blk, mk, f1, f2, f3, hpin _ f4⟩)⟩
  · intro x hx
    rcases hpend with e | ⟨_, blk, _, e⟩
    · rw [e] at hx; exact h.pendN x hx
    · rw [e] at hx
      rcases List.mem_cons.1 hx with rfl | hx
      · rfl
      · exact h.pendN x hx
  · intro x hx
    rcases hpend with e | ⟨_, blk, hrw, e⟩
    · rw [e] at hx; exact ⟨(h.pendW x hx).1, (hdone' _).2 (.inl (h.pendW x hx).2)⟩
    · rw [e] at hx
      rcases List.mem_cons.1 hx with rfl | hx
      · exact ⟨hrw, (hdone' _).2 (.inr rfl)⟩
      · exact ⟨(h.pendW x hx).1, (hdone' _).2 (.inl (h.pendW x hx).2)⟩
  · rcases hpend with e | ⟨_, blk, _, e⟩
    · rw [e]; exact h.pendD
    · rw [e, List.pairwise_cons]
      refine ⟨fun x hx => ?_, h.pendD⟩
      rw [h.pendN x hx]
      intro e'
      have hxi : x.1 = i := by simp only at e'; omega
      have h9 := (h.pendW x hx).2
      rw [hxi, hi] at h9; cases h9
  · rw [hhs]; exact h.nxb
  · intro j hj hor blk hg
    rw [hhs] at hg
    refine h.hsF j hj ?_ blk hg
    rcases hor with hor | ⟨x, hx, rfl⟩
    · left
      cases hd : has S.done j with
      | false => rfl
      | true => rw [(hdone' j).2 (.inl hd)] at hor; cases hor
    · rcases hpend with e | ⟨_, blk', _, e⟩
      · rw [e] at hx; exact .inr ⟨x, hx, rfl⟩
      · rw [e] at hx
        rcases List.mem_cons.1 hx with rfl | hx
        · exact .inl hi
        · exact .inr ⟨x, hx, rfl⟩
end
end Go.Sx
