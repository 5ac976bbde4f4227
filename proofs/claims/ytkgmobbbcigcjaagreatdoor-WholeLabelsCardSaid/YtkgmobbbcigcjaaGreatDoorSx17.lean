/- An executor for the model's Go code over an abstract state: it is sound. -/
import Derived.Test.YtkgmobbbcigcjaaGreatDoorSx16
namespace Go.Sx
set_option linter.unusedVariables false

def cnt (listed : Array Bool) : Nat := listed.toList.count false

theorem cnt_set {listed : Array Bool} {i : Nat} (hi : i < listed.size) (hl : listed.getD i false = false) : cnt (listed.setIfInBounds i true) + 1 = cnt listed := by
  unfold cnt
  have hi' : i < listed.toList.length := by simpa using hi
  have hg : listed.toList[i] = false := by
    simp [hi] at hl
    simpa using hl
  rw [Array.toList_setIfInBounds, List.count_set hi', hg]
  have hpos : 0 < listed.toList.count false := List.count_pos_iff.2 (by rw [← hg]; exact List.getElem_mem hi')
  have e1 : (if (false == false) = true then 1 else 0) = 1 := rfl
  have e2 : (if (true == false) = true then 1 else 0) = 0 := rfl
  rw [e1, e2]
  omega

theorem cnt_zero {listed : Array Bool} (h : cnt listed = 0) {i : Nat} (hi : i < listed.size) : listed.getD i false = true := by
  cases hl : listed.getD i false with
  | true => rfl
  | false => have := cnt_set hi hl; omega

section
variable {ρ : Rho} {P : Program} {ops : Array Oper} {bits : List Nat} {nt base : Nat} {tm0 : TM} {δ0 : Dl} {hs0 : HS} {w0 : World} {Q : Exit → Act → World → Prop}

theorem not_ready {listed : Array Bool} (hall : ∀ i, i < ops.size → listed.getD i false = true) (hsz : listed.size = ops.size) : Region.ready .any ops listed = [] := by
  cases hr : Region.ready .any ops listed with
  | nil => rfl
  | cons i l =>
    have hi : i ∈ Region.ready .any ops listed := by rw [hr]; exact List.mem_cons_self
    obtain ⟨h1, o, ho, _⟩ := mem_ready.1 hi
    have hlt : i < ops.size := (Array.getElem?_eq_some_iff.1 ho).1
    have h2 := hall i hlt
    have hlt' : i < listed.size := by omega
    simp [hlt'] at h1 h2
    rw [h1] at h2; cases h2

theorem ready_false {listed : Array Bool} {i : Nat} (h : i ∈ Region.ready .any ops listed) (hsz : listed.size = ops.size) :
    listed.getD i false = false ∧ ∃ o, ops[i]? = some o ∧ ∀ e ∈ o.after, Region.binds .any e = true → listed.getD e.on false = true := by
  obtain ⟨h1, o, ho, h2⟩ := mem_ready.1 h
  have hlt : i < ops.size := (Array.getElem?_eq_some_iff.1 ho).1
  have hlt' : i < listed.size := by omega
  refine ⟨?_, o, ho, h2⟩
  simp [hlt'] at h1 ⊢
  exact h1

/-- What is left of a region when the executor has taken all. -/
theorem rest_sound (hf : Fixed ops bits) {S : DS} {pc : PC} (hall : ∀ i, i < ops.size → has S.done i = true)
    (hQ : ∀ listed δ a w, Inv ρ P ops bits nt base tm0 δ0 hs0 w0 S pc listed δ a w → (∀ i, i < ops.size → listed.getD i false = true) → Q .normal a w) :
    ∀ (n : Nat) (listed : Array Bool) (δ : Dl) (a : Act) (w : World), Inv ρ P ops bits nt base tm0 δ0 hs0 w0 S pc listed δ a w → cnt listed = n → wpAny P .any ops Q n listed a w := by
  intro n
  induction n with
  | zero =>
    intro listed δ a w h hc
    have hl : ∀ i, i < ops.size → listed.getD i false = true := fun i hi => cnt_zero hc (by rw [h.lsz]; exact hi)
    exact ⟨not_ready hl h.lsz, hQ listed δ a w h hl⟩
  | succ n ih =>
    intro listed δ a w h hc
    refine ⟨fun hr => ?_, fun i hi => ?_⟩
    · by_cases hex : ∃ i, i < ops.size ∧ listed.getD i false = false
      · obtain ⟨i, h1, h2⟩ := hex
        exact absurd hr (ready_exists hf h.lsz i h1 h2)
      · refine hQ listed δ a w h fun i hi => ?_
        cases hl : listed.getD i false with
        | true => rfl
        | false => exact absurd ⟨i, hi, hl⟩ hex
    · obtain ⟨h1, o, ho, h2⟩ := ready_false hi h.lsz
      have hlt : i < ops.size := (Array.getElem?_eq_some_iff.1 ho).1
      refine h.exec hf ho h2 (hall i hlt) h1 fun δ' a' w' h' => ih _ δ' a' w' h' ?_
      have := cnt_set (listed := listed) (by rw [h.lsz]; exact hlt) h1
      omega

theorem Inv.look (hf : Fixed ops bits) {S : DS} {pc : PC} {listed : Array Bool} {δ : Dl} {a : Act} {w : World} (h : Inv ρ P ops bits nt base tm0 δ0 hs0 w0 S pc listed δ a w)
    {i : Nat} {o : Oper} (ho : ops[i]? = some o) (hr : ∀ e ∈ o.after, Region.binds .any e = true → listed.getD e.on false = true) (hnd : has S.done i = false) : LookOK ρ δ ops S.tm a o := by
  intro t ht x hx
  by_cases hw : ∃ (j : Nat) (p : Oper), ops[j]? = some p ∧ p.dst = some t ∧ j ≠ i ∧ has S.done j = true
  · obtain ⟨j, p, hp, hpd, hji, hdj⟩ := hw
    rcases hf.order i j o p t ho hp (Ne.symm hji) hpd ht with h1 | h1
    · exact h.t1 j p t x hp (hf.before h.clo i o ho hr j h1) hpd hx
    · have := h.dclo j hdj i h1
      rw [hnd] at this; cases this
  · have hno : ∀ (j : Nat) (p : Oper), ops[j]? = some p → has S.done j = true → p.dst ≠ some t := by
      intro j p hp hdj hpd
      have hji : j ≠ i := fun e => by subst e; rw [hnd] at hdj; cases hdj
      exact hw ⟨j, p, hp, hpd, hji, hdj⟩
    rw [h.tc t hno] at hx
    exact h.t2 t x hx fun j p hp hlj => hno j p hp (h.sub j hlj)

variable {α : Type} {Ψ : α → Prop} {ck : CallK α}

theorem drun_sound (hck : CallSound ρ P Ψ ck) (hf : Fixed ops bits) {k : TM → HS → PC → Tr α}
    (hk : ∀ tm' hs' pc' δ' a' w', PCh ρ pc' → HRep ρ δ' hs' w' → TRep ρ δ' nt tm' a' → Evo δ0 hs0 w0 δ' hs' w' → (k tm' hs' pc').holds ρ Ψ → Q .normal a' w') :
    ∀ (f : Nat) (rest : List Nat) (S : DS) (pc : PC), (drun P ck nt ops bits base f rest S pc k).holds ρ Ψ →
      ∀ (listed : Array Bool) (δ : Dl) (a : Act) (w : World), Inv ρ P ops bits nt base tm0 δ0 hs0 w0 S pc listed δ a w → wpAny P .any ops Q (cnt listed) listed a w := by
  intro f
  induction f with
  | zero => intro rest S pc h; exact h.elim
  | succ f ih =>
    intro rest S pc h
    cases rest with
    | nil =>
      simp only [drun] at h
      split at h
      case h_2 => exact h.elim
      rename_i hfull
      have hfull := beq_eq hfull
      have hall : ∀ i, i < ops.size → has S.done i = true := by
        intro i hi
        have e : S.done = 2 ^ ops.size - 1 := by
          have e1 : S.done + 1 = 2 ^ ops.size := hfull
          omega
        rw [e]
        unfold has
        rw [Nat.testBit_two_pow_sub_one]
        simpa using hi
      intro listed δ a w hinv
      refine rest_sound hf hall ?_ (cnt listed) listed δ a w hinv rfl
      intro listed δ a w hinv hl
      have hins : mergeAll S.hs.heap S.pend = insD (fun j => listed.getD j false) S.hs.heap S.pend := by
        rw [mergeAll_eq]
        exact insD_congr _ _ fun x hx => (hl x.1 (hinv.dn _ (hinv.pendW x hx).2)).symm
      rw [hins] at h
      refine hk S.tm _ pc δ a w hinv.pcs hinv.heap ⟨hinv.dfr, hinv.size, fun t v hv => ?_⟩ hinv.evo h
      by_cases hw : ∃ (j : Nat) (p : Oper), ops[j]? = some p ∧ p.dst = some t
      · obtain ⟨j, p, hp, hpd⟩ := hw
        exact hinv.t1 j p t v hp (hl j (Array.getElem?_eq_some_iff.1 hp).1) hpd hv
      · have hno : ∀ (j : Nat) (p : Oper), ops[j]? = some p → p.dst ≠ some t := fun j p hp hpd => hw ⟨j, p, hp, hpd⟩
        rw [hinv.tc t fun j p hp _ => hno j p hp] at hv
        exact hinv.t2 t v hv fun j p hp _ => hno j p hp
    | cons i rest =>
      simp only [drun] at h
      split at h
      · exact h.elim
      rename_i o ho
      have hsz : i < ops.size := (Array.getElem?_eq_some_iff.1 ho).1
      split at h
      case h_2 => exact h.elim
      rename_i hb hnd
      have hbd : ∀ j, has (bits.getD i 0) j = true → has S.done j = true := fun j hj => has_land hb hj
      -- an operation that asks first
      have ask : ∀ c : BE, (Tr.br c (drun P ck nt ops bits base f (i :: rest) S (pcAdd pc c true) k) (drun P ck nt ops bits base f (i :: rest) S (pcAdd pc c false) k)).holds ρ Ψ →
          ∀ (listed : Array Bool) (δ : Dl) (a : Act) (w : World), Inv ρ P ops bits nt base tm0 δ0 hs0 w0 S pc listed δ a w → wpAny P .any ops Q (cnt listed) listed a w := by
        intro c hc listed δ a w hinv
        cases hcd : c.den ρ with
        | true => exact ih (i :: rest) S _ (hc.1 hcd) listed δ a w { hinv with pcs := hinv.pcs.cons hcd }
        | false => exact ih (i :: rest) S _ (hc.2 hcd) listed δ a w { hinv with pcs := hinv.pcs.cons hcd }
      split at h
      · exact h.elim
      · exact ask _ h
      · -- skipped
        rename_i hwant
        split at h
        case h_2 => exact h.elim
        rename_i tm' hput
        intro listed δ a w hinv
        split at h
        · exact h.elim
        · rename_i hne
          refine ih rest _ pc h listed δ a w (hinv.quiet hf (S' := { S with done := Nat.lor S.done (Nat.pow 2 i), tm := tm' }) ho hbd hnd (fun e => hne e) hput rfl rfl rfl (fun x hx => hx) (.inl rfl) (.inl ⟨hwant, rfl⟩))
      · rename_i hwant
        split at h
        · -- pure
          rename_i hkd
          split at h
          · rename_i v hv
            split at h
            case h_2 => exact h.elim
            rename_i tm' hput
            intro listed δ a w hinv
            exact ih rest _ pc h listed δ a w (hinv.quiet hf (S' := { S with done := Nat.lor S.done (Nat.pow 2 i), tm := tm' }) ho hbd hnd (by rw [hkd]; exact fun e => by cases e) hput rfl rfl rfl (fun x hx => hx) (.inl rfl) (.inr ⟨hwant, .inl ⟨hkd, hv⟩⟩))
          · exact ask _ h
          · exact h.elim
        · -- load
          rename_i hkd
          split at h
          case h_2 => exact h.elim
          rename_i t x hop
          split at h
          case h_2 => exact h.elim
          rename_i av hav
          split at h
          case h_2 => exact h.elim
          rename_i v hv
          split at h
          case h_2 => exact h.elim
          rename_i tm' hput
          intro listed δ a w hinv
          exact ih rest _ pc h listed δ a w (hinv.quiet hf (S' := { S with done := Nat.lor S.done (Nat.pow 2 i), tm := tm', held := (i, t, av, v) :: S.held }) ho hbd hnd (by rw [hkd]; exact fun e => by cases e) hput rfl rfl rfl
            (fun x hx => List.mem_cons_of_mem _ hx) (.inl rfl) (.inr ⟨hwant, .inr (.inl ⟨t, x, av, hop, hav, hv, List.mem_cons_self⟩)⟩))
        · -- alloc
          rename_i hkd
          split at h
          case h_2 => exact h.elim
          rename_i blk mk hal
          split at h
          case h_2 => exact h.elim
          rename_i tm' hput
          intro listed δ a w hinv
          have hrw : blk.solid = true := by
            unfold allocOf at hal
            repeat' (first | cases hal | split at hal)
            all_goals rfl
          exact ih rest _ pc h listed δ a w (hinv.quiet hf (S' := { S with done := Nat.lor S.done (Nat.pow 2 i), tm := tm', pend := (i, base + i, blk) :: S.pend }) ho hbd hnd (by rw [hkd]; exact fun e => by cases e) hput rfl rfl rfl
            (fun x hx => hx) (.inr ⟨⟨hkd, hwant⟩, blk, hrw, rfl⟩) (.inr ⟨hwant, .inr (.inr ⟨blk, mk, hkd, hal, rfl, List.mem_cons_self⟩)⟩))
        · -- effects
          rename_i hkd
          split at h
          · exact h.elim
          rename_i hbeh
          have hbeh := allBehind_spec bits 0 hbeh
          by_cases hask : ∃ c, eop P pc S.tm { S.hs with heap := mergeB (bits.getD i 0) S.hs.heap S.pend } o.op = .ask c
          · obtain ⟨c, hc⟩ := hask
            rw [hc] at h
            exact ask c h
          -- behind it
          have after : ∀ v hs1 pc' tm' held', put nt S.tm o.dst v = some tm' → heldAt P (bits.getD i 0) hs1.heap S.held = some held' → PCh ρ pc' →
              (drun P ck nt ops bits base f rest { done := Nat.lor S.done (Nat.pow 2 i), tm := tm', hs := hs1, pend := leftB (bits.getD i 0) S.pend, held := held' } pc' k).holds ρ Ψ →
              ∀ (listed : Array Bool) (δ δ' : Dl) (a : Act) (w w' : World) (u : Value), Inv ρ P ops bits nt base tm0 δ0 hs0 w0 S pc listed δ a w → (∀ e ∈ o.after, Region.binds .any e = true → listed.getD e.on false = true) →
              HRep ρ δ' hs1 w' → Evo δ { S.hs with heap := mergeB (bits.getD i 0) S.hs.heap S.pend } w δ' hs1 w' → VRel ρ δ' v u →
              wpAny P .any ops Q (cnt (listed.setIfInBounds i true)) (listed.setIfInBounds i true) (a.put o.dst u) w' := by
            intro v hs1 pc' tm' held' hput hheld hpc' hh listed δ δ' a w w' u hinv hr hr1 he1 hu
            exact ih rest _ pc' hh _ δ' _ w' (hinv.effect hf ho hr hnd hbd hput hheld hpc' hr1 he1 hu)
          -- whichever comes up
          have main : ∀ (n : Nat) (listed : Array Bool) (δ : Dl) (a : Act) (w : World), Inv ρ P ops bits nt base tm0 δ0 hs0 w0 S pc listed δ a w → cnt listed = n → wpAny P .any ops Q n listed a w := by
            intro n
            induction n with
            | zero =>
              intro listed δ a w hinv hc
              have := hinv.sub i (cnt_zero hc (by rw [hinv.lsz]; exact hsz))
              rw [hnd] at this; cases this
            | succ n ihn =>
              intro listed δ a w hinv hc
              have hil : listed.getD i false = false := by
                cases hl : listed.getD i false with
                | false => rfl
                | true => have := hinv.sub i hl; rw [hnd] at this; cases this
              refine ⟨fun hr => absurd hr (ready_exists hf hinv.lsz i hsz hil), fun j hj => ?_⟩
              obtain ⟨h1, p, hp, h2⟩ := ready_false hj hinv.lsz
              have hjs : j < ops.size := (Array.getElem?_eq_some_iff.1 hp).1
              have hcs := cnt_set (listed := listed) (i := j) (by rw [hinv.lsz]; exact hjs) h1
              cases hdj : has S.done j with
              | true => exact hinv.exec hf hp h2 hdj h1 fun δ' a' w' h' => ihn _ δ' a' w' h' (by omega)
              | false =>
                have hji : j = i := by
                  have hjl : j < bits.length := by rw [hf.len]; exact hjs
                  have hjb : bits[j]? = some bits[j] := List.getElem?_eq_getElem hjl
                  rcases hbeh j _ hjb with h3 | h3 | h3
                  · rw [Nat.zero_add, hdj] at h3; cases h3
                  · omega
                  · have hgd : bits.getD j 0 = bits[j] := by rw [List.getD_eq_getElem?_getD, hjb]; rfl
                    have := hf.before hinv.clo j p hp h2 i (by rw [hgd]; exact h3)
                    rw [hil] at this; cases this
                subst hji
                rw [ho] at hp
                injection hp with hp
                subst hp
                have hlook := hinv.look hf ho h2 hnd
                have hev := hlook.ev hinv.heap.glob
                have hbl : ∀ x, has (bits.getD j 0) x = true → listed.getD x false = true := hf.before hinv.clo j o ho h2
                obtain ⟨_, hgr⟩ := hinv.given hbl
                have hn : n = cnt (listed.setIfInBounds j true) := by omega
                unfold wpOp
                simp only [ho]
                rw [(want_sound (a := a) hinv.pcs hlook).1 hwant]
                simp only [if_true]
                left
                split at h
                · rename_i v hs1 hv
                  obtain ⟨δ', w', u, g1, g2, g3, g4⟩ := eop_val (P := P) hinv.pcs hgr hev hv
                  split at h
                  case h_2 => exact h.elim
                  rename_i tm' hput
                  split at h
                  case h_2 => exact h.elim
                  rename_i held' hheld
                  have hfin := after v hs1 pc tm' held' hput hheld hinv.pcs h listed δ δ' a w w' u hinv h2 g2 g3 g4
                  rw [← hn] at hfin
                  unfold Oper.wp
                  rcases g1 with g1 | ⟨g1, rfl⟩
                  · rw [g1]; exact hfin
                  · rw [g1]; exact hfin
                · rename_i g args hv
                  obtain ⟨us, hus, he⟩ := eop_call (P := P) hev hv
                  refine (hck g args _ pc _ δ w us (fun u w' => wpAny P .any ops Q n (listed.setIfInBounds j true) (a.put o.dst u) w') hinv.pcs hgr hus h ?_).upon (he w) fun u w' h => h
                  intro v hs1 pc' δ' w' u hp' hr' hevo hvu hkh
                  split at hkh
                  case h_2 => exact hkh.elim
                  rename_i tm' hput
                  split at hkh
                  case h_2 => exact hkh.elim
                  rename_i held' hheld
                  have hfin := after v hs1 pc' tm' held' hput hheld hp' hkh listed δ δ' a w w' u hinv h2 hr' hevo hvu
                  rw [← hn] at hfin
                  exact hfin
                · rename_i c hc
                  exact absurd ⟨c, hc⟩ hask
                · exact h.elim
          intro listed δ a w hinv
          exact main (cnt listed) listed δ a w hinv rfl
end
end Go.Sx
