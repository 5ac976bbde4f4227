/- An executor for the model's Go code over an abstract state: regions in the text's order. -/
import Derived.Test.YtkgmobbbcigcjaaGreatDoorSx11d
namespace Go.Sx
set_option linter.unusedVariables false
section
variable {ρ : Rho} {P : Program}

/-- What a call of a function comes to. -/
def FnWp (P : Program) (f : FuncId) (us : Array Value) (w : World) (R : Value → World → Prop) : Prop :=
  (∃ u w', (callFunc f us).run P w = .ok (.value u) w' ∧ R u w') ∨
  ((callFunc f us).run P w = .ok (.enter f us) w ∧ Calls P f us w fun e w' => ∃ u, e = .returned u ∧ R u w')

def CallSound {α : Type} (ρ : Rho) (P : Program) (Ψ : α → Prop) (ck : CallK α) : Prop :=
  ∀ f args hs pc k δ w (us : Array Value) (R : Value → World → Prop), PCh ρ pc → HRep ρ δ hs w → VRels ρ δ args us.toList → (ck f args hs pc k).holds ρ Ψ →
    (∀ v hs' pc' δ' w' u, PCh ρ pc' → HRep ρ δ' hs' w' → Evo δ hs w δ' hs' w' → VRel ρ δ' v u → (k v hs' pc').holds ρ Ψ → R u w') →
    FnWp P f us w R

theorem FnWp.upon {f : FuncId} {us : Array Value} {w : World} {R : Value → World → Prop} (h : FnWp P f us w R) {o : Oper} {a : Act} {K : Act → World → Prop} {Q : Exit → Act → World → Prop}
    (he : (execOp a.eval o).run P w = (callFunc f us).run P w) (hR : ∀ u w', R u w' → K (a.put o.dst u) w') : o.wp P a w K Q := by
  unfold Oper.wp
  rw [he]
  rcases h with ⟨u, w', h1, h2⟩ | ⟨h1, h2⟩
  · rw [h1]; exact hR u w' h2
  · rw [h1, Oper.upon_enter]
    refine Calls.mono h2 fun e w' he => ?_
    obtain ⟨u, rfl, hu⟩ := he
    exact hR u w' hu

def LookOK (ρ : Rho) (δ : Dl) (ops : Array Oper) (tm : TM) (a : Act) (o : Oper) : Prop := ∀ t ∈ o.looksAt ops, ∀ v, tm.get t = some v → ∃ u, a.tmps[t]? = some u ∧ VRel ρ δ v u

theorem TRep.look {δ : Dl} {nt : Nat} {tm : TM} {a : Act} (h : TRep ρ δ nt tm a) (ops : Array Oper) (o : Oper) : LookOK ρ δ ops tm a o := fun t _ v hv => h.val t v hv

theorem LookOK.ev {δ : Dl} {ops : Array Oper} {tm : TM} {a : Act} {o : Oper} (h : LookOK ρ δ ops tm a o) (hg : ∀ g, g < gbound → δ.at_ g = some (g, 0)) : EvOK ρ δ tm a o.op.operands.toList := by
  intro x hx v hv
  cases x with
  | tmp t =>
    simp only [Sx.ev] at hv
    obtain ⟨u, h1, h2⟩ := h t (List.mem_append_left _ (List.mem_filterMap.2 ⟨.tmp t, hx, rfl⟩)) v hv
    simp only [Act.eval, Array.getD_eq_getD_getElem?, h1, Option.getD_some]
    exact h2
  | const c => simp only [Sx.ev, Option.some.injEq] at hv; subst hv; exact VRel.ofV c
  | global g =>
    simp only [Sx.ev] at hv
    split at hv
    · rename_i hb
      simp only [Option.some.injEq] at hv; subst hv
      simp only [VRel, Act.eval]
      exact ⟨g, 0, hg g (blt_lt hb), by simp⟩
    · cases hv
  | func f => simp only [Sx.ev, Option.some.injEq] at hv; subst hv; simp [VRel, VRels, Act.eval]

theorem want_sound {δ : Dl} {pc : PC} {ops : Array Oper} {tm : TM} {a : Act} {o : Oper} (hp : PCh ρ pc) (hl : LookOK ρ δ ops tm a o) :
    (wantOf pc tm ops o = .yes → Region.wanted o (yielded ops a.tmps) = true) ∧ (wantOf pc tm ops o = .skip → Region.wanted o (yielded ops a.tmps) = false) := by
  unfold wantOf Region.wanted
  cases hg : o.guard with
  | none => simp
  | some jw =>
    obtain ⟨j, want⟩ := jw
    simp only
    cases hj : ops[j]? with
    | none => simp
    | some oj =>
      simp only
      cases hd : oj.dst with
      | none => simp
      | some d =>
        simp only
        have hmem : d ∈ o.looksAt ops := by
          unfold Oper.looksAt
          refine List.mem_append_right _ ?_
          simp [hg, hj, hd]
        have hy : yielded ops a.tmps j = match a.tmps[d]? with | some (.bool b) => some b | _ => none := by
          have hb : ((ops[j]?).bind (·.dst)).bind (a.tmps[·]?) = a.tmps[d]? := by rw [hj]; simp [hd]
          unfold yielded
          rw [hb]
          cases a.tmps[d]? with
          | none => rfl
          | some u => cases u <;> rfl
        cases hv : tm.get d with
        | none => simp
        | some v =>
          obtain ⟨u, h1, h2⟩ := hl d hmem v hv
          rw [hy, h1]
          cases v
          case bool e =>
            simp only [VRel] at h2
            subst h2
            simp only
            cases hdc : dec pc e with
            | none => simp
            | some b =>
              have := dec_sound hp hdc
              simp only [this]
              cases hbw : (b == want) with
              | true => simp; simpa using hbw
              | false => simp; simpa using hbw
          case tup cs =>
            cases cs with
            | nil =>
              simp only [VRel, VRels] at h2
              obtain ⟨us, rfl, _⟩ := h2
              simp
            | cons => simp
          all_goals simp

variable {α : Type} {Ψ : α → Prop} {ck : CallK α}

theorem step1_sound (hck : CallSound ρ P Ψ ck) {nt : Nat} {o : Oper} {tm : TM} {hs : HS} {pc : PC} {retry : PC → Tr α} {k : TM → HS → PC → Tr α} {δ : Dl} {a : Act} {w : World}
    {K : Act → World → Prop} {Q : Exit → Act → World → Prop} (hp : PCh ρ pc) (hr : HRep ρ δ hs w) (ht : TRep ρ δ nt tm a)
    (h : (step1 P ck nt o tm hs pc retry k).holds ρ Ψ) {X : Prop} (hretry : ∀ pc', PCh ρ pc' → (retry pc').holds ρ Ψ → o.wp P a w K Q ∨ X)
    (hk : ∀ tm' hs' pc' δ' a' w', PCh ρ pc' → HRep ρ δ' hs' w' → TRep ρ δ' nt tm' a' → Evo δ hs w δ' hs' w' → (k tm' hs' pc').holds ρ Ψ → K a' w') :
    o.wp P a w K Q ∨ X := by
  have hev := ht.evOK hr.glob o.op.operands.toList
  unfold step1 at h
  split at h
  · -- pure
    split at h
    · rename_i v hv
      split at h
      case h_2 => exact h.elim
      rename_i tm' hput
      obtain ⟨u, hu1, hu2⟩ := pop_sound (P := P) hp hev hv
      left
      unfold Oper.wp
      rw [hu2 w]
      exact hk tm' hs pc δ _ w hp hr (ht.put hput hu1) Evo.refl h
    · rename_i b hb
      cases hbd : b.den ρ with
      | true => exact hretry _ (hp.cons hbd) (h.1 hbd)
      | false => exact hretry _ (hp.cons hbd) (h.2 hbd)
    · split at h
      · rename_i v hv
        split at h
        case h_2 => exact h.elim
        rename_i tm' hput
        obtain ⟨u, hu1, hu2⟩ := readC_sound (P := P) hr hev hv
        left
        unfold Oper.wp
        rw [hu2]
        exact hk tm' hs pc δ _ w hp hr (ht.put hput hu1) Evo.refl h
      split at h
      case h_2 => exact h.elim
      rename_i c is hna
      rcases nilAsk_sound (P := P) (δ := δ) hev hna with ⟨hc, hg⟩ | hg
      · have h := h.1 hc
        split at h
        case h_2 => exact h.elim
        rename_i tm' hput
        left
        unfold Oper.wp
        rw [hg w]
        exact hk tm' hs _ δ _ w (hp.cons hc) hr (ht.put hput VRel.bool) Evo.refl h
      · have h := h.2
        split at h
        case h_2 => exact h.elim
        rename_i tm' hput
        left
        unfold Oper.wp
        rw [hg w]
        exact hk tm' hs pc δ _ w hp hr (ht.put hput VRel.bool) Evo.refl h
  · -- load
    split at h
    case h_2 => exact h.elim
    rename_i t x hop
    split at h
    case h_2 => exact h.elim
    rename_i v hv
    split at h
    case h_2 => exact h.elim
    rename_i tm' hput
    obtain ⟨av, hav, hld⟩ := Option.bind_eq_some_iff.1 hv
    obtain ⟨y, hy1, hy2⟩ := load_sound (P := P) hr.blk (hev x (by rw [hop]; simp [Op.operands]) av hav) hld
    left
    unfold Oper.wp
    have he : (execOp a.eval o).run P w = .ok (.value y) w := by
      obtain ⟨dst, op, type, pos, after, guard⟩ := o
      simp only at hop; subst hop
      simp [execOp, hy2]
    rw [he]
    exact hk tm' hs pc δ _ w hp hr (ht.put hput hy1) Evo.refl h
  · -- alloc
    split at h
    case h_2 => exact h.elim
    rename_i blk mk hal
    split at h
    case h_2 => exact h.elim
    rename_i tm' hput
    obtain ⟨hrw, cur, elem, hA⟩ := alloc_sound (P := P) hev hal w hr.pos
    have hfn := hr.freshN hs.nx (Nat.le_refl _)
    have hle : δ.le (δ.bind hs.nx (w.heap.size, 0)) := Dl.le_bind hfn
    obtain ⟨hb, u, hu1, hu2⟩ := hA (δ.bind hs.nx (w.heap.size, 0)) hs.nx hle Dl.bind_same
    left
    unfold Oper.wp
    rw [hu2]
    exact hk tm' _ pc _ _ _ hp (hr.alloc hfn (Nat.le_succ _) (Nat.lt_succ_self _) hb) ((ht.mono hle).put hput hu1) (Evo.refl.alloc hfn (Nat.le_refl _) (Nat.le_succ _) (Nat.lt_succ_self _)) h
  · -- effects
    split at h
    · rename_i v hs' hv
      split at h
      case h_2 => exact h.elim
      rename_i tm' hput
      obtain ⟨δ', w', u, h1, h2, h3, h4⟩ := eop_val (P := P) hp hr hev hv
      left
      unfold Oper.wp
      rcases h1 with h1 | ⟨h1, rfl⟩
      · rw [h1]; exact hk tm' hs' pc δ' _ w' hp h2 ((ht.mono h3.le).put hput h4) h3 h
      · rw [h1]; exact hk tm' hs' pc δ' _ w' hp h2 ((ht.mono h3.le).put hput h4) h3 h
    · rename_i f args hv
      obtain ⟨us, hus, he⟩ := eop_call (P := P) hev hv
      left
      refine (hck f args hs pc _ δ w us (fun u w' => K (a.put o.dst u) w') hp hr hus h ?_).upon (he w) fun u w' h => h
      intro v hs' pc' δ' w' u hp' hr' hevo hvu hkh
      split at hkh
      case h_2 => exact hkh.elim
      rename_i tm' hput
      exact hk tm' hs' pc' δ' _ w' hp' hr' ((ht.mono hevo.le).put hput hvu) hevo hkh
    · rename_i c hv
      cases hbd : c.den ρ with
      | true => exact hretry _ (hp.cons hbd) (h.1 hbd)
      | false => exact hretry _ (hp.cons hbd) (h.2 hbd)
    · exact h.elim

theorem runList_sound (hck : CallSound ρ P Ψ ck) {nt : Nat} {ops : Array Oper} {Q : Exit → Act → World → Prop} : ∀ (f : Nat) (l : List Oper) (tm : TM) (hs : HS) (pc : PC) (k : TM → HS → PC → Tr α) (δ : Dl) (a : Act) (w : World),
    PCh ρ pc → HRep ρ δ hs w → TRep ρ δ nt tm a → (runList P ck nt ops f l tm hs pc k).holds ρ Ψ →
    (∀ tm' hs' pc' δ' a' w', PCh ρ pc' → HRep ρ δ' hs' w' → TRep ρ δ' nt tm' a' → Evo δ hs w δ' hs' w' → (k tm' hs' pc').holds ρ Ψ → Q .normal a' w') →
    wpList P ops Q l a w := by
  intro f
  induction f with
  | zero => intro l tm hs pc k δ a w _ _ _ h; exact h.elim
  | succ f ih =>
    intro l tm hs pc k δ a w hp hr ht h hk
    cases l with
    | nil => simp only [runList] at h; exact hk tm hs pc δ a w hp hr ht Evo.refl h
    | cons o rest =>
      simp only [runList] at h
      have hw := want_sound (a := a) hp (ht.look ops o)
      have on : ∀ tm' hs' pc' δ' a' w', PCh ρ pc' → HRep ρ δ' hs' w' → TRep ρ δ' nt tm' a' → Evo δ hs w δ' hs' w' → (runList P ck nt ops f rest tm' hs' pc' k).holds ρ Ψ → wpList P ops Q rest a' w' :=
        fun tm' hs' pc' δ' a' w' hp' hr' ht' hevo h' => ih rest tm' hs' pc' k δ' a' w' hp' hr' ht' h' fun tm2 hs2 pc2 δ2 a2 w2 p2 r2 t2 e2 h2 => hk tm2 hs2 pc2 δ2 a2 w2 p2 r2 t2 (hevo.trans e2) h2
      split at h
      · rename_i hwant
        have hwt := hw.1 hwant
        simp only [wpList, hwt, if_true]
        refine step1_sound hck hp hr ht h ?_ on
        intro pc' hp' h'
        have hag := ih (o :: rest) tm hs pc' k δ a w hp' hr ht h' hk
        simp only [wpList, hwt, if_true] at hag
        exact hag
      · rename_i hwant
        have hwt := hw.2 hwant
        simp only [wpList, hwt, Bool.false_eq_true, if_false]
        split at h
        case h_2 => exact h.elim
        rename_i tm' hput
        exact on tm' hs pc δ _ w hp hr (ht.put hput (by simp [VRel, VRels, undef])) Evo.refl h
      · rename_i b hb
        cases hbd : b.den ρ with
        | true => exact ih (o :: rest) tm hs _ k δ a w (hp.cons hbd) hr ht (h.1 hbd) hk
        | false => exact ih (o :: rest) tm hs _ k δ a w (hp.cons hbd) hr ht (h.2 hbd) hk
      · exact h.elim
end
end Go.Sx
