/- An executor for the model's Go code over an abstract state: code and calls; the theorem. -/
import Derived.Test.YtkgmobbbcigcjaaGreatDoorSx17
namespace Go.Sx
set_option linter.unusedVariables false
section
variable {ρ : Rho} {P : Program} {nt : Nat} {α : Type} {Ψ : α → Prop} {ck : CallK α}

theorem cnt_replicate (n : Nat) : cnt (Array.replicate n false) = n := by
  unfold cnt; simp

theorem drawn_sound (hm : P.follows .mixedOrders = true) (hck : CallSound ρ P Ψ ck) {id : Nat} {ops : Array Oper} {tm : TM} {hs : HS} {pc : PC} {k : TM → HS → PC → Tr α} {δ : Dl} {a : Act} {w : World} {Q : Exit → Act → World → Prop}
    (hp : PCh ρ pc) (hr : HRep ρ δ hs w) (ht : TRep ρ δ nt tm a) (h : (drawn P ck nt ops tm hs pc k).holds ρ Ψ)
    (hk : ∀ tm' hs' pc' δ' a' w', PCh ρ pc' → HRep ρ δ' hs' w' → TRep ρ δ' nt tm' a' → Evo δ hs w δ' hs' w' → (k tm' hs' pc').holds ρ Ψ → Q .normal a' w') :
    (Code.region id ops true).wp P Q a w := by
  unfold drawn at h
  split at h
  · exact h.elim
  rename_i hok
  have hf := fixed_of hok
  refine wp_region_any hm ?_
  have hgz : ∀ i, (Array.replicate ops.size false).getD i false = false := by
    intro i
    by_cases hi : i < ops.size <;> simp [hi]
  have hinv : Inv ρ P ops (bitsOf ops) nt hs.nx tm δ hs w { done := 0, tm := tm, hs := { hs with nx := hs.nx + ops.size }, pend := [], held := [] } pc (Array.replicate ops.size false) δ a { w with drawn := w.drawn + 1 } := by
    have hz : ∀ i, has 0 i = true → False := fun i hi => by rw [has_zero] at hi; cases hi
    have hz' : ∀ i, (Array.replicate ops.size false).getD i false = true → False := fun i hi => by rw [hgz] at hi; cases hi
    refine { pcs := hp, lsz := by simp, clo := fun i o _ hl => (hz' i hl).elim, dn := fun i hi => (hz i hi).elim, dclo := fun i hi => (hz i hi).elim, sub := fun i hi => (hz' i hi).elim
             effD := fun i o _ hi => (hz i hi).elim, dfr := ht.dfr, size := ht.size, t1 := fun i o t v _ hi => (hz' i hi).elim, t2 := fun t v hv _ => ht.val t v hv, tc := fun t _ => rfl
             heap := ?_, evo := ?_, resv := fun i _ _ => hr.freshN _ (Nat.le_add_right _ _), ents := fun i o _ hi => (hz i hi).elim, pendN := fun x hx => (by cases hx)
             pendW := fun x hx => (by cases hx), pendD := List.Pairwise.nil, nxb := Nat.le_refl _, hsF := ?_, base0 := rfl }
    · exact { blk := fun n b hn => (hr.blk n b hn).keep fun _ _ _ _ => rfl, sep := hr.sep, freshN := fun n hn => hr.freshN n (by simp only at hn; omega), freshC := hr.freshC, glob := hr.glob, nx := Nat.le_trans hr.nx (Nat.le_add_right _ _), pos := hr.pos }
    · exact { le := δ.le_refl, size := Nat.le_refl _, unch := fun _ _ _ => rfl, live := fun n blk _ o h1 h2 h3 _ => .inr ⟨n, blk, o, h1, h2, fun h => h, h3⟩
              nx := Nat.le_add_right _ _, nc := Nat.le_refl _, new := fun _ _ h => .inl h, os := rfl, tape := rfl, output := rfl }
    · intro j _ _ blk hb
      cases hlv : blk.live with
      | false => rfl
      | true =>
        obtain ⟨x, o, hat⟩ := (hr.blk _ _ hb).bound hlv
        rw [hr.freshN _ (Nat.le_add_right _ _)] at hat; cases hat
  have hfin := drun_sound (Q := Q) hck hf hk _ _ _ _ h _ _ _ _ hinv
  rw [cnt_replicate] at hfin
  exact hfin

def exitOf : Out → Exit
  | .normal => .normal
  | .exit id => .exit id
  | .ret => .ret

/-- A loop's summary is right. -/
def LoopSound (ρ : Rho) (P : Program) (nt : Nat) (Ψ : α → Prop) (b : Code) (F : LoopFn α) : Prop :=
  ∀ (tm : TM) (hs : HS) (pc : PC) (k : Out → TM → HS → PC → Tr α) (δ : Dl) (a : Act) (w : World) (Q : Exit → Act → World → Prop),
    PCh ρ pc → HRep ρ δ hs w → TRep ρ δ nt tm a → (F tm hs pc k).holds ρ Ψ →
    (∀ out tm' hs' pc' δ' a' w', PCh ρ pc' → HRep ρ δ' hs' w' → TRep ρ δ' nt tm' a' → Evo δ hs w δ' hs' w' → (k out tm' hs' pc').holds ρ Ψ → Q (exitOf out) a' w') → (Code.loop b).wp P Q a w

theorem exec_sound {lt : Nat → TM → Option (LoopFn α)} (hm : P.follows .mixedOrders = true) (hck : CallSound ρ P Ψ ck) : ∀ (f : Nat) (c : Code) (tm : TM) (hs : HS) (pc : PC) (k : Out → TM → HS → PC → Tr α) (δ : Dl) (a : Act) (w : World) (Q : Exit → Act → World → Prop),
    (∀ b ∈ loopsOf c, ∀ tm0 F, lt (loopKey b) tm0 = some F → LoopSound ρ P nt Ψ b F) →
    PCh ρ pc → HRep ρ δ hs w → TRep ρ δ nt tm a → (exec P ck lt nt f c tm hs pc k).holds ρ Ψ →
    (∀ out tm' hs' pc' δ' a' w', PCh ρ pc' → HRep ρ δ' hs' w' → TRep ρ δ' nt tm' a' → Evo δ hs w δ' hs' w' → (k out tm' hs' pc').holds ρ Ψ → Q (exitOf out) a' w') → c.wp P Q a w := by
  intro f
  induction f with
  | zero => intro c tm hs pc k δ a w Q _ _ _ _ h; exact h.elim
  | succ f ih =>
    intro c tm hs pc k δ a w Q hl hp hr ht h hk
    cases c with
    | skip => simp only [exec] at h; exact wp_skip (hk .normal tm hs pc δ a w hp hr ht Evo.refl h)
    | label l => simp only [exec] at h; exact wp_label (hk .normal tm hs pc δ a w hp hr ht Evo.refl h)
    | ret => simp only [exec] at h; exact wp_ret (hk .ret tm hs pc δ a w hp hr ht Evo.refl h)
    | exit id => simp only [exec] at h; exact wp_exit (hk (.exit id) tm hs pc δ a w hp hr ht Evo.refl h)
    | seq x y =>
      simp only [exec] at h
      refine wp_seq (ih x tm hs pc _ δ a w _ (fun b hb => hl b (List.mem_append_left _ hb)) hp hr ht h ?_)
      intro out tm' hs' pc' δ' a' w' hp' hr' ht' he' h'
      cases out with
      | normal => exact ih y tm' hs' pc' k δ' a' w' Q (fun b hb => hl b (List.mem_append_right _ hb)) hp' hr' ht' h' fun out2 tm2 hs2 pc2 δ2 a2 w2 p2 r2 t2 e2 h2 => hk out2 tm2 hs2 pc2 δ2 a2 w2 p2 r2 t2 (he'.trans e2) h2
      | exit id => exact hk (.exit id) tm' hs' pc' δ' a' w' hp' hr' ht' he' h'
      | ret => exact hk .ret tm' hs' pc' δ' a' w' hp' hr' ht' he' h'
    | cond x y z =>
      simp only [exec] at h
      split at h
      case h_2 => exact h.elim
      rename_i e hx
      have hxe := ht.evOK hr.glob [x] x (by simp) _ hx
      simp only [VRel] at hxe
      split at h
      · rename_i hd
        rw [dec_sound hp hd] at hxe
        exact wp_cond_true hxe (ih y tm hs pc k δ a w Q (fun b hb => hl b (List.mem_append_left _ hb)) hp hr ht h hk)
      · rename_i hd
        rw [dec_sound hp hd] at hxe
        exact wp_cond_false hxe (ih z tm hs pc k δ a w Q (fun b hb => hl b (List.mem_append_right _ hb)) hp hr ht h hk)
      · cases hd : e.den ρ with
        | true => rw [hd] at hxe; exact wp_cond_true hxe (ih y tm hs _ k δ a w Q (fun b hb => hl b (List.mem_append_left _ hb)) (hp.cons hd) hr ht (h.1 hd) hk)
        | false => rw [hd] at hxe; exact wp_cond_false hxe (ih z tm hs _ k δ a w Q (fun b hb => hl b (List.mem_append_right _ hb)) (hp.cons hd) hr ht (h.2 hd) hk)
    | block id x =>
      simp only [exec] at h
      refine wp_block (ih x tm hs pc _ δ a w _ hl hp hr ht h ?_)
      intro out tm' hs' pc' δ' a' w' hp' hr' ht' he' h'
      cases out with
      | normal => exact hk .normal tm' hs' pc' δ' a' w' hp' hr' ht' he' h'
      | ret => exact hk .ret tm' hs' pc' δ' a' w' hp' hr' ht' he' h'
      | exit id' =>
        simp only [exitOf, Exit.inBlock]
        simp only at h'
        split at h'
        · rename_i hid
          rw [if_pos (beq_eq hid)]
          exact hk .normal tm' hs' pc' δ' a' w' hp' hr' ht' he' h'
        · rename_i hid
          rw [if_neg (beq_ne hid)]
          exact hk (.exit id') tm' hs' pc' δ' a' w' hp' hr' ht' he' h'
    | scope x =>
      simp only [exec] at h
      refine wp_scope_straight (ih x tm hs pc _ δ a w _ hl hp hr ht h ?_)
      intro out tm' hs' pc' δ' a' w' hp' hr' ht' he' h'
      cases out with
      | normal => exact hk .normal tm' hs' pc' δ' a' w' hp' hr' ht' he' h'
      | ret => exact hk .ret tm' hs' pc' δ' a' w' hp' hr' ht' he' h'
      | exit id => exact hk (.exit id) tm' hs' pc' δ' a' w' hp' hr' ht' he' h'
    | loop x =>
      simp only [exec] at h
      split at h
      · rename_i F hF
        exact hl x List.mem_cons_self tm F hF tm hs pc k δ a w Q hp hr ht h hk
      refine wp_loop_rounds f ?_
      have key : ∀ (j : Nat) (tm1 : TM) (hs1 : HS) (pc1 : PC) (δ1 : Dl) (a1 : Act) (w1 : World), PCh ρ pc1 → HRep ρ δ1 hs1 w1 → TRep ρ δ1 nt tm1 a1 → Evo δ hs w δ1 hs1 w1 →
          (Nat.rec (motive := fun _ => TM → HS → PC → Tr α) (fun _ _ _ => .bad 12) (fun _ again tm hs pc => exec P ck lt nt f x tm hs pc fun o tm hs pc => match o with
            | .normal => again tm hs pc
            | o => k o tm hs pc) j tm1 hs1 pc1).holds ρ Ψ → Code.rounds P x Q j a1 w1 := by
        intro j
        induction j with
        | zero => intro tm1 hs1 pc1 δ1 a1 w1 _ _ _ _ h1; exact h1.elim
        | succ j ihj =>
          intro tm1 hs1 pc1 δ1 a1 w1 hp1 hr1 ht1 he1 h1
          rw [rounds_succ]
          refine ih x tm1 hs1 pc1 _ δ1 a1 w1 _ (fun b hb => hl b (List.mem_cons_of_mem _ hb)) hp1 hr1 ht1 h1 ?_
          intro out tm' hs' pc' δ' a' w' hp' hr' ht' he' h'
          cases out with
          | normal => exact ihj tm' hs' pc' δ' a' w' hp' hr' ht' (he1.trans he') h'
          | exit id => exact hk (.exit id) tm' hs' pc' δ' a' w' hp' hr' ht' (he1.trans he') h'
          | ret => exact hk .ret tm' hs' pc' δ' a' w' hp' hr' ht' (he1.trans he') h'
      exact key f tm hs pc δ a w hp hr ht Evo.refl h
    | region id ops draw =>
      cases draw with
      | false =>
        simp only [exec] at h
        exact wp_region_list (runList_sound hck _ _ tm hs pc _ δ a w hp hr ht h fun tm' hs' pc' δ' a' w' hp' hr' ht' he' h' => hk .normal tm' hs' pc' δ' a' w' hp' hr' ht' he' h')
      | true =>
        simp only [exec] at h
        exact drawn_sound hm hck hp hr ht h fun tm' hs' pc' δ' a' w' hp' hr' ht' he' h' => hk .normal tm' hs' pc' δ' a' w' hp' hr' ht' he' h'
    | rangeFunc f' ps x y => simp only [exec] at h; exact h.elim
    | goto l => simp only [exec] at h; exact h.elim
    | refuse s => simp only [exec] at h; exact h.elim

theorem undefs_get : ∀ (n : Nat) (tm : TM) (k j : Nat), (undefs tm k n).get j = if k ≤ j ∧ j < k + n then some (.tup []) else tm.get j
  | 0, tm, k, j => by simp [undefs]; intro h1 h2; omega
  | n + 1, tm, k, j => by
    rw [undefs, undefs_get n, T.get_set]
    by_cases h : k + 1 ≤ j ∧ j < k + 1 + n
    · rw [if_pos h, if_pos (by omega)]
    · rw [if_neg h]
      by_cases e : j = k
      · subst e; simp
      · rw [if_neg e, if_neg (by omega)]

theorem enter_rep {δ : Dl} {args : List AV} {us : Array Value} (n : Nat) (h : VRels ρ δ args us.toList) :
    TRep ρ δ (args.length + (n - args.length)) (undefs (T.ofList args) args.length (n - args.length)) { tmps := us ++ Array.replicate (n - us.size) undef, defers := [] } := by
  have hl : args.length = us.size := by rw [h.length]; simp
  refine ⟨rfl, by simp [hl], fun t v hv => ?_⟩
  rw [undefs_get] at hv
  split at hv
  · rename_i hc
    injection hv with hv
    subst hv
    refine ⟨undef, ?_, by simp [VRel, VRels, undef]⟩
    rw [Array.getElem?_append_right (by omega)]
    rw [Array.getElem?_eq_getElem (by simp; omega)]
    simp
  · rw [T.get_ofList] at hv
    obtain ⟨u, h1, h2⟩ := h.get hv
    have hlt := (List.getElem?_eq_some_iff.1 h1).1
    refine ⟨u, ?_, h2⟩
    rw [Array.getElem?_append_left (by simpa using hlt)]
    simpa using h1

theorem results_sound {δ : Dl} {tm : TM} {hs : HS} {a : Act} {w : World} (hr : HRep ρ δ hs w) (ht : TRep ρ δ nt tm a) : ∀ (rs : List ResultVar) (vs : List AV), resultsOf P tm hs rs = some vs →
    ∃ us : List Value, VRels ρ δ vs us ∧ (rs.mapM fun (r : ResultVar) => match r with
      | .tmp t => (pure (a.tmps.getD t undef) : Sem Value)
      | .cell x t => do loadVar t (← asAddr (a.tmps.getD x undef))).run P w = .ok us w
  | [], vs, h => by simp [resultsOf] at h; subst h; exact ⟨[], by simp [VRels], by simp⟩
  | r :: rs, vs, h => by
    simp only [resultsOf] at h
    split at h
    case h_2 => cases h
    rename_i v hv
    split at h
    case h_2 => cases h
    rename_i vs' hvs'
    simp only [Option.some.injEq] at h; subst h
    obtain ⟨us, h1, h2⟩ := results_sound hr ht rs vs' hvs'
    have one : ∃ u, VRel ρ δ v u ∧ (match r with
        | .tmp t => (pure (a.tmps.getD t undef) : Sem Value)
        | .cell x t => do loadVar t (← asAddr (a.tmps.getD x undef))).run P w = .ok u w := by
      cases r with
      | tmp t =>
        simp only [resultOf] at hv
        obtain ⟨u, h3, h4⟩ := ht.val t v hv
        exact ⟨u, h4, by simp [h3]⟩
      | cell x t =>
        simp only [resultOf] at hv
        split at hv
        case h_2 => cases hv
        rename_i av hav
        obtain ⟨u, h3, h4⟩ := ht.val x av hav
        obtain ⟨y, h5, h6⟩ := load_sound (P := P) hr.blk h4 hv
        refine ⟨y, h5, ?_⟩
        have hx : a.tmps.getD x undef = u := by simp [h3]
        simp only [hx]
        unfold loadAt at hv
        split at hv
        · simp only [VRel] at h4
          obtain ⟨b, o, _, rfl⟩ := h4
          simpa [Instr.loadAt, Instr.sureAddr, asAddr] using h6
        · simp only [VRel] at h4
          obtain ⟨b, o, _, _, _, _, rfl⟩ := h4
          simpa [Instr.loadAt, Instr.sureAddr, asAddr] using h6
        · cases hv
    obtain ⟨u, h3, h4⟩ := one
    refine ⟨u :: us, by simp only [VRels]; exact ⟨u, us, rfl, h3, h1⟩, ?_⟩
    rw [List.mapM_cons]
    simp only [Sem.run_bind, h4, Result.andThen_ok, h2, Sem.run_pure]

theorem tupled_rel {δ : Dl} {vs : List AV} {us : List Value} (h : VRels ρ δ vs us) : VRel ρ δ (tupled vs) (if h : us.toArray.size = 1 then us.toArray[0] else .tuple us.toArray) := by
  have hl := h.length
  cases vs with
  | nil =>
    simp only [VRels] at h; subst h
    simp [tupled, VRel, VRels]
  | cons v vs =>
    simp only [VRels] at h
    obtain ⟨u, us', rfl, h1, h2⟩ := h
    cases vs with
    | nil => simp only [VRels] at h2; subst h2; simpa [tupled] using h1
    | cons v' vs' =>
      simp only [VRels] at h2
      obtain ⟨u', us'', rfl, h3, h4⟩ := h2
      have hne : ¬ ((u :: u' :: us'').toArray.size = 1) := by simp
      rw [dif_neg hne]
      simp only [tupled, VRel, VRels]
      exact ⟨_, rfl, u, _, rfl, h1, u', us'', rfl, h3, h4⟩

theorem call_sound (hm : P.follows .mixedOrders = true) (hn : ∀ f fn, P.funcs[f]? = some fn → fn.body.isSome = true → ∀ args w, (callFunc f args).run P w = .ok (.enter f args) w)
    {base : CallK α} (hb : CallSound ρ P Ψ base) {ltab : FuncId → Nat → TM → Option (LoopFn α)} {wrap : CallK α → CallK α} (hw : ∀ ck, CallSound ρ P Ψ ck → CallSound ρ P Ψ (wrap ck))
    (hl : ∀ f fn c, P.funcs[f]? = some fn → fn.body = some c → ∀ b ∈ loopsOf c, ∀ tm0 F, ltab f (loopKey b) tm0 = some F → LoopSound ρ P fn.ntmps Ψ b F) : ∀ n, CallSound ρ P Ψ (call P base ltab wrap n) := by
  intro n
  induction n with
  | zero => exact hb
  | succ n ih =>
    refine hw _ ?_
    intro f args hs pc k δ w us R hp hr hv h hk
    dsimp only at h
    split at h
    · exact h.elim
    rename_i fn hfn
    split at h
    · exact hb f args hs pc k δ w us R hp hr hv h hk
    · rename_i c hc
      split at h
      · exact h.elim
      rename_i hle
      have hle : args.length + (fn.ntmps - args.length) = fn.ntmps := by have := ble_le hle; omega
      have hent := enter_rep fn.ntmps hv
      rw [hle] at hent
      right
      refine ⟨hn f fn hfn (by rw [hc]; rfl) us w, calls_of_wp hfn hc ?_⟩
      refine exec_sound hm ih _ c _ hs pc _ δ _ w _ (fun b hb tm0 F hF => hl f fn c hfn hc b hb tm0 F hF) hp hr hent h ?_
      intro out tm' hs' pc' δ' a' w' hp' hr' ht' he' h'
      have fin : (match resultsOf P tm' hs' fn.results.toList with
          | some vs => k (tupled vs) hs' pc'
          | none => Tr.bad 22).holds ρ Ψ → a'.defers = [] ∧ ∃ v, (results fn a'.tmps).run P w' = .ok v w' ∧ ∃ u, Ending.returned v = .returned u ∧ R u w' := by
        intro h''
        split at h''
        case h_2 => exact h''.elim
        rename_i vs hvs
        obtain ⟨us', h1, h2⟩ := results_sound hr' ht' _ vs hvs
        refine ⟨ht'.dfr, _, ?_, _, rfl, hk _ hs' pc' δ' w' _ hp' hr' he' (tupled_rel h1) h''⟩
        unfold results
        rw [Array.mapM_eq_mapM_toList]
        simp only [Sem.run_bind, Sem.run_map]
        exact congrArg (fun r : Result (List Value) => (r.andThen fun a w' => Result.ok a.toArray w').andThen fun a w' => Sem.run P (pure (if h : a.size = 1 then a[0] else Value.tuple a)) w') h2
      cases out with
      | normal => exact fin h'
      | ret => exact fin h'
      | exit id => exact h'.elim
end
end Go.Sx
