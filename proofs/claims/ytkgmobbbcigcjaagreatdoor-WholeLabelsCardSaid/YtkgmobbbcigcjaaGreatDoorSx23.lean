/- An executor for the model's Go code over an abstract state: what a loop does, used in a caller's state. -/
import Derived.Test.YtkgmobbbcigcjaaGreatDoorSx22
namespace Go.Sx
set_option linter.unusedVariables false
section
variable {δ δ' δ2 : Dl} {ρ ρ' : Rho} {θ : Sub}

theorem putTm_sound {nt : Nat} {tm : TM} {a a' : Act} (ht : TRep ρ δ nt tm a) (hle : δ.le δ2) (hok : SubOK θ ρ' δ' ρ δ2) :
    ∀ (l : List (Nat × AV)) (tm2 : TM), (∀ i, (i, AV.val i) ∈ l → ρ'.val i = a.tmps.getD i undef) → putTm θ tm l = some tm2 → (∀ t v, (T.puts .nil l).get t = some v → ∃ u, a'.tmps[t]? = some u ∧ VRel ρ' δ' v u) →
      ∀ t v, tm2.get t = some v → ∃ u, a'.tmps[t]? = some u ∧ VRel ρ δ2 v u
  | [], tm2, _, h, _, t, v, hv => by simp [putTm] at h; subst h; simp [T.get_nil] at hv
  | (t0, p) :: l, tm2, hval, h, hl, t, v, hv => by
    simp only [putTm] at h
    split at h
    case h_2 => cases h
    rename_i r hr
    -- the rest, where t0 does not hide it
    have rest : ∀ t v, t ≠ t0 → r.get t = some v → ∃ u, a'.tmps[t]? = some u ∧ VRel ρ δ2 v u := by
      intro t v hne hv
      -- values of the rest that t0 hides play no part
      have key : ∀ (l : List (Nat × AV)) (r : TM), putTm θ tm l = some r → ∀ t v, r.get t = some v →
          ∃ p, (T.puts .nil l).get t = some p ∧ ((∃ i, p = .val i ∧ i = t ∧ tm.get t = some v) ∨ p.inst θ = some v) := by
        intro l
        induction l with
        | nil => intro r h t v hv; simp [putTm] at h; subst h; simp [T.get_nil] at hv
        | cons x l ih =>
          intro r h t v hv
          obtain ⟨t1, p1⟩ := x
          simp only [putTm] at h
          split at h
          case h_2 => cases h
          rename_i r1 hr1
          have fin : ∀ av, r1.set t1 av = r → ((∃ i, p1 = .val i ∧ i = t1 ∧ tm.get t1 = some av) ∨ p1.inst θ = some av) → ∃ p, (T.puts .nil ((t1, p1) :: l)).get t = some p ∧ ((∃ i, p = .val i ∧ i = t ∧ tm.get t = some v) ∨ p.inst θ = some v) := by
            intro av e hh
            subst e
            simp only [T.puts]
            rw [T.get_set] at hv ⊢
            by_cases e : t = t1
            · rw [if_pos e] at hv ⊢
              injection hv with hv
              subst hv e
              exact ⟨p1, rfl, hh⟩
            · rw [if_neg e] at hv ⊢
              exact ih r1 hr1 t v hv
          split at h
          · rename_i i
            split at h
            · rename_i av hi hav
              have hi := beq_eq hi
              subst hi
              simp only [Option.some.injEq] at h
              exact fin av h (.inl ⟨_, rfl, rfl, hav⟩)
            · cases h
          · split at h
            · rename_i av hav
              simp only [Option.some.injEq] at h
              exact fin av h (.inr hav)
            · cases h
      obtain ⟨p', h1, h2⟩ := key l r hr t v hv
      have h3 : (T.puts .nil ((t0, p) :: l)).get t = some p' := by
        simp only [T.puts]; rw [T.get_set, if_neg hne]; exact h1
      obtain ⟨u, h4, h5⟩ := hl t p' h3
      refine ⟨u, h4, ?_⟩
      rcases h2 with ⟨i, rfl, rfl, h6⟩ | h6
      · simp only [VRel] at h5
        obtain ⟨u', h7, h8⟩ := ht.val _ _ h6
        rw [h5.1, hval _ (T.puts_mem _ _ _ h3)]
        simp only [Array.getD_eq_getD_getElem?, h7, Option.getD_some]
        exact VRel.mono hle _ _ h8
      · exact (AV.inst_rel hok p' v u h6).1 h5
    have here : ∀ av, r.set t0 av = tm2 → ((∃ i, p = .val i ∧ i = t0 ∧ tm.get t0 = some av) ∨ p.inst θ = some av) → ∃ u, a'.tmps[t]? = some u ∧ VRel ρ δ2 v u := by
      intro av e hh
      subst e
      rw [T.get_set] at hv
      by_cases e : t = t0
      · rw [if_pos e] at hv
        injection hv with hv
        subst hv e
        obtain ⟨u, h4, h5⟩ := hl t p (by simp only [T.puts]; rw [T.get_set, if_pos rfl])
        refine ⟨u, h4, ?_⟩
        rcases hh with ⟨i, rfl, rfl, h6⟩ | h6
        · simp only [VRel] at h5
          obtain ⟨u', h7, h8⟩ := ht.val _ _ h6
          rw [h5.1, hval _ List.mem_cons_self]
          simp only [Array.getD_eq_getD_getElem?, h7, Option.getD_some]
          exact VRel.mono hle _ _ h8
        · exact (AV.inst_rel hok p _ u h6).1 h5
      · rw [if_neg e] at hv
        exact rest t v e hv
    split at h
    · rename_i i
      split at h
      · rename_i av hi hav
        have hi := beq_eq hi
        subst hi
        simp only [Option.some.injEq] at h
        exact here av h (.inl ⟨_, rfl, rfl, hav⟩)
      · cases h
    · split at h
      · rename_i av hav
        simp only [Option.some.injEq] at h
        exact here av h (.inr hav)
      · cases h
end

/-! ### Loops -/
/-- A loop's head and its ends. -/
structure LoopSpec where
  H : Pat
  Xs : List (Out × Pat × Nat)
  stab : List Nat
  stabC : List Nat
  args : List Nat
  inv : Nat
  kind : Nat → Nat
  outs : Nat → Nat → Nat
  free : Bool := false

def LoopSpec.vals (S : LoopSpec) (ρ : Rho) : List SV := S.args.map ρ.sv

/-- What comes behind a head, by W. -/
structure SpecOK (nt nt' : Nat) (S : LoopSpec) (fn : Nat → List SV → SV) (Inv : List SV → Prop) (R : List SV → Nat × (Nat → SV)) (W : (Out → Act → World → Prop) → Act → World → Prop) : Prop where
  run : ∀ (ρ : Rho) (δ : Dl) (a : Act) (w : World), ρ.fn = fn → HRep ρ δ S.H.hs w → TRep ρ δ nt S.H.tmv a → Inv (S.vals ρ) → ∀ (Q : Out → Act → World → Prop),
    (∀ j o X m ρ' δ' a' w', S.Xs[j]? = some (o, X, m) → (R (S.vals ρ)).1 = j → ρ'.fn = fn → (∀ t, (t, AV.val t) ∈ X.tm → ρ'.val t = ρ.val t) → (∀ i, ρ'.sv i = (R (S.vals ρ)).2 i) → HRep ρ' δ' X.hs w' → TRep ρ' δ' nt' X.tmv a' →
      EvoW δ S.H.hs w δ' X.hs w' → (∀ n, n ∈ S.stab → δ'.at_ n = δ.at_ n) → (∀ i, i ∈ S.stabC → δ'.cap i = δ.cap i) → Q o a' w') →
    W Q a w
  inv : ∀ vs, S.free = true ∨ (fn S.inv vs).i ≠ 0 → Inv vs
  kind : ∀ vs j, (fn (S.kind j) vs).i ≠ 0 ↔ (R vs).1 = j
  outs : ∀ vs j i, (R vs).1 = j → fn (S.outs j i) vs = (R vs).2 i

def getAll (t : T IE) : List Nat → Option (List IE)
  | [] => some []
  | i :: l => match t.get i, getAll t l with
    | some e, some es => some (e :: es)
    | _, _ => none

def exitK {α : Type} (S : LoopSpec) (s : SubL) (as : List IE) (j : Nat) (o : Out) (X : Pat) (m : Nat) (tm : TM) (hs : HS) (pc : PC) (k : Out → TM → HS → PC → Tr α) : Tr α :=
  match subX s S.stab S.stabC hs X ((upFrom 0 m).map fun i => (i, .app (S.outs j i) as)) with
  | some θ => match putX θ.sub (kills s S.H.heap hs.heap) X.heap, putTm θ.sub tm X.tm with
    | some H2, some tm2 => k o tm2 { heap := H2, nx := hs.nx + X.nx, nc := hs.nc + X.nc } pc
    | _, _ => .bad 52
  | none => .bad 53

/-- A question, unless it is known. -/
def askT {α : Type} (pc : PC) (b : BE) (t f : PC → Tr α) : Tr α := match dec pc b with
  | some true => t pc
  | some false => f pc
  | none => .br b (t (pcAdd pc b true)) (f (pcAdd pc b false))

def exitsK {α : Type} (S : LoopSpec) (s : SubL) (as : List IE) (tm : TM) (hs : HS) (k : Out → TM → HS → PC → Tr α) : Nat → List (Out × Pat × Nat) → PC → Tr α
  | _, [], _ => .bad 54
  | j, (o, X, m) :: l, pc => match l with
    | [] => exitK S s as j o X m tm hs pc k
    | l => askT pc (.is (.app (S.kind j) as)) (fun pc => exitK S s as j o X m tm hs pc k) (exitsK S s as tm hs k (j + 1) l)

def boundsOK (s : SubL) (hs : HS) : Bool := (s.nm.all fun x => Nat.blt x.2 hs.nx) && (s.cp.all fun x => Nat.blt x.2 hs.nc)

def loopK {α : Type} (S : LoopSpec) (find : TM → HS → SubL) (tm : TM) (hs : HS) (pc : PC) (k : Out → TM → HS → PC → Tr α) : Tr α :=
  match enters S.H (find tm hs) tm hs && boundsOK (find tm hs) hs, getAll (find tm hs).sub.sv S.args with
  | true, some as => match S.free with
    | true => exitsK S (find tm hs) as tm hs k 0 S.Xs pc
    | false => askT pc (.is (.app S.inv as)) (exitsK S (find tm hs) as tm hs k 0 S.Xs) (fun _ => .bad 50)
  | _, _ => .bad 51

section
variable {ρ : Rho} {P : Program} {nt : Nat} {α : Type} {Ψ : α → Prop} {δ : Dl} {hs : HS} {w : World}

theorem getAll_svs {t : T IE} : ∀ (l : List Nat) (es : List IE) (f : Nat → SV), getAll t l = some es → (∀ i e, t.get i = some e → e.sv ρ = f i) → IE.svs ρ es = l.map f
  | [], es, f, h, _ => by simp [getAll] at h; subst h; simp [IE.svs]
  | i :: l, es, f, h, hf => by
    simp only [getAll] at h
    split at h
    case h_2 => cases h
    rename_i e es' he hes
    simp only [Option.some.injEq] at h; subst h
    simp only [IE.svs, List.map_cons]
    rw [hf i e he, getAll_svs l es' f hes hf]

theorem askT_sound {pc : PC} {b : BE} {t f : PC → Tr α} (hp : PCh ρ pc) (h : (askT pc b t f).holds ρ Ψ) :
    (b.den ρ = true → ∃ pc', PCh ρ pc' ∧ (t pc').holds ρ Ψ) ∧ (b.den ρ = false → ∃ pc', PCh ρ pc' ∧ (f pc').holds ρ Ψ) := by
  unfold askT at h
  split at h
  · rename_i hd
    have := dec_sound hp hd
    exact ⟨fun _ => ⟨pc, hp, h⟩, fun e => by rw [this] at e; cases e⟩
  · rename_i hd
    have := dec_sound hp hd
    exact ⟨fun e => (by rw [this] at e; cases e), fun _ => ⟨pc, hp, h⟩⟩
  · exact ⟨fun e => ⟨_, hp.cons e, h.1 e⟩, fun e => ⟨_, hp.cons e, h.2 e⟩⟩

theorem exitsK_sound {S : LoopSpec} {s : SubL} {as : List IE} {tm : TM} {k : Out → TM → HS → PC → Tr α} (r : Nat) (hk : ∀ j, (ρ.fn (S.kind j) (IE.svs ρ as)).i ≠ 0 ↔ r = j)
    (l : List (Out × Pat × Nat)) : ∀ (j0 : Nat) (pc : PC), PCh ρ pc → (exitsK S s as tm hs k j0 l pc).holds ρ Ψ → ∀ j o X m, j0 + j = r → l[j]? = some (o, X, m) → ∃ pc', PCh ρ pc' ∧ (exitK S s as r o X m tm hs pc' k).holds ρ Ψ := by
  induction l with
  | nil => intro j0 pc hp h j o X m _ hj; cases hj
  | cons x l ih =>
    intro j0 pc hp h j o X m hr hj
    obtain ⟨o0, X0, m0⟩ := x
    unfold exitsK at h
    split at h
    · cases j with
      | zero =>
        rw [List.getElem?_cons_zero] at hj
        injection hj with hj
        injection hj with e1 e2
        injection e2 with e2 e3
        subst e1 e2 e3
        rw [Nat.add_zero] at hr
        subst hr
        exact ⟨pc, hp, h⟩
      | succ j => cases hj
    · rename_i l _
      obtain ⟨hA, hB⟩ := askT_sound hp h
      have hd0 : (IE.app (S.kind j0) as).den ρ = (ρ.fn (S.kind j0) (IE.svs ρ as)).i := by simp only [IE.den, IE.sv]
      have hd : (BE.is (.app (S.kind j0) as)).den ρ = decide ((ρ.fn (S.kind j0) (IE.svs ρ as)).i ≠ 0) := by
        simp only [BE.den, hd0]
      cases j with
      | zero =>
        rw [List.getElem?_cons_zero] at hj
        injection hj with hj
        injection hj with e1 e2
        injection e2 with e2 e3
        subst e1 e2 e3
        rw [Nat.add_zero] at hr
        subst hr
        exact hA (by rw [hd]; exact decide_eq_true ((hk j0).2 rfl))
      | succ j =>
        have hne : ¬ (ρ.fn (S.kind j0) (IE.svs ρ as)).i ≠ 0 := fun e => Nat.ne_of_lt (Nat.lt_of_lt_of_le (Nat.lt_add_of_pos_right (Nat.succ_pos j)) (Nat.le_of_eq hr)) ((hk j0).1 e).symm
        obtain ⟨pc', hp', h'⟩ := hB (by rw [hd]; exact decide_eq_false hne)
        exact ih (j0 + 1) pc' hp' h' j o X m (by rw [Nat.add_assoc, Nat.add_comm 1 j]; exact hr) (by rw [List.getElem?_cons_succ] at hj; exact hj)

theorem specK_sound {nt' : Nat} {S : LoopSpec} {find : TM → HS → SubL} {Inv : List SV → Prop} {R : List SV → Nat × (Nat → SV)} {W : (Out → Act → World → Prop) → Act → World → Prop} (hok : SpecOK nt nt' S ρ.fn Inv R W)
    {tm : TM} {pc : PC} {k : Out → TM → HS → PC → Tr α} {a : Act} {Q : Out → Act → World → Prop}
    (hp : PCh ρ pc) (hr : HRep ρ δ hs w) (ht : TRep ρ δ nt tm a) (h : (loopK S find tm hs pc k).holds ρ Ψ)
    (hk : ∀ out tm' hs' pc' δ' a' w', PCh ρ pc' → HRep ρ δ' hs' w' → TRep ρ δ' nt' tm' a' → Evo δ hs w δ' hs' w' → (k out tm' hs' pc').holds ρ Ψ → Q out a' w') :
    W Q a w := by
  unfold loopK at h
  split at h
  case h_2 => exact h.elim
  rename_i as hen has
  simp only [Bool.and_eq_true] at hen
  obtain ⟨hen, hbd⟩ := hen
  generalize find tm hs = s at hen hbd has h
  have hsub := subOK s.sub ρ δ a
  obtain ⟨hH, hT⟩ := enters_sound hen hr ht
  have hvals : IE.svs ρ as = S.vals (rhoOf s.sub ρ a) := getAll_svs _ _ _ has hsub.sv
  have hpre : Inv (S.vals (rhoOf s.sub ρ a)) ∧ ∃ pc', PCh ρ pc' ∧ (exitsK S s as tm hs k 0 S.Xs pc').holds ρ Ψ := by
    split at h
    · rename_i hf
      exact ⟨hok.inv _ (.inl hf), pc, hp, h⟩
    · obtain ⟨hA, hB⟩ := askT_sound hp h
      cases hd : (BE.is (.app S.inv as)).den ρ with
      | false => obtain ⟨_, _, h⟩ := hB hd; exact h.elim
      | true =>
        refine ⟨hok.inv _ (.inr ?_), hA hd⟩
        rw [← hvals]
        simp only [BE.den, IE.den, IE.sv] at hd
        exact of_decide_eq_true hd
  obtain ⟨hinv, pc1, hp1, h⟩ := hpre
  simp only [enters, Bool.and_eq_true] at hen
  obtain ⟨⟨hkeys, _⟩, hheap⟩ := hen
  obtain ⟨h4, h5⟩ := refHeap_sound _ _ hheap
  simp only [boundsOK, Bool.and_eq_true] at hbd
  refine hok.run (rhoOf s.sub ρ a) (dlOf s.sub δ) a w rfl hH hT hinv Q ?_
  intro j o X m ρ' δ' a' w' hXs hj hfn hval hsv hX hTX hev hst hsc
  obtain ⟨pc2, hp2, hex⟩ := exitsK_sound (R (S.vals (rhoOf s.sub ρ a))).1 (fun j => by rw [hvals]; exact hok.kind _ j) _ 0 pc1 hp1 h j o X m (by rw [hj, Nat.zero_add]) hXs
  rw [hj] at hex
  unfold exitK at hex
  split at hex
  case h_2 => exact hex.elim
  rename_i θ hθ
  split at hex
  case h_2 => exact hex.elim
  rename_i H2 tm2 hput hputt
  obtain ⟨hgoes, hθsv⟩ := subX_goes hθ
  have hsv2 : ∀ i e, θ.sub.sv.get i = some e → e.sv ρ = ρ'.sv i := by
    intro i e he
    have := T.puts_mem _ _ _ he
    rw [hθsv, List.mem_map] at this
    obtain ⟨x, _, e1⟩ := this
    injection e1 with e1 e2
    subst e1 e2
    simp only [IE.sv]
    rw [hvals, hok.outs _ j x hj, hsv]
  have hok2 := goes_ok (H := S.H) hr hX hgoes hst hsc
    (fun n m _ hm => by
      have hmem := T.puts_mem _ _ _ hm
      have h1 := blt_lt (List.all_eq_true.1 hbd.1 _ hmem)
      simp only [keysOK, Bool.and_eq_true] at hkeys
      have h2 := List.all_eq_true.1 hkeys.1.2 _ hmem
      simp only [Bool.and_eq_true] at h2
      exact ⟨h1, ble_le h2.1⟩)
    (fun i j _ hm => blt_lt (List.all_eq_true.1 hbd.2 _ (T.puts_mem _ _ _ hm)))
    hfn hsv2
  have hheap2 : ∀ n b, S.H.hs.heap.get n = some b → ∃ m b', nmOf s.sub.nm n = some m ∧ hs.heap.get m = some b' ∧ b'.live = true ∧ (b.rw = true → b'.rw = true ∧ (∃ p, (n, p) ∈ S.H.heap ∧ p.blk.rw = true)) := by
    intro n b hb
    have := T.puts_mem S.H.blks n b hb
    simp only [Pat.blks, List.mem_map] at this
    obtain ⟨x, hx, e⟩ := this
    injection e with e1 e2
    subst e1 e2
    obtain ⟨m, b', g1, g2, g3, _⟩ := h4 x.1 x.2 hx
    exact ⟨m, b', g1, g2, (refBlk_live g3).1, fun hrw => ⟨(refBlk_live g3).2 hrw, x.2, hx, hrw⟩⟩
  obtain ⟨hA, hB⟩ := leave_rep hr hX hev hheap2 hok2 hput
  refine hk o tm2 _ pc2 _ a' w' hp2 hA ⟨hTX.dfr, hTX.size, ?_⟩ hB hex
  exact putTm_sound ht hB.le hok2 _ _ (fun i hi => by rw [hval i hi]; rfl) hputt hTX.val

/-- What the loop does. -/
def LoopOK (P : Program) (nt : Nat) (b : Code) (S : LoopSpec) (fn : Nat → List SV → SV) (Inv : List SV → Prop) (R : List SV → Nat × (Nat → SV)) : Prop :=
  SpecOK nt nt S fn Inv R fun Q a w => ∀ Q' : Exit → Act → World → Prop, (∀ o a w, Q o a w → Q' (exitOf o) a w) → (Code.loop b).wp P Q' a w

theorem loopK_sound {S : LoopSpec} {b : Code} {find : TM → HS → SubL} {Inv : List SV → Prop} {R : List SV → Nat × (Nat → SV)} (hok : LoopOK P nt b S ρ.fn Inv R) :
    LoopSound ρ P nt Ψ b (loopK S find) := by
  intro tm hs pc k δ a w Q hp hr ht h hk
  exact specK_sound (Q := fun o a w => Q (exitOf o) a w) hok hp hr ht h hk Q fun _ _ _ h => h

/-! ### Functions -/
/-- What a function does: arguments are temporaries from 0 on, what is handed back is temporary 0. -/
def FnOK (P : Program) (f : FuncId) (ar : Nat) (S : LoopSpec) (fn : Nat → List SV → SV) (Inv : List SV → Prop) (R : List SV → Nat × (Nat → SV)) : Prop :=
  SpecOK ar 1 S fn Inv R fun Q a w => FnWp P f a.tmps w fun u w' => ∃ o, Q o { tmps := #[u], defers := [] } w'

def fnK {α : Type} (ar : Nat) (S : LoopSpec) (find : TM → HS → SubL) : List AV → HS → PC → (AV → HS → PC → Tr α) → Tr α := fun args hs pc k =>
  match Nat.beq args.length ar with
  | true => loopK S find (T.ofList args) hs pc fun _ tm hs pc => match tm.get 0 with
    | some v => k v hs pc
    | none => .bad 57
  | false => .bad 58

theorem fnK_sound {S : LoopSpec} {f : FuncId} {ar : Nat} {find : TM → HS → SubL} {Inv : List SV → Prop} {R : List SV → Nat × (Nat → SV)} (hok : FnOK P f ar S ρ.fn Inv R)
    {args : List AV} {pc : PC} {k : AV → HS → PC → Tr α} {us : Array Value} {R' : Value → World → Prop}
    (hp : PCh ρ pc) (hr : HRep ρ δ hs w) (hv : VRels ρ δ args us.toList) (h : (fnK ar S find args hs pc k).holds ρ Ψ)
    (hk : ∀ v hs' pc' δ' w' u, PCh ρ pc' → HRep ρ δ' hs' w' → Evo δ hs w δ' hs' w' → VRel ρ δ' v u → (k v hs' pc').holds ρ Ψ → R' u w') : FnWp P f us w R' := by
  unfold fnK at h
  split at h
  case h_2 => exact h.elim
  rename_i har
  have har := beq_eq har
  have hsz : us.size = ar := by rw [← har, hv.length]; simp
  have ht : TRep ρ δ ar (T.ofList args) { tmps := us, defers := [] } := by
    refine ⟨rfl, hsz, fun t v hv' => ?_⟩
    rw [T.get_ofList] at hv'
    obtain ⟨u, h1, h2⟩ := hv.get hv'
    exact ⟨u, by simpa using h1, h2⟩
  have := specK_sound (Q := fun _ a' w' => R' (a'.tmps.getD 0 undef) w') hok hp hr ht h fun out tm' hs' pc' δ' a' w' hp' hr' ht' he' hh => by
    split at hh
    · rename_i v hv0
      obtain ⟨u, h1, h2⟩ := ht'.val 0 v hv0
      have : a'.tmps.getD 0 undef = u := by simp [h1]
      rw [this]
      exact hk v hs' pc' δ' w' u hp' hr' he' h2 hh
    · exact hh.elim
  unfold FnWp at this ⊢
  rcases this with ⟨u, w', h1, _, h2⟩ | ⟨h1, h2⟩
  · exact .inl ⟨u, w', h1, h2⟩
  · exact .inr ⟨h1, Calls.mono h2 fun e w' he => by obtain ⟨u, he, _, hh⟩ := he; exact ⟨u, he, hh⟩⟩
end
end Go.Sx
