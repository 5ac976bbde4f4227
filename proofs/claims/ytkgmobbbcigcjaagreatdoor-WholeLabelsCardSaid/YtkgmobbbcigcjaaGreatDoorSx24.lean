/- An executor for the model's Go code over an abstract state: what a loop does, from one run of its body. -/
import Derived.Test.YtkgmobbbcigcjaaGreatDoorSx23
namespace Go.Sx
set_option linter.unusedVariables false

/-- Stable names stand for themselves. -/
def stableOK (stab stabC : List Nat) (s : SubL) : Bool :=
  (stab.all fun n => match nmOf s.sub.nm n with | some m => Nat.beq m n | none => false) &&
  (stabC.all fun i => match s.sub.cp.get i with | some j => Nat.beq j i | none => false)

def sameOut : Out → Out → Bool
  | .normal, .normal => true
  | .ret, .ret => true
  | .exit i, .exit j => Nat.beq i j
  | _, _ => false

theorem sameOut_eq {a b : Out} (h : sameOut a b = true) : a = b := by
  cases a <;> cases b <;> simp only [sameOut] at h <;> first | rfl | (cases h; done) | skip
  rw [beq_eq h]

abbrev Leaf := Option Nat × List (Nat × IE)

/-- Opaque temporaries are as they were. -/
def keptOK (tm : TM) : List (Nat × AV) → Bool
  | [] => true
  | (t, .val _) :: l => match tm.get t with
    | some (.val j) => Nat.beq j t && keptOK tm l
    | _ => false
  | _ :: l => keptOK tm l

theorem keptOK_mem {tm : TM} : ∀ {l : List (Nat × AV)}, keptOK tm l = true → ∀ t i, (t, AV.val i) ∈ l → tm.get t = some (.val t)
  | [], _, t, i, h => by cases h
  | (t0, p) :: l, hk, t, i, h => by
    rcases List.mem_cons.1 h with e | h
    · injection e with e1 e2
      subst e1 e2
      simp only [keptOK] at hk
      split at hk
      · rename_i j hj
        simp only [Bool.and_eq_true] at hk
        rw [beq_eq hk.1] at hj
        exact hj
      · cases hk
    · have : keptOK tm l = true := by
        cases p <;> simp only [keptOK] at hk <;> first | exact hk | skip
        split at hk
        · simp only [Bool.and_eq_true] at hk; exact hk.2
        · cases hk
      exact keptOK_mem this t i h

/-- What is kept of a body's end: whether the loop goes on, or by which exit it ends, and the values of the parameters. -/
def leafK (S : LoopSpec) (findH : TM → HS → SubL) (findX : Nat → TM → HS → SubL) (exitNo : Out → Nat) (o : Out) (tm : TM) (hs : HS) (_pc : PC) : Tr Leaf :=
  match o with
  | .normal => match enters S.H (findH tm hs) tm hs && stableOK S.stab S.stabC (findH tm hs) && keptOK tm S.H.tm with
    | true => .leaf (none, (findH tm hs).sv)
    | false => .bad 60
  | o => match S.Xs[exitNo o]? with
    | some (o', X, _) => match sameOut o' o, enters X (findX (exitNo o) tm hs) tm hs && stableOK S.stab S.stabC (findX (exitNo o) tm hs) && keptOK tm X.tm with
      | true, true => .leaf (some (exitNo o), (findX (exitNo o) tm hs).sv)
      | _, _ => .bad 61
    | none => .bad 62

/-- Values from a leaf. -/
def svOf (ρ : Rho) (l : List (Nat × IE)) (i : Nat) : SV := match (T.puts .nil l).get i with
  | some e => e.sv ρ
  | none => .nul

/-- What a leaf must say. -/
def LeafOK (S : LoopSpec) (Inv : List SV → Prop) (R : List SV → Nat × (Nat → SV)) (μ : List SV → Nat) (ρ : Rho) (l : Leaf) : Prop :=
  match l.1 with
  | none => Inv (S.args.map (svOf ρ l.2)) ∧ μ (S.args.map (svOf ρ l.2)) < μ (S.vals ρ) ∧ R (S.args.map (svOf ρ l.2)) = R (S.vals ρ)
  | some j => (R (S.vals ρ)).1 = j ∧ ∀ i, svOf ρ l.2 i = (R (S.vals ρ)).2 i

theorem stable_at {stab stabC : List Nat} {s : SubL} (h : stableOK stab stabC s = true) (δ : Dl) : (∀ n, n ∈ stab → (dlOf s.sub δ).at_ n = δ.at_ n) ∧ (∀ i, i ∈ stabC → (dlOf s.sub δ).cap i = δ.cap i) := by
  simp only [stableOK, Bool.and_eq_true] at h
  constructor
  · intro n hn
    have := List.all_eq_true.1 h.1 n hn
    simp only [dlOf]
    cases hm : nmOf s.sub.nm n with
    | none => rw [hm] at this; cases this
    | some m => rw [hm] at this; rw [beq_eq this]
  · intro n hn
    have := List.all_eq_true.1 h.2 n hn
    simp only [dlOf]
    cases hm : s.sub.cp.get n with
    | none => rw [hm] at this; cases this
    | some m => rw [hm] at this; rw [beq_eq this]

/-- A state and the pattern that it enters: memory is the same. -/
theorem enters_evo {p : Pat} {s : SubL} {tm : TM} {hs : HS} {ρ : Rho} {δ : Dl} {w : World} (h : enters p s tm hs = true) : EvoW δ hs w (dlOf s.sub δ) p.hs w where
  size := Nat.le_refl _
  unch := fun _ _ _ => rfl
  live := fun n blk b o hn hl hat _ => by
    simp only [enters, Bool.and_eq_true] at h
    obtain ⟨h4, _⟩ := refHeap_sound _ _ h.2
    have := T.puts_mem p.blks n blk hn
    simp only [Pat.blks, List.mem_map] at this
    obtain ⟨x, hx, e⟩ := this
    injection e with e1 e2
    subst e1 e2
    obtain ⟨m, b', g1, g2, g3, _⟩ := h4 x.1 x.2 hx
    simp only [dlOf, g1] at hat
    exact .inr ⟨m, b', o, g2, (refBlk_live g3).1, (refBlk_live g3).2, hat⟩
  os := rfl
  tape := rfl
  output := rfl

/-- Stable names and caps are bound at the head. -/
def boundH (S : LoopSpec) : Bool :=
  (S.stab.all fun n => match S.H.hs.heap.get n with | some b => b.live | none => false) &&
  (S.stabC.all fun i => S.H.heap.any fun x => match S.H.hs.heap.get x.1 with
    | some (.seq _ _ _ rm _) => Nat.beq i rm || Nat.beq i (rm + 1)
    | _ => false)

theorem boundH_spec {S : LoopSpec} (h : boundH S = true) {ρ : Rho} {δ : Dl} {w : World} (hr : HRep ρ δ S.H.hs w) :
    (∀ n, n ∈ S.stab → ∃ x, δ.at_ n = some x) ∧ (∀ i, i ∈ S.stabC → ∃ x, δ.cap i = some x) := by
  simp only [boundH, Bool.and_eq_true] at h
  constructor
  · intro n hn
    have := List.all_eq_true.1 h.1 n hn
    split at this
    · rename_i b hb
      obtain ⟨x, o, hx⟩ := (hr.blk n b hb).bound this
      exact ⟨_, hx⟩
    · cases this
  · intro i hi
    have := List.all_eq_true.1 h.2 i hi
    obtain ⟨x, _, hx⟩ := List.any_eq_true.1 this
    split at hx
    · rename_i q row e rm rw hb
      obtain ⟨b, o, r, g1, g2, g3, _⟩ := hr.blk _ _ hb
      simp only [Bool.or_eq_true] at hx
      rcases hx with hx | hx
      · have := beq_eq hx; subst this; exact ⟨_, g2⟩
      · have := beq_eq hx; subst this; exact ⟨_, g3⟩
    · cases hx

/-- What an exit keeps, the head keeps. -/
def opqOK (S : LoopSpec) : Bool := S.Xs.all fun x => x.2.1.tm.all fun y => match y.2 with
  | .val _ => match S.H.tmv.get y.1 with
    | some (.val j) => Nat.beq j y.1
    | _ => false
  | _ => true

theorem opqOK_mem {S : LoopSpec} (h : opqOK S = true) {j m : Nat} {o : Out} {X : Pat} (hX : S.Xs[j]? = some (o, X, m)) {t i : Nat} (ht : (t, AV.val i) ∈ X.tm) : (t, AV.val t) ∈ S.H.tm := by
  have h1 := List.all_eq_true.1 h _ (List.mem_of_getElem? hX)
  have h2 := List.all_eq_true.1 h1 _ ht
  simp only at h2
  split at h2
  · rename_i k hk
    have := beq_eq h2
    subst this
    exact T.puts_mem _ _ _ hk
  · cases h2

theorem loop_rounds {P : Program} {nt : Nat} {b : Code} {S : LoopSpec} {fn : Nat → List SV → SV} {Inv : List SV → Prop} {R : List SV → Nat × (Nat → SV)} (μ : List SV → Nat)
    {findH : TM → HS → SubL} {findX : Nat → TM → HS → SubL} {exitNo : Out → Nat} {ck : CallK Leaf} {lt : Nat → TM → Option (LoopFn Leaf)} (fuel : Nat)
    (hm : P.follows .mixedOrders = true) (hbd : boundH S = true) (hop : opqOK S = true)
    (hbody : ∀ ρ : Rho, ρ.fn = fn → Inv (S.vals ρ) → (exec P ck lt nt fuel b S.H.tmv S.H.hs [] (leafK S findH findX exitNo)).holds ρ (LeafOK S Inv R μ ρ) ∧
      CallSound ρ P (LeafOK S Inv R μ ρ) ck ∧ ∀ b' ∈ loopsOf b, ∀ tm0 F, lt (loopKey b') tm0 = some F → LoopSound ρ P nt (LeafOK S Inv R μ ρ) b' F) :
    ∀ (ρ : Rho) (δ : Dl) (a : Act) (w : World), ρ.fn = fn → HRep ρ δ S.H.hs w → TRep ρ δ nt S.H.tmv a → Inv (S.vals ρ) → ∀ (Q : Exit → Act → World → Prop),
    (∀ j o X m ρ' δ' a' w', S.Xs[j]? = some (o, X, m) → (R (S.vals ρ)).1 = j → ρ'.fn = fn → (∀ t, (t, AV.val t) ∈ X.tm → ρ'.val t = ρ.val t) → (∀ i, ρ'.sv i = (R (S.vals ρ)).2 i) → HRep ρ' δ' X.hs w' → TRep ρ' δ' nt X.tmv a' →
      EvoW δ S.H.hs w δ' X.hs w' → (∀ n, n ∈ S.stab → δ'.at_ n = δ.at_ n) → (∀ i, i ∈ S.stabC → δ'.cap i = δ.cap i) → Q (exitOf o) a' w') →
    (Code.loop b).wp P Q a w := by
  -- what is opaque at an exit is opaque at the head
  have key : ∀ (n : Nat) (ρ : Rho) (δ : Dl) (a : Act) (w : World), ρ.fn = fn → HRep ρ δ S.H.hs w → TRep ρ δ nt S.H.tmv a → Inv (S.vals ρ) → μ (S.vals ρ) < n → ∀ (Q : Exit → Act → World → Prop),
      (∀ j o X m ρ' δ' a' w', S.Xs[j]? = some (o, X, m) → (R (S.vals ρ)).1 = j → ρ'.fn = fn → (∀ t, (t, AV.val t) ∈ X.tm → ρ'.val t = ρ.val t) → (∀ i, ρ'.sv i = (R (S.vals ρ)).2 i) → HRep ρ' δ' X.hs w' → TRep ρ' δ' nt X.tmv a' →
        EvoW δ S.H.hs w δ' X.hs w' → (∀ n, n ∈ S.stab → δ'.at_ n = δ.at_ n) → (∀ i, i ∈ S.stabC → δ'.cap i = δ.cap i) → Q (exitOf o) a' w') →
      Code.rounds P b Q n a w := by
    intro n
    induction n with
    | zero => intro ρ δ a w _ _ _ _ h; omega
    | succ n ih =>
      intro ρ δ a w hfn hr ht hinv hmu Q hQ
      rw [rounds_succ]
      obtain ⟨h1, h2, h3⟩ := hbody ρ hfn hinv
      obtain ⟨hb1, hb2⟩ := boundH_spec hbd hr
      refine exec_sound hm h2 fuel b S.H.tmv S.H.hs [] _ δ a w _ h3 (fun x hx => by cases hx) hr ht h1 ?_
      intro out tm' hs' pc' δ' a' w' hp' hr' ht' he' hl
      have valOf : ∀ (l : List (Nat × AV)), keptOK tm' l = true → ∀ t, (t, AV.val t) ∈ l → a'.tmps.getD t undef = ρ.val t := by
        intro l hk t hm
        obtain ⟨u, hu1, hu2⟩ := ht'.val t _ (keptOK_mem hk t t hm)
        simp only [VRel] at hu2
        simp only [Array.getD_eq_getD_getElem?, hu1, Option.getD_some, hu2.1]
      unfold leafK at hl
      split at hl
      · split at hl
        case h_2 => exact hl.elim
        rename_i hen
        simp only [Bool.and_eq_true] at hen
        obtain ⟨⟨hen, hst⟩, hkp⟩ := hen
        generalize findH tm' hs' = s at hen hst hl
        obtain ⟨hH, hT⟩ := enters_sound hen hr' ht'
        obtain ⟨hs1, hs2⟩ := stable_at hst δ'
        have hl : LeafOK S Inv R μ ρ (none, s.sv) := hl
        simp only [LeafOK] at hl
        obtain ⟨l1, l2, l3⟩ := hl
        have hv : S.vals (rhoOf s.sub ρ a') = S.args.map (svOf ρ s.sv) := rfl
        show Code.rounds P b Q n a' w'
        refine ih (rhoOf s.sub ρ a') (dlOf s.sub δ') a' w' hfn hH hT (by rw [hv]; exact l1) (by rw [hv]; omega) Q ?_
        intro j o X m ρ2 δ2 a2 w2 g1 g2 g3 g4 g5 g6 g7 g8 g9 g10
        rw [hv, l3] at g2 g5
        refine hQ j o X m ρ2 δ2 a2 w2 g1 g2 g3 (fun t ht => ?_) g5 g6 g7 ((he'.weak.trans (enters_evo (ρ := ρ) hen)).trans g8) ?_ ?_
        · rw [g4 t ht]
          exact valOf _ hkp t (opqOK_mem hop g1 ht)
        · intro n hn
          obtain ⟨x, hx⟩ := hb1 n hn
          rw [g9 n hn, hs1 n hn, hx]
          exact he'.le.1 n x hx
        · intro i hi
          obtain ⟨x, hx⟩ := hb2 i hi
          rw [g10 i hi, hs2 i hi, hx]
          exact he'.le.2 i x hx
      · split at hl
        case h_2 => exact hl.elim
        rename_i o' X m hX
        split at hl
        case h_2 => exact hl.elim
        rename_i hso hen
        simp only [Bool.and_eq_true] at hen
        obtain ⟨⟨hen, hst⟩, hkp⟩ := hen
        have hso := sameOut_eq hso
        generalize findX (exitNo out) tm' hs' = s at hen hst hl
        obtain ⟨hH, hT⟩ := enters_sound hen hr' ht'
        obtain ⟨hs1, hs2⟩ := stable_at hst δ'
        have hl : LeafOK S Inv R μ ρ (some (exitNo out), s.sv) := hl
        simp only [LeafOK] at hl
        obtain ⟨l1, l2⟩ := hl
        have hq : Q (exitOf o') a' w' := by
          refine hQ (exitNo out) o' X m (rhoOf s.sub ρ a') (dlOf s.sub δ') a' w' hX l1 hfn (fun t ht => valOf _ hkp t ht) (fun i => l2 i) hH hT (he'.weak.trans (enters_evo (ρ := ρ) hen)) ?_ ?_
          · intro n hn
            obtain ⟨x, hx⟩ := hb1 n hn
            rw [hs1 n hn, hx]
            exact he'.le.1 n x hx
          · intro i hi
            obtain ⟨x, hx⟩ := hb2 i hi
            rw [hs2 i hi, hx]
            exact he'.le.2 i x hx
        rw [hso] at hq
        cases out with
        | normal => exact absurd rfl ‹_›
        | exit id => exact hq
        | ret => exact hq
  intro ρ δ a w hfn hr ht hinv Q hQ
  exact wp_loop_rounds (μ (S.vals ρ) + 1) (key _ ρ δ a w hfn hr ht hinv (Nat.lt_succ_self _) Q hQ)

theorem loop_ok {P : Program} {nt : Nat} {b : Code} {S : LoopSpec} {fn : Nat → List SV → SV} {Inv : List SV → Prop} {R : List SV → Nat × (Nat → SV)} (μ : List SV → Nat)
    {findH : TM → HS → SubL} {findX : Nat → TM → HS → SubL} {exitNo : Out → Nat} {ck : CallK Leaf} {lt : Nat → TM → Option (LoopFn Leaf)} (fuel : Nat)
    (hm : P.follows .mixedOrders = true) (hbd : boundH S = true) (hop : opqOK S = true)
    (hbody : ∀ ρ : Rho, ρ.fn = fn → Inv (S.vals ρ) → (exec P ck lt nt fuel b S.H.tmv S.H.hs [] (leafK S findH findX exitNo)).holds ρ (LeafOK S Inv R μ ρ) ∧
      CallSound ρ P (LeafOK S Inv R μ ρ) ck ∧ ∀ b' ∈ loopsOf b, ∀ tm0 F, lt (loopKey b') tm0 = some F → LoopSound ρ P nt (LeafOK S Inv R μ ρ) b' F)
    (hinv : ∀ vs, S.free = true ∨ (fn S.inv vs).i ≠ 0 → Inv vs) (hkind : ∀ vs j, (fn (S.kind j) vs).i ≠ 0 ↔ (R vs).1 = j) (houts : ∀ vs j i, (R vs).1 = j → fn (S.outs j i) vs = (R vs).2 i) :
    LoopOK P nt b S fn Inv R :=
  ⟨fun ρ δ a w hfn hr ht hI _ hQ Q' hQ' => loop_rounds μ fuel hm hbd hop hbody ρ δ a w hfn hr ht hI Q' fun j o X m ρ' δ' a' w' h1 h2 h3 h4 h5 h6 h7 h8 h9 h10 =>
    hQ' _ _ _ (hQ j o X m ρ' δ' a' w' h1 h2 h3 h4 h5 h6 h7 h8 h9 h10), hinv, hkind, houts⟩

/-! ### Functions -/
def leafF (S : LoopSpec) (findX : Nat → TM → HS → SubL) (exitNo : AV → HS → Nat) (v : AV) (hs : HS) (_pc : PC) : Tr Leaf :=
  match S.Xs[exitNo v hs]? with
  | some (_, X, _) => match enters X (findX (exitNo v hs) (T.ofList [v]) hs) (T.ofList [v]) hs && stableOK S.stab S.stabC (findX (exitNo v hs) (T.ofList [v]) hs) with
    | true => .leaf (some (exitNo v hs), (findX (exitNo v hs) (T.ofList [v]) hs).sv)
    | false => .bad 63
  | none => .bad 64

def noVal (S : LoopSpec) : Bool := S.Xs.all fun x => x.2.1.tm.all fun y => match y.2 with
  | .val _ => false
  | _ => true

theorem fn_ok {P : Program} {f : FuncId} {ar : Nat} {S : LoopSpec} {fn : Nat → List SV → SV} {Inv : List SV → Prop} {R : List SV → Nat × (Nat → SV)} (μ : List SV → Nat)
    {findX : Nat → TM → HS → SubL} {exitNo : AV → HS → Nat} {ck : CallK Leaf} {args : List AV} (hargs : S.H.tmv.getL 0 ar = some args)
    (hbd : boundH S = true) (hop : noVal S = true)
    (hbody : ∀ ρ : Rho, ρ.fn = fn → Inv (S.vals ρ) → (ck f args S.H.hs [] (leafF S findX exitNo)).holds ρ (LeafOK S Inv R μ ρ) ∧ CallSound ρ P (LeafOK S Inv R μ ρ) ck)
    (hinv : ∀ vs, S.free = true ∨ (fn S.inv vs).i ≠ 0 → Inv vs) (hkind : ∀ vs j, (fn (S.kind j) vs).i ≠ 0 ↔ (R vs).1 = j) (houts : ∀ vs j i, (R vs).1 = j → fn (S.outs j i) vs = (R vs).2 i) :
    FnOK P f ar S fn Inv R := by
  refine ⟨fun ρ δ a w hfn hr ht hI Q hQ => ?_, hinv, hkind, houts⟩
  obtain ⟨h1, h2⟩ := hbody ρ hfn hI
  obtain ⟨hb1, hb2⟩ := boundH_spec hbd hr
  obtain ⟨hl, hget⟩ := T.getL_some _ _ _ _ hargs
  have hv : VRels ρ δ args a.tmps.toList := by
    refine VRels.of_get (by rw [hl, Array.length_toList, ht.size]) fun j x u hx hu => ?_
    obtain ⟨u', h3, h4⟩ := ht.val (0 + j) x (hget j x hx)
    rw [Nat.zero_add] at h3
    rw [Array.getElem?_toList, h3] at hu
    injection hu with hu
    subst hu
    exact h4
  refine h2 f args S.H.hs [] _ δ w a.tmps _ (fun x hx => by cases hx) hr hv h1 ?_
  intro v hs' pc' δ' w' u hp' hr' he' hvu hl
  unfold leafF at hl
  split at hl
  case h_2 => exact hl.elim
  rename_i o X m hX
  split at hl
  case h_2 => exact hl.elim
  rename_i hen
  simp only [Bool.and_eq_true] at hen
  obtain ⟨hen, hst⟩ := hen
  generalize findX (exitNo v hs') (T.ofList [v]) hs' = s at hen hst hl
  have ht' : TRep ρ δ' 1 (T.ofList [v]) { tmps := #[u], defers := [] } := by
    refine ⟨rfl, rfl, fun t x hx => ?_⟩
    rw [T.get_ofList] at hx
    cases t with
    | zero => simp only [List.getElem?_cons_zero, Option.some.injEq] at hx; subst hx; exact ⟨u, rfl, hvu⟩
    | succ t => simp at hx
  obtain ⟨hH, hT⟩ := enters_sound hen hr' ht'
  obtain ⟨hs1, hs2⟩ := stable_at hst δ'
  have hl : LeafOK S Inv R μ ρ (some (exitNo v hs'), s.sv) := hl
  simp only [LeafOK] at hl
  obtain ⟨l1, l2⟩ := hl
  refine ⟨o, hQ (exitNo v hs') o X m (rhoOf s.sub ρ { tmps := #[u], defers := [] }) (dlOf s.sub δ') _ w' hX l1 hfn (fun t ht => ?_) (fun i => l2 i) hH hT (he'.weak.trans (enters_evo (ρ := ρ) hen)) ?_ ?_⟩
  · have h3 := List.all_eq_true.1 hop _ (List.mem_of_getElem? hX)
    have h4 := List.all_eq_true.1 h3 _ ht
    cases h4
  · intro n hn
    obtain ⟨x, hx⟩ := hb1 n hn
    rw [hs1 n hn, hx]
    exact he'.le.1 n x hx
  · intro i hi
    obtain ⟨x, hx⟩ := hb2 i hi
    rw [hs2 i hi, hx]
    exact he'.le.2 i x hx
end Go.Sx
