/- An executor for the model's Go code over an abstract state: a call with an argument case by case. -/
import Derived.Test.YtkgmobbbcigcjaaGreatDoorSx24
namespace Go.Sx
set_option linter.unusedVariables false

def Tr.same {α : Type} (eqA : α → α → Bool) : Tr α → Tr α → Bool
  | .bad n, .bad m => Nat.beq n m
  | .leaf a, .leaf b => eqA a b
  | .br b t f, .br b' t' f' => match BE.same b b' with
    | true => match Tr.same eqA t t' with
      | true => Tr.same eqA f f'
      | false => false
    | false => false
  | .may b t f, .may b' t' f' => match BE.same b b' with
    | true => match Tr.same eqA t t' with
      | true => Tr.same eqA f f'
      | false => false
    | false => false
  | _, _ => false

theorem Tr.same_eq {α : Type} {eqA : α → α → Bool} (h : ∀ a b, eqA a b = true → a = b) : ∀ (s t : Tr α), Tr.same eqA s t = true → s = t
  | .leaf a, .leaf b, e => by simp only [Tr.same] at e; rw [h a b e]
  | .br b t f, .br b' t' f', e => by
    simp only [Tr.same] at e
    split at e
    · rename_i h1
      split at e
      · rename_i h2
        rw [BE.same_eq h1, Tr.same_eq h t t' h2, Tr.same_eq h f f' e]
      · cases e
    · cases e
  | .may b t f, .may b' t' f', e => by
    simp only [Tr.same] at e
    split at e
    · rename_i h1
      split at e
      · rename_i h2
        rw [BE.same_eq h1, Tr.same_eq h t t' h2, Tr.same_eq h f f' e]
      · cases e
    · cases e
  | .bad n, .bad m, e => by simp only [Tr.same] at e; rw [Nat.eq_of_beq_eq_true e]
  | .bad _, .leaf _, e => by simp [Tr.same] at e
  | .bad _, .br _ _ _, e => by simp [Tr.same] at e
  | .bad _, .may _ _ _, e => by simp [Tr.same] at e
  | .leaf _, .bad _, e => by simp [Tr.same] at e
  | .leaf _, .br _ _ _, e => by simp [Tr.same] at e
  | .leaf _, .may _ _ _, e => by simp [Tr.same] at e
  | .br _ _ _, .bad _, e => by simp [Tr.same] at e
  | .br _ _ _, .leaf _, e => by simp [Tr.same] at e
  | .br _ _ _, .may _ _ _, e => by simp [Tr.same] at e
  | .may _ _ _, .bad _, e => by simp [Tr.same] at e
  | .may _ _ _, .leaf _, e => by simp [Tr.same] at e
  | .may _ _ _, .br _ _ _, e => by simp [Tr.same] at e

/-- All n trees are one. -/
def allSame {α : Type} (eqT : α → α → Bool) (g : Nat → α) (t : α) : Nat → Bool
  | 0 => true
  | n + 1 => match eqT (g n) t with
    | true => allSame eqT g t n
    | false => false

theorem allSame_spec {α : Type} {eqT : α → α → Bool} (h : ∀ a b, eqT a b = true → a = b) {g : Nat → α} {t : α} : ∀ n, allSame eqT g t n = true → ∀ j, j < n → g j = t
  | 0, _, j, hj => by omega
  | n + 1, e, j, hj => by
    simp only [allSame] at e
    split at e
    · rename_i h1
      rcases Nat.lt_or_eq_of_le (Nat.le_of_lt_succ hj) with h2 | h2
      · exact allSame_spec h n e j h2
      · subst h2; exact h _ _ h1
    · cases e

def orBad {α : Type} (b : Bool) (t : Tr α) : Tr α := match b with
  | true => t
  | false => .bad 70
def sameAll {α : Type} (eqT : Tr α → Tr α → Bool) (g : Nat → Tr α) (n : Nat) : Tr α := orBad (allSame eqT g (g 0) n) (g 0)

theorem sameAll_sound {ρ : Rho} {α : Type} {Ψ : α → Prop} {eqT : Tr α → Tr α → Bool} (h : ∀ a b, eqT a b = true → a = b) {g : Nat → Tr α} {n : Nat} (hh : (sameAll eqT g n).holds ρ Ψ) (j : Nat) (hj : j < n) :
    (g j).holds ρ Ψ := by
  unfold sameAll orBad at hh
  split at hh
  · rename_i ha
    rw [allSame_spec h n ha j hj]; exact hh
  · exact hh.elim

/-- A number that is known. -/
def pinned : PC → IE → Option Int
  | [], _ => none
  | (b, v) :: pc, e => match b, v with
    | .cmp .eql a (.lit n), true => match IE.same a e with
      | true => some n
      | false => pinned pc e
    | _, _ => pinned pc e

theorem pinned_sound {ρ : Rho} : ∀ {pc : PC} {e : IE} {n : Int}, PCh ρ pc → pinned pc e = some n → e.den ρ = n
  | [], e, n, _, h => by simp [pinned] at h
  | (b, v) :: pc, e, n, hp, h => by
    have hp' : PCh ρ pc := fun x hx => hp x (List.mem_cons_of_mem _ hx)
    simp only [pinned] at h
    split at h
    · rename_i a m
      split at h
      · rename_i hs
        injection h with h
        subst h
        rw [← IE.same_eq hs]
        have := hp _ List.mem_cons_self
        simp only [BE.den, intCmp] at this
        exact eq_of_beq this
      · exact pinned_sound hp' h
    · exact pinned_sound hp' h

/-- A call whose i-th argument is told case by case, where it is one of n. -/
def splitK {α : Type} (eqA : α → α → Bool) (tab : FuncId → Option (Nat × Nat)) (ck : CallK α) : CallK α := fun f args hs pc k =>
  match tab f with
  | none => ck f args hs pc k
  | some (i, n) => match args[i]? with
    | some (.int _ (.lit _)) => ck f args hs pc k
    | some (.int kd e) => match pinned pc e with
      | some m => ck f (args.set i (.int kd (.lit m))) hs pc k
      | none => match dec pc (.cmp .lss e (.lit 0)), dec pc (.cmp .lss e (.lit (Int.ofNat n))) with
        | some false, some true => sameAll (Tr.same eqA) (fun j => ck f (args.set i (.int kd (.lit (Int.ofNat j)))) hs ((.cmp .eql e (.lit (Int.ofNat j)), true) :: pc) k) n
        | _, _ => ck f args hs pc k
    | _ => ck f args hs pc k

theorem VRels.setA {ρ : Rho} {δ : Dl} : ∀ {as : List AV} {vs : List Value} (i : Nat) {a b : AV}, VRels ρ δ as vs → as[i]? = some a → (∀ v, VRel ρ δ a v → VRel ρ δ b v) → VRels ρ δ (as.set i b) vs
  | [], _, i, a, b, _, h, _ => by simp at h
  | x :: as, vs, 0, a, b, hv, h, hab => by
    simp only [VRels] at hv
    obtain ⟨u, us, rfl, h1, h2⟩ := hv
    simp only [List.getElem?_cons_zero, Option.some.injEq] at h
    subst h
    simp only [List.set_cons_zero, VRels]
    exact ⟨u, us, rfl, hab u h1, h2⟩
  | x :: as, vs, i + 1, a, b, hv, h, hab => by
    simp only [VRels] at hv
    obtain ⟨u, us, rfl, h1, h2⟩ := hv
    simp only [List.getElem?_cons_succ] at h
    simp only [List.set_cons_succ, VRels]
    exact ⟨u, us, rfl, h1, VRels.setA i h2 h hab⟩

theorem splitK_sound {ρ : Rho} {P : Program} {α : Type} {Ψ : α → Prop} {eqA : α → α → Bool} (he : ∀ a b, eqA a b = true → a = b) (tab : FuncId → Option (Nat × Nat)) {ck : CallK α} (hck : CallSound ρ P Ψ ck) :
    CallSound ρ P Ψ (splitK eqA tab ck) := by
  intro f args hs pc k δ w us R hp hr hv h hk
  unfold splitK at h
  split at h
  · exact hck f args hs pc k δ w us R hp hr hv h hk
  rename_i i n _
  split at h
  · exact hck f args hs pc k δ w us R hp hr hv h hk
  · rename_i kd e _ harg
    have lit : ∀ m : Int, e.den ρ = m → VRels ρ δ (args.set i (.int kd (.lit m))) us.toList := by
      intro m hm
      refine hv.setA i harg fun v h => ?_
      simp only [VRel] at h ⊢
      rw [h, hm]; rfl
    split at h
    · rename_i m hm
      exact hck f _ hs pc k δ w us R hp hr (lit m (pinned_sound hp hm)) h hk
    · split at h
      · rename_i hd1 hd2
        have h1 := dec_sound hp hd1
        have h2 := dec_sound hp hd2
        simp only [BE.den, intCmp, den_lit] at h1 h2
        have h1 := of_decide_eq_false h1
        have h2 := of_decide_eq_true h2
        have hj : (e.den ρ).toNat < n := by
          have : Int.ofNat n = (n : Int) := rfl
          omega
        have hje : e.den ρ = Int.ofNat (e.den ρ).toNat := by
          have : Int.ofNat (e.den ρ).toNat = ((e.den ρ).toNat : Int) := rfl
          omega
        have hg := sameAll_sound (Tr.same_eq he) h _ hj
        refine hck f _ hs ((.cmp .eql e (.lit (Int.ofNat (e.den ρ).toNat)), true) :: pc) k δ w us R ?_ hr (lit _ hje) hg hk
        intro x hx
        rcases List.mem_cons.1 hx with e1 | hx
        · subst e1
          simp only [BE.den, intCmp, den_lit]
          exact beq_iff_eq.2 hje
        · exact hp x hx
      · exact hck f args hs pc k δ w us R hp hr hv h hk
  · exact hck f args hs pc k δ w us R hp hr hv h hk

/-- Leaves of loops, alike. -/
def Leaf.same (a b : Leaf) : Bool := (match a.1, b.1 with
  | none, none => true
  | some i, some j => Nat.beq i j
  | _, _ => false) && go a.2 b.2
where go : List (Nat × IE) → List (Nat × IE) → Bool
  | [], [] => true
  | (i, e) :: l, (j, e') :: l' => Nat.beq i j && IE.same e e' && go l l'
  | _, _ => false

theorem Leaf.same_eq (a b : Leaf) (h : Leaf.same a b = true) : a = b := by
  obtain ⟨a1, a2⟩ := a
  obtain ⟨b1, b2⟩ := b
  simp only [Leaf.same, Bool.and_eq_true] at h
  have h2 : ∀ (l l' : List (Nat × IE)), Leaf.same.go l l' = true → l = l' := by
    intro l
    induction l with
    | nil => intro l' e; cases l' with
      | nil => rfl
      | cons x l' => simp [Leaf.same.go] at e
    | cons x l ih => intro l' e; cases l' with
      | nil => simp [Leaf.same.go] at e
      | cons y l' =>
        obtain ⟨i, e1⟩ := x
        obtain ⟨j, e2⟩ := y
        simp only [Leaf.same.go, Bool.and_eq_true] at e
        rw [beq_eq e.1.1, IE.same_eq e.1.2, ih l' e.2]
  rw [h2 _ _ h.2]
  congr 1
  have h1 := h.1
  cases a1 <;> cases b1 <;> simp only at h1 <;> first | rfl | (cases h1; done) | skip
  rw [beq_eq h1]
end Go.Sx
