/- An executor for the model's Go code over an abstract state: what an abstract state stands for. -/
import Derived.Test.YtkgmobbbcigcjaaGreatDoorSx1
import Derived.Laws.AppendOwn
import Derived.Laws.MakeOwn
import Derived.Laws.OwnMore
import Derived.Laws.Entries
import Derived.Laws.CopyRow
namespace Go.Sx
set_option linter.unusedVariables false

/-! ### Tries -/
theorem T.get_nil {α : Type} (k : Nat) : (T.nil : T α).get k = none := by cases k <;> rfl

theorem div_two (k : Nat) : Nat.div k 2 = k / 2 := rfl
theorem beq_mod (k : Nat) : Nat.beq (Nat.mod k 2) 0 = decide (k % 2 = 0) := by
  change Nat.beq (k % 2) 0 = decide (k % 2 = 0)
  cases h : Nat.beq (k % 2) 0
  · have := Nat.ne_of_beq_eq_false h
    exact (decide_eq_false this).symm
  · have := Nat.eq_of_beq_eq_true h
    exact (decide_eq_true this).symm

theorem T.get_node {α : Type} (l : T α) (v : Option α) (r : T α) (k : Nat) :
    (T.node l v r).get k = if k = 0 then v else if (k - 1) % 2 = 0 then l.get ((k - 1) / 2) else r.get ((k - 1) / 2) := by
  cases k with
  | zero => simp [T.get]
  | succ k =>
    simp only [T.get, Nat.add_sub_cancel, Nat.succ_ne_zero, if_false]
    rw [beq_mod]
    by_cases h : k % 2 = 0
    · simp [h, div_two]
    · simp [h, div_two]

theorem T.setF_nil {α : Type} (f k : Nat) (x : α) :
    T.setF (f + 1) .nil k x = if k = 0 then .node .nil (some x) .nil else if (k - 1) % 2 = 0 then .node (T.setF f .nil ((k - 1) / 2) x) none .nil else .node .nil none (T.setF f .nil ((k - 1) / 2) x) := by
  cases k with
  | zero => simp [T.setF]
  | succ k =>
    simp only [T.setF, Nat.add_sub_cancel, Nat.succ_ne_zero, if_false]
    rw [beq_mod]
    by_cases h : k % 2 = 0
    · simp [h, div_two]
    · simp [h, div_two]

theorem T.setF_node {α : Type} (f k : Nat) (x : α) (l : T α) (v : Option α) (r : T α) :
    T.setF (f + 1) (.node l v r) k x = if k = 0 then .node l (some x) r else if (k - 1) % 2 = 0 then .node (T.setF f l ((k - 1) / 2) x) v r else .node l v (T.setF f r ((k - 1) / 2) x) := by
  cases k with
  | zero => simp [T.setF]
  | succ k =>
    simp only [T.setF, Nat.add_sub_cancel, Nat.succ_ne_zero, if_false]
    rw [beq_mod]
    by_cases h : k % 2 = 0
    · simp [h, div_two]
    · simp [h, div_two]

theorem T.get_setF {α : Type} (x : α) : ∀ (f : Nat) (t : T α) (k j : Nat), k < f → (T.setF f t k x).get j = if j = k then some x else t.get j := by
  intro f
  induction f with
  | zero => intro t k j h; omega
  | succ f ih =>
    intro t k j h
    cases t with
    | nil =>
      rw [T.setF_nil]
      by_cases hk : k = 0
      · subst hk
        simp only [if_true]
        rw [T.get_node]
        by_cases hj : j = 0 <;> simp [hj, T.get_nil]
      · simp only [hk, if_false]
        by_cases hp : (k - 1) % 2 = 0
        · simp only [hp, if_true]
          rw [T.get_node, ih _ _ _ (by omega)]
          by_cases hj : j = 0
          · subst hj; simp [T.get_nil]; omega
          · simp only [hj, if_false, T.get_nil]
            by_cases hq : (j - 1) % 2 = 0
            · simp only [hq, if_true]
              by_cases e : j = k
              · subst e; simp
              · have : ¬ (j - 1) / 2 = (k - 1) / 2 := by omega
                simp [e, this]
            · have : ¬ j = k := by intro e; subst e; exact hq hp
              simp [hq, this]
        · simp only [hp, if_false]
          rw [T.get_node, ih _ _ _ (by omega)]
          by_cases hj : j = 0
          · subst hj; simp [T.get_nil]; omega
          · simp only [hj, if_false, T.get_nil]
            by_cases hq : (j - 1) % 2 = 0
            · have : ¬ j = k := by intro e; subst e; exact hp hq
              simp [hq, this]
            · simp only [hq, if_false]
              by_cases e : j = k
              · subst e; simp
              · have : ¬ (j - 1) / 2 = (k - 1) / 2 := by omega
                simp [e, this]
    | node l v r =>
      rw [T.setF_node]
      by_cases hk : k = 0
      · subst hk
        simp only [if_true]
        rw [T.get_node, T.get_node]
        by_cases hj : j = 0 <;> simp [hj]
      · simp only [hk, if_false]
        by_cases hp : (k - 1) % 2 = 0
        · simp only [hp, if_true]
          rw [T.get_node, T.get_node, ih _ _ _ (by omega)]
          by_cases hj : j = 0
          · subst hj; simp; omega
          · simp only [hj, if_false]
            by_cases hq : (j - 1) % 2 = 0
            · simp only [hq, if_true]
              by_cases e : j = k
              · subst e; simp
              · have : ¬ (j - 1) / 2 = (k - 1) / 2 := by omega
                simp [e, this]
            · have : ¬ j = k := by intro e; subst e; exact hq hp
              simp [hq, this]
        · simp only [hp, if_false]
          rw [T.get_node, T.get_node, ih _ _ _ (by omega)]
          by_cases hj : j = 0
          · subst hj; simp; omega
          · simp only [hj, if_false]
            by_cases hq : (j - 1) % 2 = 0
            · have : ¬ j = k := by intro e; subst e; exact hp hq
              simp [hq, this]
            · simp only [hq, if_false]
              by_cases e : j = k
              · subst e; simp
              · have : ¬ (j - 1) / 2 = (k - 1) / 2 := by omega
                simp [e, this]

theorem T.get_set {α : Type} (t : T α) (k : Nat) (x : α) (j : Nat) : (t.set k x).get j = if j = k then some x else t.get j :=
  T.get_setF x (k + 1) t k j (Nat.lt_succ_self k)

theorem T.get_setL {α : Type} (l : List α) : ∀ (t : T α) (k j : Nat), (t.setL k l).get j = if k ≤ j ∧ j < k + l.length then l[j - k]? else t.get j := by
  induction l with
  | nil => intro t k j; simp [T.setL]; intro h1 h2; omega
  | cons x l ih =>
    intro t k j
    rw [T.setL, ih, T.get_set]
    by_cases h : k + 1 ≤ j ∧ j < k + 1 + l.length
    · have h' : k ≤ j ∧ j < k + (x :: l).length := by simp; omega
      rw [if_pos h, if_pos h']
      have : j - k = (j - (k + 1)) + 1 := by omega
      rw [this, List.getElem?_cons_succ]
    · rw [if_neg h]
      by_cases e : j = k
      · subst e; simp
      · have h' : ¬ (k ≤ j ∧ j < k + (x :: l).length) := by simp; omega
        rw [if_neg e, if_neg h']

theorem T.get_ofList {α : Type} (l : List α) (j : Nat) : (T.ofList l).get j = l[j]? := by
  unfold T.ofList
  rw [T.get_setL]
  by_cases h : j < l.length
  · simp [h]
  · simp [h, T.get_nil]

theorem T.getL_some {α : Type} (t : T α) : ∀ (n k : Nat) (l : List α), t.getL k n = some l → l.length = n ∧ ∀ j x, l[j]? = some x → t.get (k + j) = some x := by
  intro n
  induction n with
  | zero => intro k l h; simp [T.getL] at h; subst h; simp
  | succ n ih =>
    intro k l h
    simp only [T.getL] at h
    split at h
    · rename_i x hx
      split at h
      · rename_i xs hxs
        simp only [Option.some.injEq] at h
        subst h
        obtain ⟨h1, h2⟩ := ih _ _ hxs
        refine ⟨by simp [h1], ?_⟩
        intro j y hy
        cases j with
        | zero => simp at hy; subst hy; simpa using hx
        | succ j => have := h2 j y (by simpa using hy); rw [← this]; congr 1; omega
      · cases h
    · cases h

/-! ### Comparing expressions -/
mutual
theorem IE.same_eq : ∀ {a b : IE}, IE.same a b = true → a = b
  | .lit n, b, h => by
    cases b <;> simp only [IE.same] at h <;> first | (cases h; done) | skip
    simp at h; rw [h]
  | .at i, b, h => by
    cases b <;> simp only [IE.same] at h <;> first | (cases h; done) | skip
    rw [Nat.eq_of_beq_eq_true h]
  | .nat n i, b, h => by
    cases b <;> simp only [IE.same] at h <;> first | (cases h; done) | skip
    simp only [Bool.and_eq_true] at h
    rw [Nat.eq_of_beq_eq_true h.1, Nat.eq_of_beq_eq_true h.2]
  | .bin op k x y, b, h => by
    cases b <;> simp only [IE.same] at h <;> first | (cases h; done) | skip
    split at h
    case h_2 => cases h
    rename_i h1
    split at h
    case h_2 => cases h
    rename_i h2
    split at h
    case h_2 => cases h
    rename_i h3
    rw [of_decide_eq_true h1, of_decide_eq_true h2, IE.same_eq h3, IE.same_eq h]
  | .conv k x, b, h => by
    cases b <;> simp only [IE.same] at h <;> first | (cases h; done) | skip
    split at h
    case h_2 => cases h
    rename_i h1
    rw [of_decide_eq_true h1, IE.same_eq h]
  | .str s, b, h => by
    cases b <;> simp only [IE.same] at h <;> first | (cases h; done) | skip
    rename_i t
    have h := of_decide_eq_true h
    cases s; cases t
    simp only at h
    rw [Array.toList_inj.1 h]
  | .prim p as, b, h => by
    cases b <;> simp only [IE.same] at h <;> first | (cases h; done) | skip
    split at h
    case h_2 => cases h
    rename_i h1
    rw [of_decide_eq_true h1, IE.sames_eq h]
  | .app f as, b, h => by
    cases b <;> simp only [IE.same] at h <;> first | (cases h; done) | skip
    split at h
    case h_2 => cases h
    rename_i h1
    rw [Nat.eq_of_beq_eq_true h1, IE.sames_eq h]
theorem IE.sames_eq : ∀ {a b : List IE}, IE.sames a b = true → a = b
  | [], b, h => by
    cases b <;> simp only [IE.sames] at h <;> first | (cases h; done) | rfl
  | a :: as, b, h => by
    cases b <;> simp only [IE.sames] at h <;> first | (cases h; done) | skip
    split at h
    case h_2 => cases h
    rename_i h1
    rw [IE.same_eq h1, IE.sames_eq h]
end

theorem BE.same_eq : ∀ {a b : BE}, BE.same a b = true → a = b
  | .lit n, b, h => by
    cases b <;> simp only [BE.same] at h <;> first | (cases h; done) | skip
    rw [eq_of_beq h]
  | .at i, b, h => by
    cases b <;> simp only [BE.same] at h <;> first | (cases h; done) | skip
    rw [Nat.eq_of_beq_eq_true h]
  | .cmp op x y, b, h => by
    cases b <;> simp only [BE.same] at h <;> first | (cases h; done) | skip
    split at h
    case h_2 => cases h
    rename_i h1
    split at h
    case h_2 => cases h
    rename_i h2
    rw [of_decide_eq_true h1, IE.same_eq h2, IE.same_eq h]
  | .not x, b, h => by
    cases b <;> simp only [BE.same] at h <;> first | (cases h; done) | skip
    rw [BE.same_eq h]
  | .is x, b, h => by
    cases b <;> simp only [BE.same] at h <;> first | (cases h; done) | skip
    rw [IE.same_eq h]
  | .seq x y, b, h => by
    cases b <;> simp only [BE.same] at h <;> first | (cases h; done) | skip
    split at h
    case h_2 => cases h
    rename_i h1
    rw [IE.same_eq h1, IE.same_eq h]
  | .iff x y, b, h => by
    cases b <;> simp only [BE.same] at h <;> first | (cases h; done) | skip
    split at h
    case h_2 => cases h
    rename_i h1
    rw [BE.same_eq h1, BE.same_eq h]
  | .and x y, b, h => by
    cases b <;> simp only [BE.same] at h <;> first | (cases h; done) | skip
    split at h
    case h_2 => cases h
    rename_i h1
    rw [BE.same_eq h1, BE.same_eq h]

/-! ### What abstract values stand for -/
structure Dl where
  at_ : Nat → Option (Nat × Nat)
  cap : Nat → Option Nat

def Dl.le (δ δ' : Dl) : Prop := (∀ n x, δ.at_ n = some x → δ'.at_ n = some x) ∧ (∀ i x, δ.cap i = some x → δ'.cap i = some x)

theorem Dl.le_refl (δ : Dl) : δ.le δ := ⟨fun _ _ h => h, fun _ _ h => h⟩
theorem Dl.le_trans {a b c : Dl} (h : a.le b) (h' : b.le c) : a.le c := ⟨fun n x e => h'.1 n x (h.1 n x e), fun n x e => h'.2 n x (h.2 n x e)⟩

def CRel (δ : Dl) (c : CE) (v : Nat) : Prop := match c.a with
  | none => v = c.n
  | some i => ∃ x, δ.cap i = some x ∧ v = c.n + x

/-- The block that stands for none. -/
def gy : Nat := 0

/-- A slice of a row: n's block, from element lo on; `cap` elements are known there; maybe nil. -/
def SRel (δ : Dl) (n rm w : Nat) (lo len : Int) (exact : Bool) (cap : Int) (v : Value) : Prop :=
  0 ≤ lo ∧ 0 ≤ len ∧ len ≤ cap ∧ ∃ b o r cnt c : Nat, δ.at_ n = some (b, o) ∧ δ.cap rm = some r ∧ δ.cap (rm + 1) = some cnt ∧
    lo + cap ≤ cnt ∧ cap ≤ c ∧ (exact = true → cap = c) ∧
    ((c = 0 ∧ ∃ p, v = .slice p 0 0) ∨
     (b ≠ gy ∧ (lo.toNat + c) * w ≤ r ∧ v = .slice (some ⟨b, o + lo.toNat * w, none⟩) len.toNat c))

mutual
def VRel (ρ : Rho) (δ : Dl) : AV → Value → Prop
  | .int k e, v => v = .int k (e.den ρ)
  | .bool e, v => v = .bool (e.den ρ)
  | .raw u, v => v = u
  | .val i, v => v = ρ.val i ∧ v.oneCell' = true
  | .str e, v => v = .string (e.sv ρ).s
  | .nilp, v => v = .pointer none
  | .ptr n off, v => ∃ b o, δ.at_ n = some (b, o) ∧ v = .pointer (some ⟨b, o + off, none⟩)
  | .nils, v => v = .slice none 0 0
  | .ptrx n rm w ix f, v => ∃ b o cnt, δ.at_ n = some (b, o) ∧ δ.cap (rm + 1) = some cnt ∧ (ix.den ρ).toNat < cnt ∧ v = .pointer (some ⟨b, o + ((ix.den ρ).toNat * w + f), none⟩)
  | .sl n rm w lo len exact cap, v => SRel δ n rm w (lo.den ρ) (len.den ρ) exact (cap.den ρ) v
  | .slice n off len cap, v => ∃ b o c, δ.at_ n = some (b, o) ∧ CRel δ cap c ∧ v = .slice (some ⟨b, o + off, none⟩) (len.den ρ) c
  | .func fn fs cs, v => ∃ f c, v = .func fn f c ∧ VRels ρ δ fs f.toList ∧ VRels ρ δ cs c.toList
  | .iface t a, v => ∃ u, v = .iface t u ∧ VRel ρ δ a u
  | .agg cs, v => ∃ us, v = .agg us ∧ VRels ρ δ cs us.toList
  | .tup cs, v => ∃ us, v = .tuple us ∧ VRels ρ δ cs us.toList
  | .map n, v => ∃ b o, δ.at_ n = some (b, o) ∧ v = .map (some b)
def VRels (ρ : Rho) (δ : Dl) : List AV → List Value → Prop
  | [], vs => vs = []
  | a :: as, vs => ∃ u us, vs = u :: us ∧ VRel ρ δ a u ∧ VRels ρ δ as us
end

section
variable {ρ : Rho} {δ δ' : Dl}

theorem CRel.mono (h : δ.le δ') {c : CE} {v : Nat} (hc : CRel δ c v) : CRel δ' c v := by
  unfold CRel at *
  split
  · rename_i e; rw [e] at hc; exact hc
  · rename_i i e; rw [e] at hc; obtain ⟨x, h1, h2⟩ := hc; exact ⟨x, h.2 _ _ h1, h2⟩

theorem SRel.mono (h : δ.le δ') {n rm w : Nat} {lo len : Int} {exact : Bool} {cap : Int} {v : Value} (hv : SRel δ n rm w lo len exact cap v) : SRel δ' n rm w lo len exact cap v := by
  obtain ⟨h0, h1, h2, b, o, r, cnt, c, h3, h4, h5, h6⟩ := hv
  exact ⟨h0, h1, h2, b, o, r, cnt, c, h.1 _ _ h3, h.2 _ _ h4, h.2 _ _ h5, h6⟩

mutual
theorem VRel.mono (h : δ.le δ') : ∀ (a : AV) (v : Value), VRel ρ δ a v → VRel ρ δ' a v
  | .int k e, v, hv => by simpa only [VRel] using hv
  | .bool e, v, hv => by simpa only [VRel] using hv
  | .raw u, v, hv => by simpa only [VRel] using hv
  | .val i, v, hv => by simpa only [VRel] using hv
  | .str e, v, hv => by simpa only [VRel] using hv
  | .ptrx n rm w ix f, v, hv => by simp only [VRel] at *; obtain ⟨b, o, c, h1, h2, h3⟩ := hv; exact ⟨b, o, c, h.1 _ _ h1, h.2 _ _ h2, h3⟩
  | .sl n rm w lo len exact cap, v, hv => by simp only [VRel] at *; exact hv.mono h
  | .nilp, v, hv => by simpa only [VRel] using hv
  | .ptr n off, v, hv => by simp only [VRel] at *; obtain ⟨b, o, h1, h2⟩ := hv; exact ⟨b, o, h.1 _ _ h1, h2⟩
  | .nils, v, hv => by simpa only [VRel] using hv
  | .slice n off len cap, v, hv => by
    simp only [VRel] at *; obtain ⟨b, o, c, h1, h2, h3⟩ := hv; exact ⟨b, o, c, h.1 _ _ h1, h2.mono h, h3⟩
  | .func fn fs cs, v, hv => by
    simp only [VRel] at *; obtain ⟨f, c, h1, h2, h3⟩ := hv; exact ⟨f, c, h1, VRels.mono h _ _ h2, VRels.mono h _ _ h3⟩
  | .iface t a, v, hv => by simp only [VRel] at *; obtain ⟨u, h1, h2⟩ := hv; exact ⟨u, h1, VRel.mono h _ _ h2⟩
  | .agg cs, v, hv => by simp only [VRel] at *; obtain ⟨u, h1, h2⟩ := hv; exact ⟨u, h1, VRels.mono h _ _ h2⟩
  | .tup cs, v, hv => by simp only [VRel] at *; obtain ⟨u, h1, h2⟩ := hv; exact ⟨u, h1, VRels.mono h _ _ h2⟩
  | .map n, v, hv => by simp only [VRel] at *; obtain ⟨b, o, h1, h2⟩ := hv; exact ⟨b, o, h.1 _ _ h1, h2⟩
theorem VRels.mono (h : δ.le δ') : ∀ (as : List AV) (vs : List Value), VRels ρ δ as vs → VRels ρ δ' as vs
  | [], vs, hv => by simpa only [VRels] using hv
  | a :: as, vs, hv => by
    simp only [VRels] at *; obtain ⟨u, us, h1, h2, h3⟩ := hv; exact ⟨u, us, h1, VRel.mono h _ _ h2, VRels.mono h _ _ h3⟩
end

theorem VRels.length {as : List AV} {vs : List Value} (h : VRels ρ δ as vs) : as.length = vs.length := by
  induction as generalizing vs with
  | nil => simp only [VRels] at h; subst h; rfl
  | cons a as ih => simp only [VRels] at h; obtain ⟨u, us, rfl, _, h3⟩ := h; simp [ih h3]

theorem VRels.get {as : List AV} {vs : List Value} (h : VRels ρ δ as vs) {j : Nat} {a : AV} (ha : as[j]? = some a) : ∃ u, vs[j]? = some u ∧ VRel ρ δ a u := by
  induction as generalizing vs j with
  | nil => simp at ha
  | cons x as ih =>
    simp only [VRels] at h
    obtain ⟨u, us, rfl, h2, h3⟩ := h
    cases j with
    | zero => simp at ha; subst ha; exact ⟨u, by simp, h2⟩
    | succ j => obtain ⟨w, h4, h5⟩ := ih h3 (by simpa using ha); exact ⟨w, by simpa using h4, h5⟩

theorem VRels.of_get {as : List AV} {vs : List Value} (hl : as.length = vs.length) (h : ∀ (j : Nat) (a : AV) (u : Value), as[j]? = some a → vs[j]? = some u → VRel ρ δ a u) : VRels ρ δ as vs := by
  induction as generalizing vs with
  | nil => cases vs with
    | nil => simp [VRels]
    | cons => simp at hl
  | cons a as ih => cases vs with
    | nil => simp at hl
    | cons v vs =>
      simp only [VRels]
      exact ⟨v, vs, rfl, h 0 a v (by simp) (by simp), ih (by simpa using hl) fun j a u h1 h2 => h (j + 1) a u (by simpa using h1) (by simpa using h2)⟩

theorem VRels.append {as bs : List AV} {vs us : List Value} (h : VRels ρ δ as vs) (h' : VRels ρ δ bs us) : VRels ρ δ (as ++ bs) (vs ++ us) := by
  induction as generalizing vs with
  | nil => simp only [VRels] at h; subst h; simpa using h'
  | cons a as ih => simp only [VRels] at h; obtain ⟨u, w, rfl, h2, h3⟩ := h; simp only [List.cons_append, VRels]; exact ⟨_, _, rfl, h2, ih h3⟩

theorem VRels.take {as : List AV} {vs : List Value} (h : VRels ρ δ as vs) (n : Nat) : VRels ρ δ (as.take n) (vs.take n) := by
  induction as generalizing vs n with
  | nil => simp only [VRels] at h; subst h; simp [VRels]
  | cons a as ih =>
    simp only [VRels] at h; obtain ⟨u, w, rfl, h2, h3⟩ := h
    cases n with
    | zero => simp [VRels]
    | succ n => simp only [List.take_succ_cons, VRels]; exact ⟨_, _, rfl, h2, ih h3 n⟩

theorem VRels.drop {as : List AV} {vs : List Value} (h : VRels ρ δ as vs) (n : Nat) : VRels ρ δ (as.drop n) (vs.drop n) := by
  induction as generalizing vs n with
  | nil => simp only [VRels] at h; subst h; simp [VRels]
  | cons a as ih =>
    simp only [VRels] at h; obtain ⟨u, w, rfl, h2, h3⟩ := h
    cases n with
    | zero => simp only [List.drop_zero, VRels]; exact ⟨_, _, rfl, h2, h3⟩
    | succ n => simp only [List.drop_succ_cons]; exact ih h3 n

theorem VRels.set {as : List AV} {vs : List Value} (h : VRels ρ δ as vs) (n : Nat) {a : AV} {v : Value} (ha : VRel ρ δ a v) : VRels ρ δ (as.set n a) (vs.set n v) := by
  induction as generalizing vs n with
  | nil => simp only [VRels] at h; subst h; simp [VRels]
  | cons x as ih =>
    simp only [VRels] at h; obtain ⟨u, w, rfl, h2, h3⟩ := h
    cases n with
    | zero => simp only [List.set_cons_zero, VRels]; exact ⟨_, _, rfl, ha, h3⟩
    | succ n => simp only [List.set_cons_succ, VRels]; exact ⟨_, _, rfl, h2, ih h3 n⟩

theorem VRel.of (v : Value) : VRel ρ δ (AV.of v) v := by
  unfold AV.of
  split
  · simp [VRel, IE.den, IE.sv, SV.ofI, SV.i]
  · simp [VRel, BE.den]
  · simp [VRel]
  · simp [VRel]
  · split
    · rename_i h
      simp only [VRel, VRels]
      exact ⟨_, rfl, h⟩
    · simp [VRel]
  · simp [VRel]

theorem VRels.of (vs : List Value) : VRels ρ δ (vs.map AV.of) vs := by
  induction vs with
  | nil => simp [VRels]
  | cons v vs ih => simp only [List.map_cons, VRels]; exact ⟨_, _, rfl, VRel.of v, ih⟩

theorem VRel.ofV (v : Value) : VRel ρ δ (AV.ofV v) v := by
  unfold AV.ofV
  split
  · simp only [VRel]; exact ⟨_, rfl, VRels.of _⟩
  · exact VRel.of _

theorem VRel.cells {a : AV} {v : Value} (h : VRel ρ δ a v) : VRels ρ δ a.cells v.cells.toList := by
  cases a <;> simp only [VRel] at h
  case agg cs => obtain ⟨us, rfl, h2⟩ := h; simpa [AV.cells, Value.cells] using h2
  case raw u =>
    subst h
    cases v with
    | agg cs => simpa [AV.cells, Value.cells] using VRels.of cs.toList
    | _ => simp [AV.cells, Value.cells, VRels, VRel]
  case int k e => subst h; simp [AV.cells, Value.cells, VRels, VRel]
  case bool e => subst h; simp [AV.cells, Value.cells, VRels, VRel]
  case str e => subst h; simp [AV.cells, Value.cells, VRels, VRel]
  case val i =>
    obtain ⟨rfl, h2⟩ := h
    have h3 : Value.cells (ρ.val i) = #[ρ.val i] := by
      generalize ρ.val i = v at h2
      cases v <;> first | rfl | cases h2
    rw [h3]; simp [AV.cells, VRels, VRel, h2]
  case ptrx n rm w ix f => obtain ⟨b, o, c, h1, h2, h3, rfl⟩ := h; simp only [AV.cells, Value.cells, VRels, VRel]; exact ⟨_, _, rfl, ⟨b, o, c, h1, h2, h3, rfl⟩, rfl⟩
  case sl =>
    have h' := h
    obtain ⟨_, _, _, b, o, r, cnt, c, _, _, _, _, _, _, h1⟩ := h
    have h3 : v.cells = #[v] := by rcases h1 with ⟨_, p, rfl⟩ | ⟨_, _, rfl⟩ <;> rfl
    rw [h3]; simp only [AV.cells, VRels, VRel]; exact ⟨_, _, rfl, h', rfl⟩
  case nilp => subst h; simp [AV.cells, Value.cells, VRels, VRel]
  case nils => subst h; simp [AV.cells, Value.cells, VRels, VRel]
  case ptr n off => obtain ⟨b, o, h1, rfl⟩ := h; simp only [AV.cells, Value.cells, VRels, VRel]; exact ⟨_, _, rfl, ⟨b, o, h1, rfl⟩, rfl⟩
  case map n => obtain ⟨b, o, h1, rfl⟩ := h; simp only [AV.cells, Value.cells, VRels, VRel]; exact ⟨_, _, rfl, ⟨b, o, h1, rfl⟩, rfl⟩
  case slice n off l c => obtain ⟨b, o, c, h1, h2, rfl⟩ := h; simp only [AV.cells, Value.cells, VRels, VRel]; exact ⟨_, _, rfl, ⟨b, o, _, h1, h2, rfl⟩, rfl⟩
  case func fn fs cs => obtain ⟨f, c, rfl, h1, h2⟩ := h; simp only [AV.cells, Value.cells, VRels, VRel]; exact ⟨_, _, rfl, ⟨_, _, rfl, h1, h2⟩, rfl⟩
  case iface t a => obtain ⟨u, rfl, h1⟩ := h; simp only [AV.cells, Value.cells, VRels, VRel]; exact ⟨_, _, rfl, ⟨_, rfl, h1⟩, rfl⟩
  case tup cs => obtain ⟨us, rfl, h1⟩ := h; simp only [AV.cells, Value.cells, VRels, VRel]; exact ⟨_, _, rfl, ⟨_, rfl, h1⟩, rfl⟩

theorem VRel.oneCell {a : AV} {v : Value} (h : VRel ρ δ a v) (ha : a.oneCell = true) : v.oneCell' = true := by
  cases a <;> simp only [VRel] at h <;> simp only [AV.oneCell] at ha
  case agg => cases ha
  case tup => cases ha
  case raw u => subst h; cases v <;> first | rfl | cases ha
  case int => subst h; rfl
  case bool => subst h; rfl
  case str => subst h; rfl
  case val => exact h.2
  case ptrx => obtain ⟨_, _, _, _, _, _, rfl⟩ := h; rfl
  case sl =>
    obtain ⟨_, _, _, b, o, r, cnt, c, _, _, _, _, _, _, h1⟩ := h
    rcases h1 with ⟨_, p, rfl⟩ | ⟨_, _, rfl⟩ <;> rfl
  case nilp => subst h; rfl
  case nils => subst h; rfl
  case ptr => obtain ⟨_, _, _, rfl⟩ := h; rfl
  case map => obtain ⟨_, _, _, rfl⟩ := h; rfl
  case slice => obtain ⟨_, _, _, _, _, rfl⟩ := h; rfl
  case func => obtain ⟨_, _, rfl, _, _⟩ := h; rfl
  case iface => obtain ⟨_, rfl, _⟩ := h; rfl
end

/-- The value of a row's cell. -/
def CK.val : CK → SV → Value
  | .int k, e => .int k e.i
  | .bool, e => .bool (decide (e.i ≠ 0))
  | .str, e => .string e.s

/-- A part of a row's element. -/
def SV.part (w f : Nat) (e : SV) : SV := match Nat.beq w 1 with
  | true => e
  | false => e.l.getD f .nul

/-! ### What abstract memory stands for -/
def ABlk.live : ABlk → Bool
  | .dead => false
  | _ => true
def ABlk.rw : ABlk → Bool
  | .dead => false
  | .cells _ _ _ _ rw => rw
  | .seq _ _ _ _ rw => rw

def ABlk.solid : ABlk → Bool
  | .cells _ _ _ _ true => true
  | _ => false
theorem ABlk.rw_of_solid {b : ABlk} (h : b.solid = true) : b.rw = true := by
  cases b with
  | cells cs n e t rw => cases rw <;> first | rfl | cases h
  | _ => cases h

/-- The cells of a block (what it was made for is known where it is written). -/
def HAt (w : World) (b : Nat) (cur : Array Value) (elem : TypeId) (fr : Nat × Nat) (rw : Bool) : Prop := ∃ el, w.heap[b]? = some (.cells cur el fr) ∧ (rw = true → el = elem)

theorem HAt.mk {w : World} {b : Nat} {cur : Array Value} {elem : TypeId} {fr : Nat × Nat} {rw : Bool} (h : w.heap[b]? = some (.cells cur elem fr)) : HAt w b cur elem fr rw := ⟨elem, h, fun _ => rfl⟩

theorem HAt.congr {w w' : World} {b : Nat} {cur : Array Value} {elem : TypeId} {fr : Nat × Nat} {rw : Bool} (h : HAt w b cur elem fr rw) (e : w'.heap[b]? = w.heap[b]?) : HAt w' b cur elem fr rw := by
  obtain ⟨el, h1, h2⟩ := h
  exact ⟨el, by rw [e]; exact h1, h2⟩

def BRep (ρ : Rho) (δ : Dl) (w : World) (nm : Nat) : ABlk → Prop
  | .dead => True
  | .cells cs n elem tl rw => ∃ b o cur fr, δ.at_ nm = some (b, o) ∧ HAt w b cur elem fr rw ∧
      (∀ i a, cs.get i = some a → ∃ u, cur[o + i]? = some u ∧ VRel ρ δ a u) ∧ (rw = true → fr = (0, 0) ∧ b ≠ gy) ∧ o + n ≤ cur.size ∧
      (match tl with
       | .exact => o = 0 ∧ cur.size = n
       | .more i s => ∃ x, δ.cap i = some x ∧ o + n + s * x ≤ cur.size
       | .unknown => True)
  | .seq q row elem rm rw => ∃ b o r, δ.at_ nm = some (b, o) ∧ δ.cap rm = some r ∧ δ.cap (rm + 1) = some (q.sv ρ).l.length ∧
      ((b = gy ∧ (q.sv ρ).l = []) ∨ (b ≠ gy ∧ ∃ cur fr, HAt w b cur elem fr rw ∧
        (∀ i e, (q.sv ρ).l[i]? = some e → ∀ f ck, row[f]? = some ck → cur[o + (i * row.length + f)]? = some (ck.val (e.part row.length f))) ∧
        (rw = true → fr = (0, 0)) ∧ o + r ≤ cur.size ∧ (q.sv ρ).l.length * row.length ≤ r))

structure HRep (ρ : Rho) (δ : Dl) (hs : HS) (w : World) : Prop where
  blk : ∀ n b, hs.heap.get n = some b → BRep ρ δ w n b
  sep : ∀ n m b c x y o o', hs.heap.get n = some b → hs.heap.get m = some c → n ≠ m → b.rw = true → c.live = true →
    δ.at_ n = some (x, o) → δ.at_ m = some (y, o') → x ≠ gy → x ≠ y
  freshN : ∀ n, hs.nx ≤ n → δ.at_ n = none
  freshC : ∀ i, hs.nc ≤ i → δ.cap i = none
  glob : ∀ g, g < gbound → δ.at_ g = some (g, 0)
  nx : gbound ≤ hs.nx
  pos : gy < w.heap.size

structure TRep (ρ : Rho) (δ : Dl) (nt : Nat) (tm : TM) (a : Act) : Prop where
  dfr : a.defers = []
  size : a.tmps.size = nt
  val : ∀ t v, tm.get t = some v → ∃ u, a.tmps[t]? = some u ∧ VRel ρ δ v u

/-- How memory may go on. -/
structure Evo (δ : Dl) (hs : HS) (w : World) (δ' : Dl) (hs' : HS) (w' : World) : Prop where
  le : δ.le δ'
  size : w.heap.size ≤ w'.heap.size
  unch : ∀ b, b < w.heap.size → (b ≠ gy → ∀ n o blk, hs.heap.get n = some blk → blk.rw = true → δ.at_ n = some (b, o) → False) → w'.heap[b]? = w.heap[b]?
  live : ∀ n blk b o, hs'.heap.get n = some blk → blk.live = true → δ'.at_ n = some (b, o) →
    b ≠ gy → w.heap.size ≤ b ∨ ∃ n0 blk0 o0, hs.heap.get n0 = some blk0 ∧ blk0.live = true ∧ (blk.rw = true → blk0.rw = true) ∧ δ.at_ n0 = some (b, o0)
  nx : hs.nx ≤ hs'.nx
  nc : hs.nc ≤ hs'.nc
  new : ∀ n x, δ'.at_ n = some x → δ.at_ n = some x ∨ (hs.nx ≤ n ∧ n < hs'.nx)
  os : w'.os = w.os
  tape : w'.tape = w.tape
  output : w'.output = w.output

def PCh (ρ : Rho) (pc : PC) : Prop := ∀ x ∈ pc, x.1.den ρ = x.2

section
variable {ρ : Rho} {δ δ' δ'' : Dl} {hs hs' hs'' : HS} {w w' w'' : World}

theorem Evo.refl : Evo δ hs w δ hs w where
  le := δ.le_refl
  size := Nat.le_refl _
  unch := fun _ _ _ => rfl
  live := fun n blk _ o h1 h2 h3 _ => .inr ⟨n, blk, o, h1, h2, id, h3⟩
  nx := Nat.le_refl _
  nc := Nat.le_refl _
  new := fun _ _ h => .inl h
  os := rfl
  tape := rfl
  output := rfl

theorem Evo.trans (h : Evo δ hs w δ' hs' w') (h' : Evo δ' hs' w' δ'' hs'' w'') : Evo δ hs w δ'' hs'' w'' where
  le := Dl.le_trans h.le h'.le
  size := Nat.le_trans h.size h'.size
  unch := fun b hb hn => by
    rw [h'.unch b (Nat.lt_of_lt_of_le hb h.size) ?_, h.unch b hb hn]
    intro hbg n o blk h1 h2 h3
    rcases h.live n blk b o h1 (by cases blk <;> first | rfl | cases h2) h3 hbg with h4 | ⟨n0, blk0, o0, h5, h6, h7, h8⟩
    · omega
    · exact hn hbg n0 o0 blk0 h5 (h7 h2) h8
  live := fun n blk b o h1 h2 h3 hbg => by
    rcases h'.live n blk b o h1 h2 h3 hbg with h4 | ⟨n0, blk0, o0, h5, h6, h7, h8⟩
    · exact .inl (Nat.le_trans h.size h4)
    · rcases h.live n0 blk0 b o0 h5 h6 h8 hbg with h9 | ⟨n1, blk1, o1, h10, h11, h12, h13⟩
      · exact .inl h9
      · exact .inr ⟨n1, blk1, o1, h10, h11, fun e => h12 (h7 e), h13⟩
  nx := Nat.le_trans h.nx h'.nx
  nc := Nat.le_trans h.nc h'.nc
  new := fun n x e => by
    rcases h'.new n x e with e' | ⟨h1, h2⟩
    · rcases h.new n x e' with e'' | ⟨h3, h4⟩
      · exact .inl e''
      · exact .inr ⟨h3, Nat.lt_of_lt_of_le h4 h'.nx⟩
    · exact .inr ⟨Nat.le_trans h.nx h1, h2⟩
  os := h'.os.trans h.os
  tape := h'.tape.trans h.tape
  output := h'.output.trans h.output

theorem BRep.mono_le (h : δ.le δ') {n : Nat} {b : ABlk} (hb : BRep ρ δ w n b) : BRep ρ δ' w n b := by
  cases b with
  | dead => trivial
  | cells cs m elem tl rw =>
    obtain ⟨b, o, cur, fr, h1, h2, h3, h4, h5, h6⟩ := hb
    refine ⟨b, o, cur, fr, h.1 _ _ h1, h2, fun i a hi => ?_, h4, h5, ?_⟩
    · obtain ⟨u, h7, h8⟩ := h3 i a hi; exact ⟨u, h7, VRel.mono h _ _ h8⟩
    · cases tl with
      | exact => exact h6
      | more i s => obtain ⟨x, h7, h8⟩ := h6; exact ⟨x, h.2 _ _ h7, h8⟩
      | unknown => trivial
  | seq q row elem rm rw =>
    obtain ⟨b, o, r, h1, h2, h3, h4⟩ := hb
    exact ⟨b, o, r, h.1 _ _ h1, h.2 _ _ h2, h.2 _ _ h3, h4⟩

theorem BRep.solid {n x o : Nat} {b : ABlk} (hb : BRep ρ δ w n b) (h : b.solid = true) (ha : δ.at_ n = some (x, o)) : x ≠ gy := by
  cases b with
  | cells cs m e t rw =>
    cases rw with
    | false => cases h
    | true =>
      obtain ⟨b', o', cur, fr, h1, h2, h3, h4, _⟩ := hb
      rw [ha] at h1
      injection h1 with h1
      have h1 : x = b' := congrArg Prod.fst h1
      rw [h1]; exact (h4 rfl).2
  | _ => cases h

/-- A block that stands as it stood. -/
theorem BRep.keep {n : Nat} {b : ABlk} (hb : BRep ρ δ w n b) (h : ∀ x o, δ.at_ n = some (x, o) → b.live = true → w'.heap[x]? = w.heap[x]?) : BRep ρ δ w' n b := by
  cases b with
  | dead => trivial
  | cells cs m elem tl rw =>
    obtain ⟨b, o, cur, fr, h1, h2, h3, h4, h5, h6⟩ := hb
    exact ⟨b, o, cur, fr, h1, h2.congr (h b o h1 rfl), h3, h4, h5, h6⟩
  | seq q row elem rm rw =>
    obtain ⟨b, o, r, h1, h2, h2', h3⟩ := hb
    refine ⟨b, o, r, h1, h2, h2', ?_⟩
    rcases h3 with h3 | ⟨h3, cur, fr, h4, h5⟩
    · exact .inl h3
    · exact .inr ⟨h3, cur, fr, h4.congr (h b o h1 rfl), h5⟩

theorem TRep.mono {nt : Nat} {tm : TM} {a : Act} (h : δ.le δ') (ht : TRep ρ δ nt tm a) : TRep ρ δ' nt tm a :=
  ⟨ht.dfr, ht.size, fun t v hv => let ⟨u, h1, h2⟩ := ht.val t v hv; ⟨u, h1, VRel.mono h _ _ h2⟩⟩

theorem TRep.put {nt : Nat} {tm tm' : TM} {a : Act} (ht : TRep ρ δ nt tm a) {d : Option Tmp} {v : AV} {u : Value} (hp : put nt tm d v = some tm') (hv : VRel ρ δ v u) :
    TRep ρ δ nt tm' (a.put d u) := by
  unfold Sx.put at hp
  cases d with
  | none => simp at hp; subst hp; simpa [Act.put] using ht
  | some d =>
    simp only at hp
    split at hp
    · rename_i hlt
      simp only [Option.some.injEq] at hp
      subst hp
      have hd : d < nt := by simpa [Nat.blt_eq] using hlt
      refine ⟨ht.dfr, by simp [Act.put, ht.size], fun t x hx => ?_⟩
      rw [T.get_set] at hx
      by_cases e : t = d
      · subst e
        simp at hx; subst hx
        exact ⟨u, by simp [Act.put, ht.size, hd], hv⟩
      · rw [if_neg e] at hx
        obtain ⟨y, h1, h2⟩ := ht.val t x hx
        refine ⟨y, ?_, h2⟩
        simp [Act.put, Array.getElem?_setIfInBounds_ne (Ne.symm e), h1]
    · cases hp

theorem den_lit (n : Int) : (IE.lit n).den ρ = n := rfl

theorem imp1_sound {c b : BE} {v r : Bool} (hc : c.den ρ = v) (h : imp1 c v b = some r) : b.den ρ = r := by
  unfold imp1 at h
  split at h
  · rename_i a m a' n
    split at h
    · cases h
    rename_i hs
    have := IE.same_eq hs
    subst this
    simp only [BE.den, intCmp, den_lit] at hc ⊢
    generalize a.den ρ = z at hc ⊢
    split at h
    · split at h
      · rename_i hd
        injection h with h
        have hd := of_decide_eq_true hd
        have hc := of_decide_eq_true hc
        subst h
        exact decide_eq_true (by omega)
      · cases h
    · split at h
      · rename_i hd
        injection h with h
        have hd := of_decide_eq_true hd
        have hc := of_decide_eq_false hc
        subst h
        exact decide_eq_false (by omega)
      · cases h
  · rename_i a m a' n
    split at h
    · rename_i hs
      have := IE.same_eq hs
      subst this
      injection h with h
      subst h
      simp only [BE.den, intCmp, den_lit] at hc ⊢
      generalize a.den ρ = z at hc ⊢
      have hc := eq_of_beq hc
      subst hc
      rfl
    · cases h
  · rename_i a m a' n
    split at h
    · cases h
    rename_i hs
    have := IE.same_eq hs
    subst this
    simp only [BE.den, intCmp, den_lit] at hc ⊢
    generalize a.den ρ = z at hc ⊢
    split at h
    · injection h with h
      subst h
      have hc := eq_of_beq hc
      rw [hc]; rfl
    · split at h
      · rename_i hd
        injection h with h
        subst h
        have hd := of_decide_eq_true hd
        subst hd
        exact hc
      · cases h
  · rename_i a m a' n
    split at h
    · cases h
    rename_i hs
    have := IE.same_eq hs
    subst this
    simp only [BE.den, intCmp, den_lit] at hc ⊢
    generalize a.den ρ = z at hc ⊢
    split at h
    · split at h
      · rename_i hd
        injection h with h
        have hd := of_decide_eq_true hd
        have hc := of_decide_eq_true hc
        subst h
        exact beq_eq_false_iff_ne.2 (by omega)
      · cases h
    · split at h
      · rename_i hd
        injection h with h
        have hd := of_decide_eq_true hd
        have hc := of_decide_eq_false hc
        subst h
        exact beq_eq_false_iff_ne.2 (by omega)
      · cases h
  · split at h
    · rename_i hs
      injection h with h
      subst h
      rw [← BE.same_eq hs]; exact hc
    · cases h

theorem PC.look_sound {b : BE} {v : Bool} : ∀ {pc : PC}, PCh ρ pc → PC.look pc b = some v → b.den ρ = v
  | [], _, h => by simp [PC.look] at h
  | (c, x) :: pc, hp, h => by
    simp only [PC.look] at h
    split at h
    · rename_i r hr
      injection h with h
      subst h
      exact imp1_sound (hp (c, x) List.mem_cons_self) hr
    · exact PC.look_sound (fun y hy => hp y (List.mem_cons_of_mem _ hy)) h

theorem nonneg_sound {e : IE} (h : nonneg e = true) : 0 ≤ e.den ρ := by
  unfold nonneg at h
  split at h
  · rename_i as
    simp only [IE.den, IE.sv]
    unfold Prim.den
    split <;> simp_all [SV.ofI, SV.i, SV.nul]
  · rename_i as
    simp only [IE.den, IE.sv]
    unfold Prim.den
    split <;> simp_all [SV.ofI, SV.i, SV.nul]
  · rename_i as
    simp only [IE.den, IE.sv]
    unfold Prim.den
    split <;> simp_all [SV.ofI, SV.i, SV.nul]
  · rename_i k a
    simp only [IE.den, IE.sv, SV.ofI, SV.i]
    split at h
    all_goals first | (unfold IntKind.wrap; simp [IntKind.signed, IntKind.bits]; omega) | cases h
  · cases h

theorem decA_sound {pc : PC} {b : BE} {v : Bool} (hp : PCh ρ pc) (h : decA pc b = some v) : b.den ρ = v := by
  unfold decA at h
  split at h
  · rename_i r hr
    injection h with h
    subst h
    exact PC.look_sound hp hr
  · split at h
    · rename_i a n _
      split at h
      · rename_i h1 h2
        injection h with h
        subst h
        have h2 := of_decide_eq_true h2
        have := nonneg_sound (ρ := ρ) h1
        simp only [BE.den, intCmp]
        have e : (IE.lit n).den ρ = n := rfl
        rw [e]
        exact decide_eq_false (by omega)
      · cases h
    · cases h

theorem dec_sound {pc : PC} {b : BE} {v : Bool} (hp : PCh ρ pc) (h : dec pc b = some v) : b.den ρ = v := by
  unfold dec at h
  split at h
  · injection h
  · split at h
    · rename_i c x hx
      injection h with h
      have := decA_sound hp hx
      rw [BE.den, this, h]
    · exact PC.look_sound hp h
  · exact decA_sound hp h

theorem PCh.cons {pc : PC} {b : BE} {v : Bool} (hp : PCh ρ pc) (h : b.den ρ = v) : PCh ρ (pcAdd pc b v) := fun x hx => by
  unfold pcAdd at hx
  split at hx
  · rename_i c
    rcases List.mem_cons.1 hx with e | hx
    · subst e
      simp only [BE.den] at h ⊢
      rw [← h]; simp
    · exact hp x hx
  · rcases List.mem_cons.1 hx with e | hx
    · subst e; exact h
    · exact hp x hx
end
end Go.Sx
