/- An executor for the model's Go code over an abstract state: nil slices as rows. -/
import Derived.Test.YtkgmobbbcigcjaaGreatDoorSx25
namespace Go.Sx
set_option linter.unusedVariables false

/-- Where a slice lies that may be nil: in a temporary; in a block that a temporary points to. -/
inductive Place where
  | tmp (t : Nat)
  | cell (t i : Nat)

structure Coe where
  at_ : Place
  row : List CK
  elem : TypeId

def rowNilHS (hs : HS) (row : List CK) (elem : TypeId) : HS :=
  { heap := hs.heap.set hs.nx (.seq (.prim .row []) row elem hs.nc true), nx := hs.nx + 1, nc := hs.nc + 2 }

def nilRow (hs : HS) (row : List CK) : AV := .sl hs.nx hs.nc row.length (.lit 0) (.lit 0) false (.lit 0)

def coe1 (c : Coe) (tm : TM) (hs : HS) : Option (TM × HS) := match c.at_ with
  | .tmp t => match tm.get t with
    | some .nils => some (tm.set t (nilRow hs c.row), rowNilHS hs c.row c.elem)
    | some _ => some (tm, hs)
    | none => none
  | .cell t i => match tm.get t with
    | some (.ptr n off) => match hs.heap.get n with
      | some (.cells cs m e tl rw) => match cs.get (off + i) with
        | some .nils => some (tm, { (rowNilHS hs c.row c.elem) with heap := (rowNilHS hs c.row c.elem).heap.set n (.cells (cs.set (off + i) (nilRow hs c.row)) m e tl rw) })
        | some _ => some (tm, hs)
        | none => none
      | _ => none
    | _ => none

def coes : List Coe → TM → HS → Option (TM × HS)
  | [], tm, hs => some (tm, hs)
  | c :: cs, tm, hs => match coe1 c tm hs with
    | some (tm, hs) => coes cs tm hs
    | none => none

section
variable {ρ : Rho} {δ : Dl} {hs : HS} {w : World}

theorem TRep.reset {nt : Nat} {tm : TM} {a : Act} {t : Nat} {x y : AV} (ht : TRep ρ δ nt tm a) (hx : tm.get t = some x) (h : ∀ u, VRel ρ δ x u → VRel ρ δ y u) : TRep ρ δ nt (tm.set t y) a := by
  refine ⟨ht.dfr, ht.size, fun t' v hv => ?_⟩
  rw [T.get_set] at hv
  by_cases e : t' = t
  · rw [if_pos e] at hv
    injection hv with hv
    subst hv e
    obtain ⟨u, h1, h2⟩ := ht.val _ _ hx
    exact ⟨u, h1, h u h2⟩
  · rw [if_neg e] at hv
    exact ht.val _ _ hv

theorem HRep.recell (hr : HRep ρ δ hs w) {n m i : Nat} {cs : T AV} {e : TypeId} {tl : Tail} {rw' : Bool} {x y : AV} (hn : hs.heap.get n = some (.cells cs m e tl rw')) (hx : cs.get i = some x)
    (h : ∀ u, VRel ρ δ x u → VRel ρ δ y u) :
    HRep ρ δ { hs with heap := hs.heap.set n (.cells (cs.set i y) m e tl rw') } w ∧ Evo δ hs w δ { hs with heap := hs.heap.set n (.cells (cs.set i y) m e tl rw') } w := by
  have hg : ∀ k b, (hs.heap.set n (.cells (cs.set i y) m e tl rw')).get k = some b → ∃ b0, hs.heap.get k = some b0 ∧ b0.live = b.live ∧ b0.rw = b.rw ∧ BRep ρ δ w k b := by
    intro k b hb
    rw [T.get_set] at hb
    by_cases ek : k = n
    · rw [if_pos ek] at hb
      injection hb with hb
      subst hb ek
      refine ⟨_, hn, rfl, rfl, ?_⟩
      obtain ⟨b, o, cur, fr, h1, h2, h3, h4⟩ := hr.blk _ _ hn
      refine ⟨b, o, cur, fr, h1, h2, fun j a ha => ?_, h4⟩
      rw [T.get_set] at ha
      by_cases ej : j = i
      · rw [if_pos ej] at ha
        injection ha with ha
        subst ha ej
        obtain ⟨u, g1, g2⟩ := h3 _ _ hx
        exact ⟨u, g1, h u g2⟩
      · rw [if_neg ej] at ha
        exact h3 _ _ ha
    · rw [if_neg ek] at hb
      exact ⟨b, hb, rfl, rfl, hr.blk _ _ hb⟩
  constructor
  · refine ⟨fun k b hb => ?_, ?_, hr.freshN, hr.freshC, hr.glob, hr.nx, hr.pos⟩
    · obtain ⟨_, _, _, _, h⟩ := hg k b hb; exact h
    · intro n1 m1 b c x1 y1 o o' h1 h2 hne hrw hlv hx1 hy1 hxg
      obtain ⟨b0, g1, _, g3, _⟩ := hg n1 b h1
      obtain ⟨c0, k1, k2, _, _⟩ := hg m1 c h2
      exact hr.sep n1 m1 b0 c0 x1 y1 o o' g1 k1 hne (by rw [g3]; exact hrw) (by rw [k2]; exact hlv) hx1 hy1 hxg
  · exact { le := δ.le_refl, size := Nat.le_refl _, unch := fun _ _ _ => rfl
            live := fun k b x1 o h1 h2 h3 _ => by
              obtain ⟨b0, g1, g2, g3, _⟩ := hg k b h1
              exact .inr ⟨k, b0, o, g1, by rw [g2]; exact h2, fun e => by rw [g3]; exact e, h3⟩
            nx := Nat.le_refl _, nc := Nat.le_refl _, new := fun _ _ h => .inl h, os := rfl, tape := rfl, output := rfl }

theorem rowNilHS_sound (hr : HRep ρ δ hs w) (row : List CK) (elem : TypeId) : ∃ δ', HRep ρ δ' (rowNilHS hs row elem) w ∧ Evo δ hs w δ' (rowNilHS hs row elem) w ∧ ∀ u, u = .slice none 0 0 → VRel ρ δ' (nilRow hs row) u := by
  have hq : ((IE.prim .row []).sv ρ).l = [] := by simp [IE.sv, IE.svs, Prim.den, SV.ofL, SV.l]
  obtain ⟨δ', h1, h2, h3, h4, h5⟩ := hr.rowNil (row := row) (elem := elem) (H := hs.heap.set hs.nx (.seq (.prim .row []) row elem hs.nc true)) hq (fun k blk hk => by
    rw [T.get_set] at hk
    by_cases e : k = hs.nx
    · rw [if_pos e] at hk
      injection hk with hk
      exact .inl ⟨e, hk.symm⟩
    · rw [if_neg e] at hk
      exact .inr (.inr ⟨e, hk⟩))
  refine ⟨δ', h1, h2, fun u hu => ?_⟩
  rw [hq] at h5
  subst hu
  simp only [nilRow, VRel, den_lit]
  exact ⟨Int.le_refl _, Int.le_refl _, Int.le_refl _, gy, 0, 0, 0, 0, h3, h4, h5, by simp, by simp, fun e => (by cases e), .inl ⟨rfl, none, rfl⟩⟩

theorem coe1_sound {nt : Nat} {c : Coe} {tm tm' : TM} {hs' : HS} {a : Act} (hr : HRep ρ δ hs w) (ht : TRep ρ δ nt tm a) (h : coe1 c tm hs = some (tm', hs')) :
    ∃ δ', HRep ρ δ' hs' w ∧ TRep ρ δ' nt tm' a ∧ Evo δ hs w δ' hs' w := by
  unfold coe1 at h
  split at h
  · rename_i t _
    split at h
    · rename_i hx
      injection h with h
      injection h with h1 h2
      subst h1 h2
      obtain ⟨δ', g1, g2, g3⟩ := rowNilHS_sound hr c.row c.elem
      exact ⟨δ', g1, (ht.mono g2.le).reset hx fun u hu => g3 u (by simpa only [VRel] using hu), g2⟩
    · injection h with h
      injection h with h1 h2
      subst h1 h2
      exact ⟨δ, hr, ht, Evo.refl⟩
    · cases h
  · rename_i t i _
    split at h
    case h_2 => cases h
    rename_i n off hx
    split at h
    case h_2 => cases h
    rename_i cs m e tl rw hn
    split at h
    · rename_i hc
      injection h with h
      injection h with h1 h2
      subst h1 h2
      obtain ⟨δ', g1, g2, g3⟩ := rowNilHS_sound hr c.row c.elem
      have hn' : (rowNilHS hs c.row c.elem).heap.get n = some (.cells cs m e tl rw) := by
        simp only [rowNilHS]
        rw [T.get_set, if_neg]
        · exact hn
        · intro e
          subst e
          obtain ⟨x, o, hxo⟩ := (hr.blk _ _ hn).bound rfl
          rw [hr.freshN _ (Nat.le_refl _)] at hxo
          cases hxo
      obtain ⟨k1, k2⟩ := g1.recell hn' hc (y := nilRow hs c.row) fun u hu => g3 u (by simpa only [VRel] using hu)
      exact ⟨δ', k1, ht.mono g2.le, g2.trans k2⟩
    · injection h with h
      injection h with h1 h2
      subst h1 h2
      exact ⟨δ, hr, ht, Evo.refl⟩
    · cases h

theorem coes_sound {nt : Nat} {a : Act} : ∀ (l : List Coe) (δ : Dl) (hs : HS) (tm tm' : TM) (hs' : HS), HRep ρ δ hs w → TRep ρ δ nt tm a → coes l tm hs = some (tm', hs') →
    ∃ δ', HRep ρ δ' hs' w ∧ TRep ρ δ' nt tm' a ∧ Evo δ hs w δ' hs' w
  | [], δ, hs, tm, tm', hs', hr, ht, h => by
    simp only [coes, Option.some.injEq, Prod.mk.injEq] at h
    obtain ⟨rfl, rfl⟩ := h
    exact ⟨δ, hr, ht, Evo.refl⟩
  | c :: l, δ, hs, tm, tm', hs', hr, ht, h => by
    simp only [coes] at h
    split at h
    · rename_i tm1 hs1 h1
      obtain ⟨δ1, g1, g2, g3⟩ := coe1_sound hr ht h1
      obtain ⟨δ2, k1, k2, k3⟩ := coes_sound l δ1 hs1 tm1 tm' hs' g1 g2 h
      exact ⟨δ2, k1, k2, g3.trans k3⟩
    · cases h
end
end Go.Sx
