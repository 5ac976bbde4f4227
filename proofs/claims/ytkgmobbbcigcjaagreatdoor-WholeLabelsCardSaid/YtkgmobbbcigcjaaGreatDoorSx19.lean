/- An executor for the model's Go code over an abstract state: patterns of states, and what stands for their parameters. -/
import Derived.Test.YtkgmobbbcigcjaaGreatDoorSx18
namespace Go.Sx
set_option linter.unusedVariables false

structure Sub where
  sv : T IE
  nm : T Nat
  cp : T Nat

mutual
def IE.inst (θ : T IE) : IE → Option IE
  | .lit n => some (.lit n)
  | .at i => θ.get i
  | .nat _ _ => none
  | .bin op k a b => match IE.inst θ a with
    | some a => match IE.inst θ b with
      | some b => some (mkBin op k a b)
      | none => none
    | none => none
  | .conv k a => match IE.inst θ a with
    | some a => some (mkConv k a)
    | none => none
  | .str s => some (.str s)
  | .prim p as => match IE.insts θ as with
    | some as => some (.prim p as)
    | none => none
  | .app f as => match IE.insts θ as with
    | some as => some (.app f as)
    | none => none
def IE.insts (θ : T IE) : List IE → Option (List IE)
  | [] => some []
  | a :: as => match IE.inst θ a with
    | some a => match IE.insts θ as with
      | some as => some (a :: as)
      | none => none
    | none => none
end

def BE.inst (θ : T IE) : BE → Option BE
  | .lit b => some (.lit b)
  | .at i => match θ.get i with
    | some e => some (.is e)
    | none => none
  | .cmp op a b => match IE.inst θ a, IE.inst θ b with
    | some a, some b => some (mkCmp op a b)
    | _, _ => none
  | .not a => match BE.inst θ a with
    | some a => some (.not a)
    | none => none
  | .is e => match IE.inst θ e with
    | some e => some (.is e)
    | none => none
  | .seq a b => match IE.inst θ a, IE.inst θ b with
    | some a, some b => some (.seq a b)
    | _, _ => none
  | .iff a b => match BE.inst θ a, BE.inst θ b with
    | some a, some b => some (.iff a b)
    | _, _ => none
  | .and a b => match BE.inst θ a, BE.inst θ b with
    | some a, some b => some (.and a b)
    | _, _ => none

def nmOf (θ : T Nat) (n : Nat) : Option Nat := match Nat.blt n gbound with
  | true => some n
  | false => θ.get n

def CE.inst (θ : T Nat) (c : CE) : Option CE := match c.a with
  | none => some c
  | some i => match θ.get i with
    | some j => some ⟨c.n, some j⟩
    | none => none

/-- Both atoms of a row. -/
def cp2 (θ : T Nat) (rm : Nat) : Option Nat := match θ.get rm, θ.get (rm + 1) with
  | some j, some j' => match Nat.beq j' (j + 1) with
    | true => some j
    | false => none
  | _, _ => none

mutual
def AV.inst (θ : Sub) : AV → Option AV
  | .int k e => match e.inst θ.sv with
    | some e => some (.int k e)
    | none => none
  | .bool e => match e.inst θ.sv with
    | some e => some (.bool e)
    | none => none
  | .raw v => some (.raw v)
  | .val _ => none
  | .str e => match e.inst θ.sv with
    | some e => some (.str e)
    | none => none
  | .nilp => some .nilp
  | .ptrx n rm w ix f => match nmOf θ.nm n, cp2 θ.cp rm, ix.inst θ.sv with
    | some n, some rm, some ix => some (.ptrx n rm w ix f)
    | _, _, _ => none
  | .sl n rm w lo len ex cap => match nmOf θ.nm n, cp2 θ.cp rm, lo.inst θ.sv, len.inst θ.sv, cap.inst θ.sv with
    | some n, some rm, some lo, some len, some cap => some (.sl n rm w lo len ex cap)
    | _, _, _, _, _ => none
  | .ptr n off => match nmOf θ.nm n with
    | some n => some (.ptr n off)
    | none => none
  | .nils => some .nils
  | .slice n off len cap => match nmOf θ.nm n, len.a, cap.inst θ.cp with
    | some n, none, some cap => some (.slice n off len cap)
    | _, _, _ => none
  | .func fn fs cs => match AV.insts θ fs with
    | some fs => match AV.insts θ cs with
      | some cs => some (.func fn fs cs)
      | none => none
    | none => none
  | .iface t a => match AV.inst θ a with
    | some a => some (.iface t a)
    | none => none
  | .agg cs => match AV.insts θ cs with
    | some cs => some (.agg cs)
    | none => none
  | .tup cs => match AV.insts θ cs with
    | some cs => some (.tup cs)
    | none => none
  | .map n => match nmOf θ.nm n with
    | some n => some (.map n)
    | none => none
def AV.insts (θ : Sub) : List AV → Option (List AV)
  | [] => some []
  | a :: as => match AV.inst θ a with
    | some a => match AV.insts θ as with
      | some as => some (a :: as)
      | none => none
    | none => none
end

/-- What a pattern's parameters stand for. -/
structure SubOK (θ : Sub) (ρP : Rho) (δP : Dl) (ρ : Rho) (δ : Dl) : Prop where
  fn : ρP.fn = ρ.fn
  sv : ∀ i e, θ.sv.get i = some e → e.sv ρ = ρP.sv i
  nm : ∀ n m, nmOf θ.nm n = some m → δP.at_ n = δ.at_ m
  cp : ∀ i j, θ.cp.get i = some j → δP.cap i = δ.cap j

section
variable {θ : Sub} {ρP ρ : Rho} {δP δ : Dl}

theorem mkBin_sv (op : BinOp) (k : IntKind) (a b : IE) : (mkBin op k a b).sv ρ = .ofI (intBin op k (a.sv ρ).i (b.sv ρ).i) := by
  unfold mkBin; split <;> simp [IE.sv, SV.ofI, SV.i]
theorem mkConv_sv (k : IntKind) (a : IE) : (mkConv k a).sv ρ = .ofI (k.wrap (a.sv ρ).i) := by
  unfold mkConv; split <;> simp [IE.sv, SV.ofI, SV.i]

mutual
theorem IE.inst_sv (hf : ρP.fn = ρ.fn) {t : T IE} (hs : ∀ i e, t.get i = some e → e.sv ρ = ρP.sv i) : ∀ (p e : IE), p.inst t = some e → e.sv ρ = p.sv ρP
  | .lit n, e, h => by simp [IE.inst] at h; subst h; simp [IE.sv]
  | .at i, e, h => by simp only [IE.inst] at h; simp only [IE.sv]; exact hs i e h
  | .nat _ _, e, h => by simp [IE.inst] at h
  | .bin op k a b, e, h => by
    simp only [IE.inst] at h
    split at h
    case h_2 => cases h
    rename_i a' ha
    split at h
    case h_2 => cases h
    rename_i b' hb
    simp only [Option.some.injEq] at h; subst h
    rw [mkBin_sv, IE.inst_sv hf hs a a' ha, IE.inst_sv hf hs b b' hb]
    simp only [IE.sv]
  | .conv k a, e, h => by
    simp only [IE.inst] at h
    split at h
    case h_2 => cases h
    rename_i a' ha
    simp only [Option.some.injEq] at h; subst h
    rw [mkConv_sv, IE.inst_sv hf hs a a' ha]
    simp only [IE.sv]
  | .str s, e, h => by simp [IE.inst] at h; subst h; simp [IE.sv]
  | .prim p as, e, h => by
    simp only [IE.inst] at h
    split at h
    case h_2 => cases h
    rename_i as' has
    simp only [Option.some.injEq] at h; subst h
    simp only [IE.sv]
    rw [IE.insts_svs hf hs as as' has]
  | .app f as, e, h => by
    simp only [IE.inst] at h
    split at h
    case h_2 => cases h
    rename_i as' has
    simp only [Option.some.injEq] at h; subst h
    simp only [IE.sv]
    rw [IE.insts_svs hf hs as as' has, hf]
theorem IE.insts_svs (hf : ρP.fn = ρ.fn) {t : T IE} (hs : ∀ i e, t.get i = some e → e.sv ρ = ρP.sv i) : ∀ (ps es : List IE), IE.insts t ps = some es → IE.svs ρ es = IE.svs ρP ps
  | [], es, h => by simp [IE.insts] at h; subst h; simp [IE.svs]
  | a :: as, es, h => by
    simp only [IE.insts] at h
    split at h
    case h_2 => cases h
    rename_i a' ha
    split at h
    case h_2 => cases h
    rename_i as' has
    simp only [Option.some.injEq] at h; subst h
    simp only [IE.svs]
    rw [IE.inst_sv hf hs a a' ha, IE.insts_svs hf hs as as' has]
end

theorem IE.inst_den (hf : ρP.fn = ρ.fn) {t : T IE} (hs : ∀ i e, t.get i = some e → e.sv ρ = ρP.sv i) {p e : IE} (h : p.inst t = some e) : e.den ρ = p.den ρP := by
  unfold IE.den; rw [IE.inst_sv hf hs p e h]

theorem BE.inst_den (hf : ρP.fn = ρ.fn) {t : T IE} (hs : ∀ i e, t.get i = some e → e.sv ρ = ρP.sv i) : ∀ (p e : BE), p.inst t = some e → e.den ρ = p.den ρP
  | .lit b, e, h => by simp [BE.inst] at h; subst h; rfl
  | .at i, e, h => by
    simp only [BE.inst] at h
    split at h
    case h_2 => cases h
    rename_i x hx
    simp only [Option.some.injEq] at h; subst h
    have h1 : x.den ρ = (ρP.sv i).i := by unfold IE.den; rw [hs i x hx]
    simp only [BE.den, Rho.bool, h1]
  | .cmp op a b, e, h => by
    simp only [BE.inst] at h
    split at h
    case h_2 => cases h
    rename_i a' b' ha hb
    simp only [Option.some.injEq] at h; subst h
    rw [mkCmp_den, IE.inst_den hf hs ha, IE.inst_den hf hs hb, BE.den]
  | .not a, e, h => by
    simp only [BE.inst] at h
    split at h
    case h_2 => cases h
    rename_i a' ha
    simp only [Option.some.injEq] at h; subst h
    simp only [BE.den]
    rw [BE.inst_den hf hs a a' ha]
  | .is a, e, h => by
    simp only [BE.inst] at h
    split at h
    case h_2 => cases h
    rename_i a' ha
    simp only [Option.some.injEq] at h; subst h
    simp only [BE.den]
    rw [IE.inst_den hf hs ha]
  | .seq a b, e, h => by
    simp only [BE.inst] at h
    split at h
    case h_2 => cases h
    rename_i a' b' ha hb
    simp only [Option.some.injEq] at h; subst h
    simp only [BE.den]
    rw [IE.inst_sv hf hs a a' ha, IE.inst_sv hf hs b b' hb]
  | .iff a b, e, h => by
    simp only [BE.inst] at h
    split at h
    case h_2 => cases h
    rename_i a' b' ha hb
    simp only [Option.some.injEq] at h; subst h
    simp only [BE.den]
    rw [BE.inst_den hf hs a a' ha, BE.inst_den hf hs b b' hb]
  | .and a b, e, h => by
    simp only [BE.inst] at h
    split at h
    case h_2 => cases h
    rename_i a' b' ha hb
    simp only [Option.some.injEq] at h; subst h
    simp only [BE.den]
    rw [BE.inst_den hf hs a a' ha, BE.inst_den hf hs b b' hb]

theorem CE.inst_rel (h : SubOK θ ρP δP ρ δ) {c c' : CE} (hc : c.inst θ.cp = some c') (v : Nat) : CRel δP c v ↔ CRel δ c' v := by
  unfold CE.inst at hc
  split at hc
  · rename_i ha
    simp only [Option.some.injEq] at hc; subst hc
    simp [CRel, ha]
  · rename_i i ha
    split at hc
    case h_2 => cases hc
    rename_i j hj
    simp only [Option.some.injEq] at hc; subst hc
    simp only [CRel, ha]
    rw [h.cp i j hj]

theorem cp2_some (h : SubOK θ ρP δP ρ δ) {rm j : Nat} (hc : cp2 θ.cp rm = some j) : δP.cap rm = δ.cap j ∧ δP.cap (rm + 1) = δ.cap (j + 1) := by
  unfold cp2 at hc
  split at hc
  case h_2 => cases hc
  rename_i x y hx hy
  split at hc
  case h_2 => cases hc
  rename_i e
  have e := beq_eq e
  simp only [Option.some.injEq] at hc
  subst hc e
  exact ⟨h.cp _ _ hx, h.cp _ _ hy⟩

mutual
theorem AV.inst_rel (h : SubOK θ ρP δP ρ δ) : ∀ (p a : AV) (v : Value), p.inst θ = some a → (VRel ρP δP p v ↔ VRel ρ δ a v)
  | .int k e, a, v, hi => by
    simp only [AV.inst] at hi
    split at hi
    case h_2 => cases hi
    rename_i e' he
    simp only [Option.some.injEq] at hi; subst hi
    simp only [VRel]
    rw [IE.inst_den h.fn h.sv he]
  | .bool e, a, v, hi => by
    simp only [AV.inst] at hi
    split at hi
    case h_2 => cases hi
    rename_i e' he
    simp only [Option.some.injEq] at hi; subst hi
    simp only [VRel]
    rw [BE.inst_den h.fn h.sv e e' he]
  | .raw u, a, v, hi => by simp [AV.inst] at hi; subst hi; simp [VRel]
  | .val _, a, v, hi => by simp [AV.inst] at hi
  | .str e, a, v, hi => by
    simp only [AV.inst] at hi
    split at hi
    case h_2 => cases hi
    rename_i e' he
    simp only [Option.some.injEq] at hi; subst hi
    simp only [VRel]
    rw [IE.inst_sv h.fn h.sv e e' he]
  | .nilp, a, v, hi => by simp [AV.inst] at hi; subst hi; simp [VRel]
  | .ptrx n rm w ix f, a, v, hi => by
    simp only [AV.inst] at hi
    split at hi
    case h_2 => cases hi
    rename_i n' rm' ix' hn hr hx
    simp only [Option.some.injEq] at hi; subst hi
    simp only [VRel]
    rw [IE.inst_den h.fn h.sv hx, h.nm _ _ hn, (cp2_some h hr).2]
  | .sl n rm w lo len ex cap, a, v, hi => by
    simp only [AV.inst] at hi
    split at hi
    case h_2 => cases hi
    rename_i n' rm' lo' len' cap' hn hr h1 h2 h3
    simp only [Option.some.injEq] at hi; subst hi
    simp only [VRel, SRel]
    rw [IE.inst_den h.fn h.sv h1, IE.inst_den h.fn h.sv h2, IE.inst_den h.fn h.sv h3, h.nm _ _ hn, (cp2_some h hr).1, (cp2_some h hr).2]
  | .ptr n off, a, v, hi => by
    simp only [AV.inst] at hi
    split at hi
    case h_2 => cases hi
    rename_i n' hn
    simp only [Option.some.injEq] at hi; subst hi
    simp only [VRel]
    rw [h.nm _ _ hn]
  | .nils, a, v, hi => by simp [AV.inst] at hi; subst hi; simp [VRel]
  | .slice n off len cap, a, v, hi => by
    simp only [AV.inst] at hi
    split at hi
    case h_2 => cases hi
    rename_i n' cap' hn hl hc
    simp only [Option.some.injEq] at hi; subst hi
    simp only [VRel, NE.den, hl]
    rw [h.nm _ _ hn]
    constructor
    · rintro ⟨b, o, c, g1, g2, g3⟩; exact ⟨b, o, c, g1, (CE.inst_rel h hc c).1 g2, g3⟩
    · rintro ⟨b, o, c, g1, g2, g3⟩; exact ⟨b, o, c, g1, (CE.inst_rel h hc c).2 g2, g3⟩
  | .func fn fs cs, a, v, hi => by
    simp only [AV.inst] at hi
    split at hi
    case h_2 => cases hi
    rename_i fs' hfs
    split at hi
    case h_2 => cases hi
    rename_i cs' hcs
    simp only [Option.some.injEq] at hi; subst hi
    simp only [VRel]
    constructor
    · rintro ⟨f, c, g1, g2, g3⟩; exact ⟨f, c, g1, (AV.insts_rel h fs fs' _ hfs).1 g2, (AV.insts_rel h cs cs' _ hcs).1 g3⟩
    · rintro ⟨f, c, g1, g2, g3⟩; exact ⟨f, c, g1, (AV.insts_rel h fs fs' _ hfs).2 g2, (AV.insts_rel h cs cs' _ hcs).2 g3⟩
  | .iface t x, a, v, hi => by
    simp only [AV.inst] at hi
    split at hi
    case h_2 => cases hi
    rename_i x' hx
    simp only [Option.some.injEq] at hi; subst hi
    simp only [VRel]
    constructor
    · rintro ⟨u, g1, g2⟩; exact ⟨u, g1, (AV.inst_rel h x x' u hx).1 g2⟩
    · rintro ⟨u, g1, g2⟩; exact ⟨u, g1, (AV.inst_rel h x x' u hx).2 g2⟩
  | .agg cs, a, v, hi => by
    simp only [AV.inst] at hi
    split at hi
    case h_2 => cases hi
    rename_i cs' hcs
    simp only [Option.some.injEq] at hi; subst hi
    simp only [VRel]
    constructor
    · rintro ⟨u, g1, g2⟩; exact ⟨u, g1, (AV.insts_rel h cs cs' _ hcs).1 g2⟩
    · rintro ⟨u, g1, g2⟩; exact ⟨u, g1, (AV.insts_rel h cs cs' _ hcs).2 g2⟩
  | .tup cs, a, v, hi => by
    simp only [AV.inst] at hi
    split at hi
    case h_2 => cases hi
    rename_i cs' hcs
    simp only [Option.some.injEq] at hi; subst hi
    simp only [VRel]
    constructor
    · rintro ⟨u, g1, g2⟩; exact ⟨u, g1, (AV.insts_rel h cs cs' _ hcs).1 g2⟩
    · rintro ⟨u, g1, g2⟩; exact ⟨u, g1, (AV.insts_rel h cs cs' _ hcs).2 g2⟩
  | .map n, a, v, hi => by
    simp only [AV.inst] at hi
    split at hi
    case h_2 => cases hi
    rename_i n' hn
    simp only [Option.some.injEq] at hi; subst hi
    simp only [VRel]
    rw [h.nm _ _ hn]
theorem AV.insts_rel (h : SubOK θ ρP δP ρ δ) : ∀ (ps as : List AV) (vs : List Value), AV.insts θ ps = some as → (VRels ρP δP ps vs ↔ VRels ρ δ as vs)
  | [], as, vs, hi => by simp [AV.insts] at hi; subst hi; simp [VRels]
  | p :: ps, as, vs, hi => by
    simp only [AV.insts] at hi
    split at hi
    case h_2 => cases hi
    rename_i a ha
    split at hi
    case h_2 => cases hi
    rename_i as' has
    simp only [Option.some.injEq] at hi; subst hi
    simp only [VRels]
    constructor
    · rintro ⟨u, us, g1, g2, g3⟩; exact ⟨u, us, g1, (AV.inst_rel h p a u ha).1 g2, (AV.insts_rel h ps as' us has).1 g3⟩
    · rintro ⟨u, us, g1, g2, g3⟩; exact ⟨u, us, g1, (AV.inst_rel h p a u ha).2 g2, (AV.insts_rel h ps as' us has).2 g3⟩
end
end
end Go.Sx
