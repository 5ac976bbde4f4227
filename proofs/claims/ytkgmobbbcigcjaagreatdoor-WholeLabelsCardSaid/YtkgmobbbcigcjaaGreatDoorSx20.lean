/- An executor for the model's Go code over an abstract state: a state that is an instance of a pattern. -/
import Derived.Test.YtkgmobbbcigcjaaGreatDoorSx19
namespace Go.Sx
set_option linter.unusedVariables false

inductive PBlk where
  | cells (cs : List (Nat × AV)) (n : Nat) (elem : TypeId) (exact rw : Bool)
  | seq (q : IE) (row : List CK) (elem : TypeId) (rm : Nat) (rw : Bool)

def T.puts {α : Type} (t : T α) : List (Nat × α) → T α
  | [] => t
  | (k, x) :: l => (T.puts t l).set k x

def PBlk.blk : PBlk → ABlk
  | .cells cs n elem exact rw => .cells (T.puts .nil cs) n elem (match exact with | true => .exact | false => .unknown) rw
  | .seq q row elem rm rw => .seq q row elem rm rw

structure Pat where
  tm : List (Nat × AV)
  heap : List (Nat × PBlk)
  nx : Nat
  nc : Nat
  names : List Nat

def Pat.blks (p : Pat) : List (Nat × ABlk) := p.heap.map fun x => (x.1, x.2.blk)
def Pat.hs (p : Pat) : HS := ⟨T.puts .nil p.blks, p.nx, p.nc⟩
def Pat.tmv (p : Pat) : TM := T.puts .nil p.tm

structure SubL where
  sv : List (Nat × IE)
  nm : List (Nat × Nat)
  cp : List (Nat × Nat)

def SubL.sub (s : SubL) : Sub := ⟨T.puts .nil s.sv, T.puts .nil s.nm, T.puts .nil s.cp⟩

/-- Does the second one say what the first one says? -/
def refA1 : AV → AV → Bool
  | .bool e, .bool b => match BE.same e b with
    | true => true
    | false => match e with
      | .is e => IE.same e b.toIE
      | _ => false
  | .str e, .raw (.string s) => IE.same e (.str s)
  | .sl n rm w lo len false cap, .sl n' rm' w' lo' len' _ cap' => Nat.beq n n' && Nat.beq rm rm' && Nat.beq w w' && IE.same lo lo' && IE.same len len' && IE.same cap cap'
  | a, b => sameAV a b

def refAs : List AV → List AV → Bool
  | [], [] => true
  | a :: as, b :: bs => refA1 a b && refAs as bs
  | _, _ => false

def refAV : AV → AV → Bool
  | .tup as, .tup bs => refAs as bs
  | .agg as, .agg bs => refAs as bs
  | a, b => refA1 a b

def refTm (θ : Sub) (tm : TM) : List (Nat × AV) → Bool
  | [] => true
  | (t, p) :: l => match refTm θ tm l, tm.get t with
    | true, some a => match p with
      | .val i => match Nat.beq i t with
        | true => a.oneCell
        | false => false
      | p => match p.inst θ with
        | some a' => refAV a' a
        | none => false
    | _, _ => false

def refCells (θ : Sub) (cs : T AV) : List (Nat × AV) → Bool
  | [] => true
  | (i, p) :: l => match refCells θ cs l, cs.get i, p.inst θ with
    | true, some a, some a' => refAV a' a
    | _, _, _ => false

def refRw : Bool → Bool → Bool
  | true, rw' => rw'
  | false, _ => true

def refEl : Bool → Nat → Nat → Bool
  | true, e, e' => Nat.beq e e'
  | false, _, _ => true

def refBlk (θ : Sub) : PBlk → ABlk → Bool
  | .cells cs n elem ex rw, .cells cs' n' elem' tl' rw' => refCells θ cs' cs && refEl rw elem elem' && refRw rw rw' && (match ex with
      | true => Nat.beq n n' && (match tl' with | .exact => true | _ => false)
      | false => Nat.ble n n')
  | .seq q row elem rm rw, .seq q' row' elem' rm' rw' => (match q.inst θ.sv with
      | some e => IE.same e q'
      | none => false) && decide (row = row') && refEl rw elem elem' && refRw rw rw' && (match cp2 θ.cp rm with
      | some j => Nat.beq j rm'
      | none => false)
  | _, _ => false

def refHeap (θ : Sub) (H : T ABlk) : List (Nat × PBlk) → List Nat → Bool
  | [], _ => true
  | (n, p) :: l, used => match nmOf θ.nm n with
    | some m => match H.get m with
      | some b => refBlk θ p b && !(used.any fun u => Nat.beq u m) && refHeap θ H l (m :: used)
      | none => false
    | none => false

def keysOK (p : Pat) (s : SubL) : Bool :=
  Nat.ble gbound p.nx && (s.nm.all fun x => Nat.ble gbound x.1 && Nat.blt x.1 p.nx) && (s.cp.all fun x => Nat.blt x.1 p.nc)

def enters (p : Pat) (s : SubL) (tm : TM) (hs : HS) : Bool :=
  keysOK p s && refTm s.sub tm p.tm && refHeap s.sub hs.heap p.heap []

/-- What the parameters stand for. -/
def rhoOf (θ : Sub) (ρ : Rho) (a : Act) : Rho where
  sv := fun i => match θ.sv.get i with | some e => e.sv ρ | none => .nul
  val := fun i => a.tmps.getD i undef
  fn := ρ.fn

def dlOf (θ : Sub) (δ : Dl) : Dl where
  at_ := fun n => match nmOf θ.nm n with | some m => δ.at_ m | none => none
  cap := fun i => match θ.cp.get i with | some j => δ.cap j | none => none

theorem subOK (θ : Sub) (ρ : Rho) (δ : Dl) (a : Act) : SubOK θ (rhoOf θ ρ a) (dlOf θ δ) ρ δ where
  fn := rfl
  sv := fun i e h => by simp [rhoOf, h]
  nm := fun n m h => by simp [dlOf, h]
  cp := fun i j h => by simp [dlOf, h]

theorem T.puts_mem {α : Type} : ∀ (l : List (Nat × α)) (k : Nat) (x : α), (T.puts .nil l).get k = some x → (k, x) ∈ l
  | [], k, x, h => by simp [T.puts, T.get_nil] at h
  | (j, y) :: l, k, x, h => by
    simp only [T.puts] at h
    rw [T.get_set] at h
    by_cases e : k = j
    · rw [if_pos e] at h; injection h with h; subst h e; exact List.mem_cons_self
    · rw [if_neg e] at h; exact List.mem_cons_of_mem _ (T.puts_mem l k x h)

section
variable {ρP ρ : Rho} {δP δ : Dl} {θ : Sub} {w : World}

theorem refA1_sound {a b : AV} {v : Value} (h : refA1 a b = true) (hv : VRel ρ δ b v) : VRel ρ δ a v := by
  unfold refA1 at h
  split at h
  · rename_i e b
    split at h
    · rename_i hs
      rw [BE.same_eq hs]; exact hv
    · split at h
      · rename_i e
        have := IE.same_eq h
        subst this
        simp only [VRel] at hv ⊢
        rw [hv, ← toIE_bool b, BE.den]
      · cases h
  · rename_i e s
    have := IE.same_eq h
    subst this
    simp only [VRel] at hv ⊢
    rw [hv]; rfl
  · simp only [Bool.and_eq_true] at h
    obtain ⟨⟨⟨⟨⟨h1, h2⟩, h3⟩, h4⟩, h5⟩, h6⟩ := h
    have h1 := beq_eq h1; have h2 := beq_eq h2; have h3 := beq_eq h3
    have h4 := IE.same_eq h4; have h5 := IE.same_eq h5; have h6 := IE.same_eq h6
    subst h1 h2 h3 h4 h5 h6
    simp only [VRel] at hv ⊢
    obtain ⟨g1, g2, g3, b, o, r, cnt, c, g4, g5, g6, g7, g8, g9, g10⟩ := hv
    exact ⟨g1, g2, g3, b, o, r, cnt, c, g4, g5, g6, g7, g8, fun e => (by cases e), g10⟩
  · rw [sameAV_eq _ _ h]; exact hv

theorem refAs_sound : ∀ {as bs : List AV} {vs : List Value}, refAs as bs = true → VRels ρ δ bs vs → VRels ρ δ as vs
  | [], [], vs, _, hv => hv
  | a :: as, b :: bs, vs, h, hv => by
    simp only [refAs, Bool.and_eq_true] at h
    simp only [VRels] at hv ⊢
    obtain ⟨u, us, rfl, h1, h2⟩ := hv
    exact ⟨u, us, rfl, refA1_sound h.1 h1, refAs_sound h.2 h2⟩
  | [], _ :: _, vs, h, _ => by simp [refAs] at h
  | _ :: _, [], vs, h, _ => by simp [refAs] at h

theorem refAV_sound {a b : AV} {v : Value} (h : refAV a b = true) (hv : VRel ρ δ b v) : VRel ρ δ a v := by
  unfold refAV at h
  split at h
  · simp only [VRel] at hv ⊢
    obtain ⟨us, rfl, h1⟩ := hv
    exact ⟨us, rfl, refAs_sound h h1⟩
  · simp only [VRel] at hv ⊢
    obtain ⟨us, rfl, h1⟩ := hv
    exact ⟨us, rfl, refAs_sound h h1⟩
  · exact refA1_sound h hv

theorem refTm_sound (h : SubOK θ ρP δP ρ δ) {nt : Nat} {tm : TM} {a : Act} (ht : TRep ρ δ nt tm a) (hval : ∀ i, ρP.val i = a.tmps.getD i undef) : ∀ (l : List (Nat × AV)), refTm θ tm l = true →
    ∀ t p, (t, p) ∈ l → ∃ u, a.tmps[t]? = some u ∧ VRel ρP δP p u
  | [], _, t, p, hm => by cases hm
  | (t, p) :: l, hr, t', p', hm => by
    simp only [refTm] at hr
    split at hr
    case h_2 => cases hr
    rename_i av hl htm
    rcases List.mem_cons.1 hm with e | hm
    · injection e with e1 e2
      subst e1 e2
      obtain ⟨u, hu1, hu2⟩ := ht.val _ _ htm
      refine ⟨u, hu1, ?_⟩
      split at hr
      · rename_i i
        split at hr
        · rename_i hi
          have hi := beq_eq hi
          subst hi
          simp only [VRel]
          exact ⟨by rw [hval]; simp [hu1], hu2.oneCell hr⟩
        · cases hr
      · split at hr
        · rename_i a' ha
          exact (AV.inst_rel h _ a' u ha).2 (refAV_sound hr hu2)
        · cases hr
    · exact refTm_sound h ht hval l hl t' p' hm

theorem refCells_sound (h : SubOK θ ρP δP ρ δ) {cs : T AV} : ∀ (l : List (Nat × AV)), refCells θ cs l = true → ∀ i p, (i, p) ∈ l → ∃ a, cs.get i = some a ∧ ∀ v, VRel ρ δ a v → VRel ρP δP p v
  | [], _, i, p, hm => by cases hm
  | (i, p) :: l, hr, i', p', hm => by
    simp only [refCells] at hr
    split at hr
    case h_2 => cases hr
    rename_i a a' hl hc hi
    rcases List.mem_cons.1 hm with e | hm
    · injection e with e1 e2
      subst e1 e2
      exact ⟨a, hc, fun v hv => (AV.inst_rel h _ a' v hi).2 (refAV_sound hr hv)⟩
    · exact refCells_sound h l hl i' p' hm

theorem refEl_sound {w : World} {b : Nat} {cur : Array Value} {elem elem' : TypeId} {fr : Nat × Nat} {rw rw' : Bool} (h1 : refEl rw elem elem' = true) (h2 : refRw rw rw' = true) (h : HAt w b cur elem' fr rw') : HAt w b cur elem fr rw := by
  obtain ⟨el, k1, k2⟩ := h
  refine ⟨el, k1, fun e => ?_⟩
  subst e
  rw [beq_eq h1]
  exact k2 h2

theorem refBlk_sound (h : SubOK θ ρP δP ρ δ) {n m : Nat} {p : PBlk} {b : ABlk} (hn : nmOf θ.nm n = some m) (hr : refBlk θ p b = true) (hb : BRep ρ δ w m b) : BRep ρP δP w n p.blk := by
  cases p with
  | cells cs k elem ex rw =>
    cases b with
    | cells cs' k' elem' tl' rw' =>
      simp only [refBlk, Bool.and_eq_true] at hr
      obtain ⟨⟨⟨h1, h2⟩, h3⟩, h4⟩ := hr
      obtain ⟨b, o, cur, fr, g1, g2, g3, g4, g5, g6⟩ := hb
      refine ⟨b, o, cur, fr, by rw [h.nm _ _ hn]; exact g1, refEl_sound h2 h3 g2, fun i a hi => ?_, fun hrw => ?_, ?_, ?_⟩
      · obtain ⟨a', k1, k2⟩ := refCells_sound h cs h1 i a (T.puts_mem cs i a hi)
        obtain ⟨u, k3, k4⟩ := g3 i a' k1
        exact ⟨u, k3, k2 u k4⟩
      · subst hrw
        exact g4 h3
      · cases ex with
        | true =>
          simp only [Bool.and_eq_true] at h4
          have := beq_eq h4.1
          omega
        | false => have := ble_le h4; omega
      · cases ex with
        | true =>
          simp only [Bool.and_eq_true] at h4
          obtain ⟨h5, h6⟩ := h4
          have h5 := beq_eq h5
          cases tl' with
          | exact => subst h5; exact g6
          | more => cases h6
          | unknown => cases h6
        | false => trivial
    | _ => cases hr
  | seq q row elem rm rw =>
    cases b with
    | seq q' row' elem' rm' rw' =>
      simp only [refBlk, Bool.and_eq_true] at hr
      obtain ⟨⟨⟨⟨h1, h2⟩, h3⟩, h4⟩, h5⟩ := hr
      have h2 := of_decide_eq_true h2
      subst h2
      split at h1
      case h_2 => cases h1
      rename_i e he
      have h1 := IE.same_eq h1
      subst h1
      split at h5
      case h_2 => cases h5
      rename_i j hj
      have h5 := beq_eq h5
      subst h5
      obtain ⟨b, o, r, g1, g2, g3, g4⟩ := hb
      have hq : e.sv ρ = q.sv ρP := IE.inst_sv h.fn h.sv q e he
      rw [hq] at g3 g4
      refine ⟨b, o, r, by rw [h.nm _ _ hn]; exact g1, by rw [(cp2_some h hj).1]; exact g2, by rw [(cp2_some h hj).2]; exact g3, ?_⟩
      rcases g4 with g4 | ⟨g4, cur, fr, k1, k2, k3, k4, k5⟩
      · exact .inl g4
      · refine .inr ⟨g4, cur, fr, refEl_sound h3 h4 k1, k2, fun hrw => ?_, k4, k5⟩
        subst hrw
        exact k3 h4
    | _ => cases hr

theorem refBlk_live {p : PBlk} {b : ABlk} (hr : refBlk θ p b = true) : b.live = true ∧ (p.blk.rw = true → b.rw = true) := by
  cases p with
  | cells cs k elem ex rw =>
    cases b with
    | cells cs' k' elem' tl' rw' =>
      simp only [refBlk, Bool.and_eq_true] at hr
      refine ⟨rfl, fun e => ?_⟩
      simp only [PBlk.blk, ABlk.rw] at e ⊢
      subst e
      exact hr.1.2
    | _ => cases hr
  | seq q row elem rm rw =>
    cases b with
    | seq q' row' elem' rm' rw' =>
      simp only [refBlk, Bool.and_eq_true] at hr
      refine ⟨rfl, fun e => ?_⟩
      simp only [PBlk.blk, ABlk.rw] at e ⊢
      subst e
      exact hr.1.2
    | _ => cases hr

theorem refHeap_sound {H : T ABlk} : ∀ (l : List (Nat × PBlk)) (used : List Nat), refHeap θ H l used = true →
    (∀ n p, (n, p) ∈ l → ∃ m b, nmOf θ.nm n = some m ∧ H.get m = some b ∧ refBlk θ p b = true ∧ ∀ u ∈ used, u ≠ m) ∧
    l.Pairwise (fun x y => nmOf θ.nm x.1 ≠ nmOf θ.nm y.1)
  | [], _, _ => ⟨fun n p hm => by (cases hm), List.Pairwise.nil⟩
  | (n, p) :: l, used, h => by
    simp only [refHeap] at h
    split at h
    case h_2 => cases h
    rename_i m hn
    split at h
    case h_2 => cases h
    rename_i b hb
    simp only [Bool.and_eq_true] at h
    obtain ⟨⟨h1, h2⟩, h3⟩ := h
    obtain ⟨h4, h5⟩ := refHeap_sound l (m :: used) h3
    refine ⟨fun n' p' hm => ?_, List.Pairwise.cons (fun x hx => ?_) h5⟩
    · rcases List.mem_cons.1 hm with e | hm
      · injection e with e1 e2
        subst e1 e2
        refine ⟨m, b, hn, hb, h1, fun u hu e => ?_⟩
        subst e
        have : (used.any fun x => Nat.beq x u) = true := List.any_eq_true.2 ⟨u, hu, Nat.beq_refl u⟩
        rw [this] at h2; cases h2
      · obtain ⟨m', b', k1, k2, k3, k4⟩ := h4 n' p' hm
        exact ⟨m', b', k1, k2, k3, fun u hu => k4 u (List.mem_cons_of_mem _ hu)⟩
    · obtain ⟨m', b', k1, k2, k3, k4⟩ := h4 x.1 x.2 hx
      rw [hn, k1]
      intro e
      injection e with e
      exact k4 m List.mem_cons_self e

/-- A state that is an instance of a pattern is a state of the pattern. -/
theorem enters_sound {p : Pat} {s : SubL} {tm : TM} {hs : HS} {nt : Nat} {a : Act} (h : enters p s tm hs = true) (hr : HRep ρ δ hs w) (ht : TRep ρ δ nt tm a) :
    HRep (rhoOf s.sub ρ a) (dlOf s.sub δ) p.hs w ∧ TRep (rhoOf s.sub ρ a) (dlOf s.sub δ) nt p.tmv a := by
  simp only [enters, Bool.and_eq_true] at h
  obtain ⟨⟨h1, h2⟩, h3⟩ := h
  have hk := subOK s.sub ρ δ a
  obtain ⟨h4, h5⟩ := refHeap_sound _ _ h3
  simp only [keysOK, Bool.and_eq_true] at h1
  obtain ⟨⟨k1, k2⟩, k3⟩ := h1
  have k1 := ble_le k1
  have hblk : ∀ n b, p.hs.heap.get n = some b → ∃ pb, (n, pb) ∈ p.heap ∧ b = pb.blk := by
    intro n b hb
    have := T.puts_mem p.blks n b hb
    simp only [Pat.blks, List.mem_map] at this
    obtain ⟨x, hx, e⟩ := this
    injection e with e1 e2
    subst e1 e2
    exact ⟨x.2, hx, rfl⟩
  refine ⟨⟨?_, ?_, ?_, ?_, ?_, k1, hr.pos⟩, ⟨ht.dfr, ht.size, ?_⟩⟩
  · intro n b hb
    obtain ⟨pb, hm, rfl⟩ := hblk n b hb
    obtain ⟨m, b', g1, g2, g3, _⟩ := h4 n pb hm
    exact refBlk_sound hk g1 g3 (hr.blk m b' g2)
  · intro n m b c x y o o' hn hm hne hrw hlv hx hy hxg
    obtain ⟨pb, hpb, rfl⟩ := hblk n b hn
    obtain ⟨pc, hpc, rfl⟩ := hblk m c hm
    obtain ⟨n', bn, g1, g2, g3, _⟩ := h4 n pb hpb
    obtain ⟨m', bm, g4, g5, g6, _⟩ := h4 m pc hpc
    rw [hk.nm _ _ g1] at hx
    rw [hk.nm _ _ g4] at hy
    have hne' : n' ≠ m' := by
      intro e
      subst e
      have hpw := List.pairwise_iff_getElem.1 h5
      obtain ⟨i, hi, ei⟩ := List.getElem_of_mem hpb
      obtain ⟨j, hj, ej⟩ := List.getElem_of_mem hpc
      rcases Nat.lt_trichotomy i j with hij | hij | hij
      · have := hpw i j hi hj hij
        rw [ei, ej] at this
        exact this (by rw [g1, g4])
      · subst hij
        rw [ei] at ej
        injection ej with ej _
        exact hne ej
      · have := hpw j i hj hi hij
        rw [ei, ej] at this
        exact this (by rw [g1, g4])
    exact hr.sep n' m' bn bm x y o o' g2 g5 hne' ((refBlk_live g3).2 hrw) (refBlk_live g6).1 hx hy hxg
  · intro n hn
    simp only [dlOf]
    cases hg : nmOf s.sub.nm n with
    | none => rfl
    | some m =>
      exfalso
      unfold nmOf at hg
      split at hg
      · rename_i hb
        have := blt_lt hb
        have : p.hs.nx = p.nx := rfl
        omega
      · have := T.puts_mem s.nm n m hg
        have := List.all_eq_true.1 k2 _ this
        simp only [Bool.and_eq_true] at this
        have := blt_lt this.2
        have e : p.hs.nx = p.nx := rfl
        rw [e] at hn
        omega
  · intro i hi
    simp only [dlOf]
    cases hg : s.sub.cp.get i with
    | none => rfl
    | some j =>
      exfalso
      have := T.puts_mem s.cp i j hg
      have := blt_lt (List.all_eq_true.1 k3 _ this)
      have e : p.hs.nc = p.nc := rfl
      rw [e] at hi
      simp only at this
      omega
  · intro g hg
    simp only [dlOf, nmOf]
    have : Nat.blt g gbound = true := by rw [Nat.blt_eq]; exact hg
    rw [this]
    exact hr.glob g hg
  · intro t v hv
    exact refTm_sound hk ht (fun i => rfl) _ h2 t v (T.puts_mem _ _ _ hv)
end
end Go.Sx
