/- An executor for the model's Go code over an abstract state: back from a pattern's run. -/
import Derived.Test.YtkgmobbbcigcjaaGreatDoorSx20
namespace Go.Sx
set_option linter.unusedVariables false

/-- How memory goes on, whatever its names. -/
structure EvoW (δ : Dl) (hs : HS) (w : World) (δ' : Dl) (hs' : HS) (w' : World) : Prop where
  size : w.heap.size ≤ w'.heap.size
  unch : ∀ b, b < w.heap.size → (b ≠ gy → ∀ n o blk, hs.heap.get n = some blk → blk.rw = true → δ.at_ n = some (b, o) → False) → w'.heap[b]? = w.heap[b]?
  live : ∀ n blk b o, hs'.heap.get n = some blk → blk.live = true → δ'.at_ n = some (b, o) →
    b ≠ gy → w.heap.size ≤ b ∨ ∃ n0 blk0 o0, hs.heap.get n0 = some blk0 ∧ blk0.live = true ∧ (blk.rw = true → blk0.rw = true) ∧ δ.at_ n0 = some (b, o0)
  os : w'.os = w.os
  tape : w'.tape = w.tape
  output : w'.output = w.output

section
variable {δ δ' δ'' : Dl} {hs hs' hs'' : HS} {w w' w'' : World}

theorem Evo.weak (h : Evo δ hs w δ' hs' w') : EvoW δ hs w δ' hs' w' := ⟨h.size, h.unch, h.live, h.os, h.tape, h.output⟩

theorem EvoW.trans (h : EvoW δ hs w δ' hs' w') (h' : EvoW δ' hs' w' δ'' hs'' w'') : EvoW δ hs w δ'' hs'' w'' where
  size := Nat.le_trans h.size h'.size
  unch := fun b hb hn => by
    rw [h'.unch b (Nat.lt_of_lt_of_le hb h.size) ?_, h.unch b hb hn]
    intro hbg n o blk h1 h2 h3
    rcases h.live n blk b o h1 (by cases blk <;> first | rfl | cases h2) h3 hbg with h4 | ⟨n0, blk0, o0, h5, h6, h7, h8⟩
    · omega
    · exact hn hbg n0 o0 blk0 h5 (h7 h2) h8
  live := fun n blk b o h1 h2 h3 hbg => by
    rcases h'.live n blk b o h1 h2 h3 hbg with h4 | ⟨n0, blk0, o0, h5, h6, h7, h8⟩
    · exact .inl (Nat.le_trans h.size h4)
    · rcases h.live n0 blk0 b o0 h5 h6 h8 hbg with h9 | ⟨n1, blk1, o1, h10, h11, h12, h13⟩
      · exact .inl h9
      · exact .inr ⟨n1, blk1, o1, h10, h11, fun e => h12 (h7 e), h13⟩
  os := h'.os.trans h.os
  tape := h'.tape.trans h.tape
  output := h'.output.trans h.output
end

def listed (l : List Nat) (n : Nat) : Bool := l.any fun x => Nat.beq x n

theorem listed_mem {l : List Nat} {n : Nat} : listed l n = true ↔ n ∈ l := by
  unfold listed
  rw [List.any_eq_true]
  constructor
  · rintro ⟨x, hx, e⟩; have := beq_eq e; subst this; exact hx
  · intro h; exact ⟨n, h, Nat.beq_refl n⟩

def PBlk.inst (θ : Sub) : PBlk → Option ABlk
  | .cells cs n elem ex rw => match instCells θ cs with
    | some cs => some (.cells (T.puts .nil cs) n elem (match ex with | true => .exact | false => .unknown) rw)
    | none => none
  | .seq q row elem rm rw => match q.inst θ.sv, cp2 θ.cp rm with
    | some q, some rm => some (.seq q row elem rm rw)
    | _, _ => none
where instCells (θ : Sub) : List (Nat × AV) → Option (List (Nat × AV))
  | [] => some []
  | (i, p) :: l => match p.inst θ, instCells θ l with
    | some a, some l => some ((i, a) :: l)
    | _, _ => none

/-- Where an exit's name goes. -/
def goesTo (s : SubL) (stab : List Nat) (nx : Nat) (n : Nat) : Option Nat := match listed stab n with
  | true => s.sub.nm.get n
  | false => some (nx + n)

def goesToC (s : SubL) (stabC : List Nat) (nc : Nat) (i : Nat) : Option Nat := match listed stabC i with
  | true => s.sub.cp.get i
  | false => some (nc + i)

/-- The names of the patterns' blocks that were written. -/
def kills (s : SubL) : List (Nat × PBlk) → T ABlk → T ABlk
  | [], H => H
  | (n, p) :: l, H => match p.blk.rw, nmOf s.sub.nm n with
    | true, some m => (kills s l H).set m .dead
    | _, _ => kills s l H

def putX (θ : Sub) (H : T ABlk) : List (Nat × PBlk) → Option (T ABlk)
  | [] => some H
  | (n, p) :: l => match putX θ H l, nmOf θ.nm n, p.inst θ, p.blk.rw with
    | some H, some m, some b, true => some (H.set m b)
    | _, _, _, _ => none

def putTm (θ : Sub) (tm : TM) : List (Nat × AV) → Option TM
  | [] => some .nil
  | (t, p) :: l => match putTm θ tm l with
    | some r => match p with
      | .val i => match Nat.beq i t, tm.get t with
        | true, some a => some (r.set t a)
        | _, _ => none
      | p => match p.inst θ with
        | some a => some (r.set t a)
        | none => none
    | none => none

def upFrom : Nat → Nat → List Nat
  | _, 0 => []
  | k, n + 1 => k :: upFrom (k + 1) n

/-- An exit's parameters in the caller's terms. -/
def subX (s : SubL) (stab stabC : List Nat) (hs : HS) (X : Pat) (sv : List (Nat × IE)) : Option SubL :=
  let rec nms : List Nat → Option (List (Nat × Nat))
    | [] => some []
    | n :: l => match goesTo s stab hs.nx n, nms l with
      | some m, some r => some ((n, m) :: r)
      | _, _ => none
  let rec cps : List Nat → Option (List (Nat × Nat))
    | [] => some []
    | n :: l => match goesToC s stabC hs.nc n, cps l with
      | some m, some r => some ((n, m) :: r)
      | _, _ => none
  match nms X.names, cps (upFrom 0 X.nc), X.names.all (fun n => Nat.blt n X.nx) with
  | some a, some b, true => some ⟨sv, a, b⟩
  | _, _, _ => none

/-- Names behind a pattern's run: the caller's, and new ones. -/
def dlAfter (stab stabC : List Nat) (hs : HS) (X : Pat) (δ δ' : Dl) : Dl where
  at_ := fun m => if m < hs.nx then δ.at_ m else if m - hs.nx < X.nx ∧ listed stab (m - hs.nx) = false then δ'.at_ (m - hs.nx) else none
  cap := fun i => if i < hs.nc then δ.cap i else if i - hs.nc < X.nc ∧ listed stabC (i - hs.nc) = false then δ'.cap (i - hs.nc) else none

section
variable {δ δ' : Dl} {ρ ρ' : Rho} {hs : HS} {w w' : World}

theorem dlAfter_le {stab stabC : List Nat} {X : Pat} (hr : HRep ρ δ hs w) : δ.le (dlAfter stab stabC hs X δ δ') := by
  refine ⟨fun n x h => ?_, fun i x h => ?_⟩
  · have : n < hs.nx := by
      rcases Nat.lt_or_ge n hs.nx with h1 | h1
      · exact h1
      · rw [hr.freshN n h1] at h; cases h
    simp [dlAfter, this, h]
  · have : i < hs.nc := by
      rcases Nat.lt_or_ge i hs.nc with h1 | h1
      · exact h1
      · rw [hr.freshC i h1] at h; cases h
    simp [dlAfter, this, h]

/-- The caller's names for an exit's. -/
structure Goes (θ : Sub) (s : SubL) (stab stabC : List Nat) (hs : HS) (X : Pat) : Prop where
  nm : ∀ n m, θ.nm.get n = some m → n < X.nx ∧ goesTo s stab hs.nx n = some m
  cp : ∀ i j, θ.cp.get i = some j → i < X.nc ∧ goesToC s stabC hs.nc i = some j

theorem subX_goes {s : SubL} {stab stabC : List Nat} {X : Pat} {sv : List (Nat × IE)} {θ : SubL} (h : subX s stab stabC hs X sv = some θ) : Goes θ.sub s stab stabC hs X ∧ θ.sv = sv := by
  have up : ∀ (c k n : Nat), n ∈ upFrom k c → n < k + c := by
    intro c
    induction c with
    | zero => intro k n hn; cases hn
    | succ c ih =>
      intro k n hn
      simp only [upFrom] at hn
      rcases List.mem_cons.1 hn with rfl | hn
      · omega
      · have := ih _ _ hn; omega
  have hn : ∀ (l : List Nat) r, subX.nms s stab hs l = some r → ∀ n m, (n, m) ∈ r → n ∈ l ∧ goesTo s stab hs.nx n = some m := by
    intro l
    induction l with
    | nil => intro r h n m hm; simp [subX.nms] at h; subst h; cases hm
    | cons x l ih =>
      intro r h n m hm
      simp only [subX.nms] at h
      split at h
      case h_2 => cases h
      rename_i y r' hy hr
      simp only [Option.some.injEq] at h; subst h
      rcases List.mem_cons.1 hm with e | hm
      · injection e with e1 e2
        subst e1 e2
        exact ⟨List.mem_cons_self, hy⟩
      · obtain ⟨g1, g2⟩ := ih r' hr n m hm
        exact ⟨List.mem_cons_of_mem _ g1, g2⟩
  have hc : ∀ (l : List Nat) r, subX.cps s stabC hs l = some r → ∀ n m, (n, m) ∈ r → n ∈ l ∧ goesToC s stabC hs.nc n = some m := by
    intro l
    induction l with
    | nil => intro r h n m hm; simp [subX.cps] at h; subst h; cases hm
    | cons x l ih =>
      intro r h n m hm
      simp only [subX.cps] at h
      split at h
      case h_2 => cases h
      rename_i y r' hy hr
      simp only [Option.some.injEq] at h; subst h
      rcases List.mem_cons.1 hm with e | hm
      · injection e with e1 e2
        subst e1 e2
        exact ⟨List.mem_cons_self, hy⟩
      · obtain ⟨g1, g2⟩ := ih r' hr n m hm
        exact ⟨List.mem_cons_of_mem _ g1, g2⟩
  unfold subX at h
  split at h
  case h_2 => cases h
  rename_i a b ha hb hall
  simp only [Option.some.injEq] at h; subst h
  refine ⟨⟨fun n m hm => ?_, fun i j hj => ?_⟩, rfl⟩
  · obtain ⟨g1, g2⟩ := hn _ _ ha n m (T.puts_mem _ _ _ hm)
    exact ⟨blt_lt (List.all_eq_true.1 hall n g1), g2⟩
  · obtain ⟨g1, g2⟩ := hc _ _ hb i j (T.puts_mem _ _ _ hj)
    have := up _ _ _ g1
    exact ⟨by omega, g2⟩

/-- An exit's parameters are right in the caller's state. -/
theorem goes_ok {H X : Pat} {s : SubL} {stab stabC : List Nat} {θ : Sub} (hr : HRep ρ δ hs w) (hX : HRep ρ' δ' X.hs w') (hg : Goes θ s stab stabC hs X)
    (hst : ∀ n, n ∈ stab → δ'.at_ n = (dlOf s.sub δ).at_ n) (hsc : ∀ i, i ∈ stabC → δ'.cap i = (dlOf s.sub δ).cap i)
    (hb : ∀ n m, n ∈ stab → s.sub.nm.get n = some m → m < hs.nx ∧ gbound ≤ n) (hbc : ∀ i j, i ∈ stabC → s.sub.cp.get i = some j → j < hs.nc)
    (hf : ρ'.fn = ρ.fn) (hsv : ∀ i e, θ.sv.get i = some e → e.sv ρ = ρ'.sv i) : SubOK θ ρ' δ' ρ (dlAfter stab stabC hs X δ δ') where
  fn := hf
  sv := hsv
  nm := fun n m h => by
    unfold nmOf at h
    split at h
    · rename_i hlt
      have hlt := blt_lt hlt
      simp only [Option.some.injEq] at h; subst h
      rw [hX.glob n hlt, (dlAfter_le hr).1 n _ (hr.glob n hlt)]
    · obtain ⟨h1, h2⟩ := hg.nm n m h
      unfold goesTo at h2
      split at h2
      · rename_i hl
        have hl := listed_mem.1 hl
        obtain ⟨h3, h4⟩ := hb n m hl h2
        rw [hst n hl]
        have hlt : Nat.blt n gbound = false := by
          cases hh : Nat.blt n gbound with
          | false => rfl
          | true => have := blt_lt hh; omega
        simp only [dlOf, nmOf, hlt, h2, dlAfter, h3, if_true]
      · rename_i hl
        simp only [Option.some.injEq] at h2; subst h2
        have e : hs.nx + n - hs.nx = n := by omega
        simp only [dlAfter, e, hl, h1, and_self, if_true]
        rw [if_neg (by omega)]
  cp := fun i j h => by
    obtain ⟨h1, h2⟩ := hg.cp i j h
    unfold goesToC at h2
    split at h2
    · rename_i hl
      have hl := listed_mem.1 hl
      rw [hsc i hl]
      have h3 := hbc i j hl h2
      simp only [dlOf, h2, dlAfter, h3, if_true]
    · rename_i hl
      simp only [Option.some.injEq] at h2; subst h2
      have e : hs.nc + i - hs.nc = i := by omega
      simp only [dlAfter, e, hl, h1, and_self, if_true]
      rw [if_neg (by omega)]
end
end Go.Sx
