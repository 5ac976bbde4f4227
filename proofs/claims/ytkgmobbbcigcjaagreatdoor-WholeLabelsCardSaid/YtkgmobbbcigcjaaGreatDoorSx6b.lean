/- An executor for the model's Go code over an abstract state: pure operations on terms. -/
import Derived.Test.YtkgmobbbcigcjaaGreatDoorSx6
import Derived.Laws.Strings
import Derived.Laws.StructEq
namespace Go.Sx
set_option linter.unusedVariables false
section
variable {ρ : Rho} {δ : Dl} {P : Program}

theorem askB_val {pc : PC} {b : BE} {want : Bool} {r : PR} {v : AV} (hp : PCh ρ pc) (h : askB pc b want r = .val v) : b.den ρ = want ∧ r = .val v := by
  unfold askB at h
  split at h
  · rename_i x hx
    split at h
    · rename_i hw
      have hw : x = want := by simpa using hw
      exact ⟨by rw [dec_sound hp hx, hw], h⟩
    · cases h
  · cases h

theorem pickIx_val {pc : PC} {e : IE} {r : Nat → PR} {v : AV} (hp : PCh ρ pc) : ∀ (n j : Nat), pickIx pc e r n j = .val v → ∃ i, j ≤ i ∧ i < j + n ∧ e.den ρ = (i : Int) ∧ r i = .val v
  | 0, j, h => by cases h
  | n + 1, j, h => by
    simp only [pickIx] at h
    split at h
    · rename_i hd
      have := dec_sound hp hd
      rw [mkCmp_den] at this
      refine ⟨j, Nat.le_refl _, by omega, ?_, h⟩
      simpa [intCmp, IE.den, IE.sv, SV.ofI, SV.i] using this
    · obtain ⟨i, h1, h2, h3⟩ := pickIx_val hp n (j + 1) h
      exact ⟨i, by omega, by omega, h3⟩
    · cases h

theorem lss_den {a b : IE} {v : Bool} (h : (mkCmp .lss a b).den ρ = v) : (a.den ρ < b.den ρ) = (v = true) := by
  rw [mkCmp_den] at h
  subst h
  simp [intCmp]

theorem leq_den {a b : IE} {v : Bool} (h : (mkCmp .leq a b).den ρ = v) : (a.den ρ ≤ b.den ρ) = (v = true) := by
  rw [mkCmp_den] at h
  subst h
  simp [intCmp]

theorem den_cmp (op : BinOp) (a b : IE) : (IE.prim (.cmp op) [a, b]).den ρ = if intCmp op (a.den ρ) (b.den ρ) then 1 else 0 := by
  simp only [IE.den, IE.sv, IE.svs, Prim.den, SV.ofI]; rfl
theorem den_bnot (a : IE) : (IE.prim .bnot [a]).den ρ = if a.den ρ ≠ 0 then 0 else 1 := by
  simp only [IE.den, IE.sv, IE.svs, Prim.den, SV.ofI]; rfl
theorem den_band (a b : IE) : (IE.prim .band [a, b]).den ρ = if a.den ρ ≠ 0 ∧ b.den ρ ≠ 0 then 1 else 0 := by
  simp only [IE.den, IE.sv, IE.svs, Prim.den, SV.ofI]; rfl
theorem den_biff (a b : IE) : (IE.prim .biff [a, b]).den ρ = if (a.den ρ ≠ 0 ↔ b.den ρ ≠ 0) then 1 else 0 := by
  simp only [IE.den, IE.sv, IE.svs, Prim.den, SV.ofI]; rfl
theorem den_sseq (a b : IE) : (IE.prim .sseq [a, b]).den ρ = if (a.sv ρ).s = (b.sv ρ).s then 1 else 0 := by
  simp only [IE.den, IE.sv, IE.svs, Prim.den, SV.ofI]; rfl

theorem toIE_bool : ∀ b : BE, decide (b.toIE.den ρ ≠ 0) = b.den ρ
  | .lit b => by cases b <;> rfl
  | .at i => rfl
  | .cmp op a b => by
    rw [BE.toIE, den_cmp, BE.den]
    cases intCmp op (a.den ρ) (b.den ρ) <;> rfl
  | .not a => by
    rw [BE.toIE, den_bnot, BE.den, ← toIE_bool a]
    by_cases h : a.toIE.den ρ = 0 <;> simp [h]
  | .is e => rfl
  | .seq a b => by
    rw [BE.toIE, den_sseq, BE.den]
    by_cases h : (a.sv ρ).s = (b.sv ρ).s <;> simp [h]
  | .iff a b => by
    rw [BE.toIE, den_biff, BE.den, ← toIE_bool a, ← toIE_bool b]
    by_cases h : a.toIE.den ρ = 0 <;> by_cases h' : b.toIE.den ρ = 0 <;> simp [h, h']
  | .and a b => by
    rw [BE.toIE, den_band, BE.den, ← toIE_bool a, ← toIE_bool b]
    by_cases h : a.toIE.den ρ = 0 <;> by_cases h' : b.toIE.den ρ = 0 <;> simp [h, h']

theorem lit_den (n : Int) : (IE.lit n).den ρ = n := rfl

theorem plusE_den (a b : IE) : (plusE a b).den ρ = a.den ρ + b.den ρ := by
  unfold plusE
  split
  · rfl
  · split
    · rename_i h
      have := of_decide_eq_true h
      subst this
      rw [lit_den]; omega
    · simp [IE.den, IE.sv, IE.svs, Prim.den, SV.ofI, SV.i]
  · split
    · rename_i h
      have := of_decide_eq_true h
      subst this
      rw [lit_den]; omega
    · simp [IE.den, IE.sv, IE.svs, Prim.den, SV.ofI, SV.i]
  · simp [IE.den, IE.sv, IE.svs, Prim.den, SV.ofI, SV.i]

theorem minusE_den (a b : IE) : (minusE a b).den ρ = a.den ρ - b.den ρ := by
  unfold minusE
  split
  · rfl
  · split
    · rename_i h
      have := of_decide_eq_true h
      subst this
      rw [lit_den]; omega
    · simp [IE.den, IE.sv, IE.svs, Prim.den, SV.ofI, SV.i]
  · simp [IE.den, IE.sv, IE.svs, Prim.den, SV.ofI, SV.i]

theorem mkIff_den (a b : BE) : (mkIff a b).den ρ = (a.den ρ == b.den ρ) := by
  unfold mkIff
  split <;> first | (simp [BE.den]; done) | skip
  split
  · rename_i hs
    rw [BE.same_eq hs]; simp [BE.den]
  · rfl

theorem mkSeq_den (a b : IE) : (mkSeq a b).den ρ = decide ((a.sv ρ).s = (b.sv ρ).s) := by
  unfold mkSeq
  split
  · rename_i hs
    rw [IE.same_eq hs]; simp [BE.den]
  · split
    · rename_i s t _
      show decide (s.data.toList = t.data.toList) = decide (s = t)
      by_cases e : s = t
      · subst e; simp
      · have : ¬ s.data.toList = t.data.toList := fun e' => e (by cases s; cases t; simp only at e'; rw [Array.toList_inj.1 e'])
        rw [decide_eq_false e, decide_eq_false this]
    · simp only [BE.den]
      rw [Bool.eq_iff_iff]
      simp only [decide_eq_true_eq]
      exact eq_comm
    · rfl

theorem strOf_some {v : AV} {e : IE} {u : Value} (h : strOf v = some e) (hv : VRel ρ δ v u) : u = .string (e.sv ρ).s := by
  unfold strOf at h
  split at h
  · simp only [Option.some.injEq] at h; subst h; simpa only [VRel] using hv
  · simp only [Option.some.injEq] at h; subst h
    simp only [VRel] at hv
    rw [hv]; rfl
  · cases h

theorem lenS_den (e : IE) : (lenS e).den ρ = ((e.sv ρ).s.size : Int) := by
  unfold lenS
  split
  · simp [IE.den, IE.sv, SV.ofI, SV.i, SV.ofS, SV.s]
  · simp [IE.den, IE.sv, IE.svs, Prim.den, SV.ofI, SV.i]

theorem intOf_some {v : AV} {e : IE} {u : Value} (h : intOf v = some e) (hv : VRel ρ δ v u) : ∃ k, u = .int k (e.den ρ) := by
  unfold intOf at h
  split at h
  · simp only [Option.some.injEq] at h; subst h; exact ⟨_, by simpa only [VRel] using hv⟩
  · cases h

/-- An optional bound. -/
theorem bdOf_some {tm : TM} {a : Act} {x : Option Operand} {d e : IE} (ho : EvOK ρ δ tm a x.toList) (h : bdOf tm d x = some e) :
    (x = none ∧ e = d) ∨ ∃ y k, x = some y ∧ a.eval y = .int k (e.den ρ) := by
  cases x with
  | none => simp [bdOf] at h; exact .inl ⟨rfl, h.symm⟩
  | some y =>
    right
    simp only [bdOf] at h
    split at h
    · rename_i v hv
      obtain ⟨k, hk⟩ := intOf_some h (ho y (by simp) v hv)
      exact ⟨y, k, rfl, hk⟩
    · cases h

theorem run_sliceBound_int {k : IntKind} {n : Int} {y : Nat} (h0 : 0 ≤ n) (h : n ≤ (y : Int)) (c : BoundsCode) (w : World) : (Instr.sliceBound (.int k n) y c).run P w = .ok n.toNat w := by
  simp [Instr.sliceBound, asIntOf, h0, h]

/-- Bounds that fit. -/
theorem run_sliceBounds_ok {isSlice : Bool} {len cap : Nat} {lo hi : Option Value} {l h : Nat}
    (hh : match hi with | none => h = len | some v => ∃ k, v = .int k (h : Int) ∧ h ≤ cap)
    (hl : match lo with | none => l = 0 | some v => ∃ k, v = .int k (l : Int) ∧ l ≤ h) (w : World) :
    (Instr.sliceBounds isSlice len cap lo hi none).run P w = .ok (l, h, cap) w := by
  simp only [Instr.sliceBounds]
  cases hi with
  | none =>
    simp only at hh; subst hh
    cases lo with
    | none => simp only at hl; subst hl; simp
    | some v => obtain ⟨k, rfl, hl2⟩ := hl; simp [run_sliceBound hl2]
  | some v =>
    obtain ⟨k, rfl, hh2⟩ := hh
    cases lo with
    | none => simp only at hl; subst hl; simp [run_sliceBound hh2]
    | some v => obtain ⟨k, rfl, hl2⟩ := hl; simp [run_sliceBound hl2, run_sliceBound hh2]

/-- A slice of a slice, of numbers; maybe nil. -/
theorem run_slice_opt {t elem : TypeId} {size : Nat} (hu : P.underlying t = some (.slice elem)) (hs : sizeOfT P elem = some size) (ad : Option Addr) (len cap : Nat) (lo hi : Option Value) (l h : Nat)
    (hh : match hi with | none => h = len | some v => ∃ k, v = .int k (h : Int) ∧ h ≤ cap)
    (hl : match lo with | none => l = 0 | some v => ∃ k, v = .int k (l : Int) ∧ l ≤ h) (w : World) :
    (Instr.sliceAt t (.slice ad len cap) lo hi none).run P w = .ok (.slice (if cap = l then ad else ad.map (·.add (l * size))) (h - l) (cap - l)) w := by
  simp only [Instr.sliceAt, Sem.run_bind, run_underlying hu, Result.andThen_ok]
  simp only [Instr.slice, Sem.run_bind, run_underlying hu, Result.andThen_ok, run_sliceBounds_ok hh hl, run_sizeOfT hs, Sem.run_pure]

theorem toList_map_eval {a : Act} {xs : Option Operand} : (xs.map a.eval).toList = xs.toList.map a.eval := by cases xs <;> rfl

theorem equalIn_bool {t : TypeId} (hd : P.underlying t = some .bool) (a b : Bool) (d : Nat) (w : World) : (Op.equalIn (d + 1) t (.bool a) (.bool b)).run P w = .ok (a == b) w := by
  simp [Op.equalIn, run_underlying hd]
theorem equal_bool {t : TypeId} (hd : P.underlying t = some .bool) (a b : Bool) (w : World) : (Op.equal t (.bool a) (.bool b)).run P w = .ok (a == b) w := equalIn_bool hd a b 9999 w

set_option maxHeartbeats 1000000 in
theorem popx_sound {pc : PC} {tm : TM} {a : Act} {o : Oper} {v : AV} (hp : PCh ρ pc) (ho : EvOK ρ δ tm a o.op.operands.toList) (h : popx P pc tm o = .val v) : Gives P ρ δ a o v := by
  have val : ∀ {x : Operand} {u : AV}, x ∈ o.op.operands.toList → ev tm x = some u → VRel ρ δ u (a.eval x) := fun hx hu => ho _ hx _ hu
  obtain ⟨dst, op, type, pos, after, guard⟩ := o
  unfold popx at h
  split at h
  · -- indexAddr
    rename_i t x i hop
    simp only at hop; subst hop
    split at h
    · -- a row's slice
      rename_i elem n rm wd lo len ex cap k e hu hx hi
      have h1 := val (x := x) (by simp [Op.operands]) hx
      have h2 := val (x := i) (by simp [Op.operands]) hi
      simp only [VRel] at h1 h2
      split at h
      case h_2 => cases h
      rename_i size hs
      split at h
      case h_2 => cases h
      rename_i hsw
      have hsw := beq_eq hsw
      subst hsw
      obtain ⟨h3, h⟩ := askB_val hp h
      obtain ⟨h4, h⟩ := askB_val hp h
      simp only [PR.val.injEq] at h; subst h
      have h3 := lss_den h3
      have h4 := lss_den h4
      rw [lit_den] at h3
      simp only [eq_iff_iff, Bool.false_eq_true, iff_false] at h3
      simp only [eq_iff_iff, iff_true] at h4
      obtain ⟨g1, g2, g3, b, o, r, cnt, c, g4, g5, g6, g7, g8, g9, g10⟩ := h1
      obtain ⟨i', hi'⟩ : ∃ i' : Nat, e.den ρ = (i' : Int) := ⟨(e.den ρ).toNat, by omega⟩
      rcases g10 with ⟨g10, _⟩ | ⟨g10, g11, g12⟩
      · omega
      refine Gives.mk (s := Instr.indexAt t (a.eval x) (a.eval i)) rfl ⟨.pointer (some ((⟨b, o + (lo.den ρ).toNat * size, none⟩ : Addr).add (i' * size))), ?_, fun w => ?_⟩
      rotate_left
      · rw [h2, g12, hi']
        exact run_indexAt_ok hs (.inr ⟨hu, _, rfl⟩) (by omega) k w
      · simp only [VRel]
        refine ⟨b, o, cnt, g4, g6, ?_, ?_⟩
        · rw [plusE_den]; omega
        · rw [addr_add, plusE_den, Nat.add_zero]
          have : (lo.den ρ + e.den ρ).toNat = (lo.den ρ).toNat + i' := by omega
          rw [this, Nat.add_mul, Nat.add_assoc]
    · -- an array
      rename_i len elem n off k e hu hx hi
      have h1 := val (x := x) (by simp [Op.operands]) hx
      have h2 := val (x := i) (by simp [Op.operands]) hi
      simp only [VRel] at h1 h2
      split at h
      case h_2 => cases h
      rename_i size hs
      obtain ⟨j, _, hj, hd, h⟩ := pickIx_val hp _ _ h
      simp only [PR.val.injEq] at h; subst h
      obtain ⟨b, o, g1, g2⟩ := h1
      refine Gives.mk (s := Instr.indexAt t (a.eval x) (a.eval i)) rfl ⟨.pointer (some ((⟨b, o + off, none⟩ : Addr).add (j * size))), ?_, fun w => ?_⟩
      rotate_left
      · rw [h2, g2, hd]
        exact run_indexAt_ok hs (.inl ⟨hu, rfl⟩) (by omega) k w
      · simp only [VRel]
        exact ⟨b, o, g1, by rw [addr_add, Nat.add_assoc]⟩
    · -- a slice
      rename_i elem n off len cap k e hu hx hi
      have h1 := val (x := x) (by simp [Op.operands]) hx
      have h2 := val (x := i) (by simp [Op.operands]) hi
      simp only [VRel] at h1 h2
      split at h
      case h_2 => cases h
      rename_i size hla hs
      obtain ⟨j, _, hj, hd, h⟩ := pickIx_val hp _ _ h
      simp only [PR.val.injEq] at h; subst h
      obtain ⟨b, o, c, g1, _, g2⟩ := h1
      have hlen : len.den ρ = len.n := by simp [NE.den, hla]
      refine Gives.mk (s := Instr.indexAt t (a.eval x) (a.eval i)) rfl ⟨.pointer (some ((⟨b, o + off, none⟩ : Addr).add (j * size))), ?_, fun w => ?_⟩
      rotate_left
      · rw [h2, g2, hd, hlen]
        exact run_indexAt_ok hs (.inr ⟨hu, _, rfl⟩) (by omega) k w
      · simp only [VRel]
        exact ⟨b, o, g1, by rw [addr_add, Nat.add_assoc]⟩
    · -- an array in a row
      rename_i len elem n rm wd ix f k e hu hx hi
      have h1 := val (x := x) (by simp [Op.operands]) hx
      have h2 := val (x := i) (by simp [Op.operands]) hi
      simp only [VRel] at h1 h2
      split at h
      case h_2 => cases h
      rename_i size hs
      obtain ⟨j, _, hj, hd, h⟩ := pickIx_val hp _ _ h
      simp only [PR.val.injEq] at h; subst h
      obtain ⟨b, o, cnt, g1, g2, g3, g4⟩ := h1
      refine Gives.mk (s := Instr.indexAt t (a.eval x) (a.eval i)) rfl ⟨.pointer (some ((⟨b, o + ((ix.den ρ).toNat * wd + f), none⟩ : Addr).add (j * size))), ?_, fun w => ?_⟩
      rotate_left
      · rw [h2, g4, hd]
        exact run_indexAt_ok hs (.inl ⟨hu, rfl⟩) (by omega) k w
      · simp only [VRel]
        exact ⟨b, o, cnt, g1, g2, g3, by rw [addr_add]; simp only [Nat.add_assoc]⟩
    · cases h
  · -- fieldAddr
    rename_i s x f hop
    simp only at hop; subst hop
    split at h
    case h_2 => cases h
    rename_i fs n rm wd ix g hu hx
    have h1 := val (x := x) (by simp [Op.operands]) hx
    simp only [VRel] at h1
    split at h
    case h_2 => cases h
    rename_i fl hf
    split at h
    case h_2 => cases h
    rename_i sz hs
    simp only [PR.val.injEq] at h; subst h
    obtain ⟨b, o, cnt, g1, g2, g3, g4⟩ := h1
    refine Gives.mk (s := Instr.fieldAt s (a.eval x) f) rfl ⟨.pointer (some ⟨b, o + ((ix.den ρ).toNat * wd + g) + fl.offset, none⟩), ?_, fun w => ?_⟩
    · simp only [VRel]
      exact ⟨b, o, cnt, g1, g2, g3, by simp only [Nat.add_assoc]⟩
    · rw [g4]
      simp [Instr.fieldAt, run_underlying hu, hf, Instr.sureAddr, fieldPlace, run_sizeOfT hs, addr_add]
  · -- nilCheck
    rename_i x hop
    simp only at hop; subst hop
    split at h
    case h_2 => cases h
    rename_i n rm wd ix f he
    have hc := val (x := x) (by simp [Op.operands]) he
    simp only [PR.val.injEq] at h; subst h
    refine ⟨_, hc, fun w => ?_⟩
    simp only [VRel] at hc
    obtain ⟨b, o, cnt, _, _, _, hx⟩ := hc
    simp [execOp, hx]
  · -- slice
    rename_i t x lo hi hop
    simp only at hop; subst hop
    split at h
    · rename_i elem n rm wd l0 len ex cap hu hx
      have h1 := val (x := x) (by simp [Op.operands]) hx
      simp only [VRel] at h1
      split at h
      case h_2 => cases h
      rename_i size l hh hs hl hhi
      split at h
      case h_2 => cases h
      rename_i hsw
      have hsw := beq_eq hsw
      subst hsw
      obtain ⟨h3, h⟩ := askB_val hp h
      obtain ⟨h4, h⟩ := askB_val hp h
      obtain ⟨h5, h⟩ := askB_val hp h
      simp only [PR.val.injEq] at h; subst h
      have h3 := lss_den h3
      have h4 := leq_den h4
      rw [lit_den] at h3
      simp only [eq_iff_iff, Bool.false_eq_true, iff_false] at h3
      simp only [eq_iff_iff, iff_true] at h4
      obtain ⟨g1, g2, g3, b, o, r, cnt, c, g4, g5, g6, g7, g8, g9, g10⟩ := h1
      have hhb : hh.den ρ ≤ len.den ρ := by
        cases hi with
        | none => simp [bdOf] at hhi; subst hhi; exact Int.le_refl _
        | some y => have := leq_den h5; simp only [eq_iff_iff, iff_true] at this; exact this
      obtain ⟨l', hl'⟩ : ∃ l' : Nat, l.den ρ = (l' : Int) := ⟨(l.den ρ).toNat, by omega⟩
      obtain ⟨h', hh'⟩ : ∃ h' : Nat, hh.den ρ = (h' : Int) := ⟨(hh.den ρ).toNat, by omega⟩
      have hL : match (lo.map a.eval) with | none => l' = 0 | some v => ∃ k, v = .int k (l' : Int) ∧ l' ≤ h' := by
        rcases bdOf_some (ρ := ρ) (δ := δ) (fun y hy => ho y (by simp [Op.operands] at hy ⊢; simp [hy])) hl with ⟨rfl, rfl⟩ | ⟨y, k, rfl, hy⟩
        · simp only [Option.map_none]; rw [lit_den] at hl'; omega
        · simp only [Option.map_some]; exact ⟨k, by rw [hy, hl'], by omega⟩
      have key : ∀ (p : Option Addr) (w : World), a.eval x = .slice p (len.den ρ).toNat c → (Instr.sliceAt t (a.eval x) (lo.map a.eval) (hi.map a.eval) none).run P w =
          .ok (.slice (if c = l' then p else p.map (·.add (l' * size))) (h' - l') (c - l')) w := by
        intro p w hpx
        rw [hpx]
        refine run_slice_opt hu hs p _ c _ _ l' h' ?_ hL w
        rcases bdOf_some (ρ := ρ) (δ := δ) (fun y hy => ho y (by simp [Op.operands] at hy ⊢; simp [hy])) hhi with ⟨rfl, rfl⟩ | ⟨y, k, rfl, hy⟩
        · simp only [Option.map_none]; omega
        · simp only [Option.map_some]; exact ⟨k, by rw [hy, hh'], by omega⟩
      have hgo : ∀ (p : Option Addr), a.eval x = .slice p (len.den ρ).toNat c →
          ((c = 0 ∨ c = l') ∨ (b ≠ gy ∧ ((l0.den ρ).toNat + c) * size ≤ r ∧ p = some ⟨b, o + (l0.den ρ).toNat * size, none⟩)) →
          Gives P ρ δ a ⟨dst, .slice t x lo hi none, type, pos, after, guard⟩ (.sl n rm size (plusE l0 l) (minusE hh l) ex (minusE cap l)) := by
        intro p hpx hcase
        refine Gives.mk (s := Instr.sliceAt t (a.eval x) (lo.map a.eval) (hi.map a.eval) none) rfl ⟨_, ?_, fun w => key p w hpx⟩
        simp only [VRel]
        rw [plusE_den, minusE_den, minusE_den]
        refine ⟨by omega, by omega, by omega, b, o, r, cnt, c - l', g4, g5, g6, by omega, by omega, fun e => by have := g9 e; omega, ?_⟩
        rcases hcase with hcase | ⟨hbg, hroom, rfl⟩
        · left
          have hc0 : c - l' = 0 := by omega
          exact ⟨hc0, _, by rw [hc0, show h' - l' = 0 by omega]⟩
        · by_cases hcl : c = l'
          · left
            have hc0 : c - l' = 0 := by omega
            exact ⟨hc0, _, by rw [hc0, show h' - l' = 0 by omega]⟩
          · right
            refine ⟨hbg, ?_, ?_⟩
            · have : (l0.den ρ + l.den ρ).toNat + (c - l') = (l0.den ρ).toNat + c := by omega
              rw [this]; exact hroom
            · have h6 : (l0.den ρ + l.den ρ).toNat = (l0.den ρ).toNat + l' := by omega
              have h7 : (hh.den ρ - l.den ρ).toNat = h' - l' := by omega
              rw [h6, h7, if_neg hcl, Nat.add_mul]
              simp [addr_add, Nat.add_assoc]
      rcases g10 with ⟨g10, p, g11⟩ | ⟨g10, g11, g12⟩
      · exact hgo p (by rw [g11, g10]; have : (len.den ρ).toNat = 0 := by omega
                        rw [this]) (.inl (.inl g10))
      · exact hgo _ g12 (.inr ⟨g10, g11, rfl⟩)
    · rename_i u hu hx
      split at h
      case h_2 => cases h
      rename_i s hso
      have h1 := strOf_some hso (val (x := x) (by simp [Op.operands]) hx)
      split at h
      case h_2 => cases h
      rename_i l hh hl hhi
      obtain ⟨h3, h⟩ := askB_val hp h
      obtain ⟨h4, h⟩ := askB_val hp h
      obtain ⟨h5, h⟩ := askB_val hp h
      simp only [PR.val.injEq] at h; subst h
      have h3 := lss_den h3
      have h4 := leq_den h4
      rw [lit_den] at h3
      simp only [eq_iff_iff, Bool.false_eq_true, iff_false] at h3
      simp only [eq_iff_iff, iff_true] at h4
      have hhb : hh.den ρ ≤ ((s.sv ρ).s.size : Int) := by
        cases hi with
        | none => simp [bdOf] at hhi; subst hhi; rw [lenS_den]; exact Int.le_refl _
        | some y => have := leq_den h5; simp only [eq_iff_iff, iff_true] at this; rw [lenS_den] at this; exact this
      obtain ⟨l', hl'⟩ : ∃ l' : Nat, l.den ρ = (l' : Int) := ⟨(l.den ρ).toNat, by omega⟩
      obtain ⟨h', hh'⟩ : ∃ h' : Nat, hh.den ρ = (h' : Int) := ⟨(hh.den ρ).toNat, by omega⟩
      have hL : match (lo.map a.eval) with | none => l' = 0 | some v => ∃ k, v = .int k (l' : Int) ∧ l' ≤ h' := by
        rcases bdOf_some (ρ := ρ) (δ := δ) (fun y hy => ho y (by simp [Op.operands] at hy ⊢; simp [hy])) hl with ⟨rfl, rfl⟩ | ⟨y, k, rfl, hy⟩
        · simp only [Option.map_none]; rw [lit_den] at hl'; omega
        · simp only [Option.map_some]; exact ⟨k, by rw [hy, hl'], by omega⟩
      have hH : match (hi.map a.eval) with | none => h' = (s.sv ρ).s.size | some v => ∃ k, v = .int k (h' : Int) ∧ h' ≤ (s.sv ρ).s.size := by
        rcases bdOf_some (ρ := ρ) (δ := δ) (fun y hy => ho y (by simp [Op.operands] at hy ⊢; simp [hy])) hhi with ⟨rfl, rfl⟩ | ⟨y, k, rfl, hy⟩
        · simp only [Option.map_none]; rw [lenS_den] at hh'; omega
        · simp only [Option.map_some]; exact ⟨k, by rw [hy, hh'], by omega⟩
      refine Gives.mk (s := Instr.sliceAt t (a.eval x) (lo.map a.eval) (hi.map a.eval) none) rfl ⟨.string ((s.sv ρ).s.extract l' h'), ?_, fun w => ?_⟩
      · simp only [VRel, IE.sv, IE.svs, Prim.den, SV.ofS, SV.s]
        have e2 : (l.sv ρ).i.toNat = l' := by have : (l.sv ρ).i = l.den ρ := rfl
                                              rw [this]; omega
        have e3 : (hh.sv ρ).i.toNat = h' := by have : (hh.sv ρ).i = hh.den ρ := rfl
                                               rw [this]; omega
        rw [← e2, ← e3]
      · rw [h1]
        simp only [Instr.sliceAt, Sem.run_bind, run_underlying hu, Result.andThen_ok]
        simp only [Instr.slice, Sem.run_bind, run_underlying hu, Result.andThen_ok]
        have := run_sliceBounds_ok (P := P) (isSlice := false) (len := (s.sv ρ).s.size) (cap := (s.sv ρ).s.size) hH hL w
        simp [this]
    · cases h
  · -- index
    rename_i t x i hop
    simp only at hop; subst hop
    split at h
    · rename_i len elem cs k e hu hx hi
      have h1 := val (x := x) (by simp [Op.operands]) hx
      have h2 := val (x := i) (by simp [Op.operands]) hi
      simp only [VRel] at h1 h2
      obtain ⟨us, hus, hr⟩ := h1
      split at h
      case h_2 => cases h
      rename_i size hs
      obtain ⟨j, _, hj, hd, h⟩ := pickIx_val hp _ _ h
      obtain ⟨u, hu1, hu2⟩ := apart_sound (P := P) hr (ofO_val h)
      refine Gives.mk (s := Instr.index t (a.eval x) (a.eval i)) rfl ⟨u, hu1, fun w => ?_⟩
      rw [hus, h2, hd]
      have hj' : j < len := by omega
      simp [Instr.index, asIntOf, run_underlying hu, hj', run_sizeOfT hs, hu2]
    · rename_i v' k e hu hx hi
      split at h
      case h_2 => cases h
      rename_i s hso
      have h1 := strOf_some hso (val (x := x) (by simp [Op.operands]) hx)
      have h2 := val (x := i) (by simp [Op.operands]) hi
      simp only [VRel] at h2
      obtain ⟨h3, h⟩ := askB_val hp h
      obtain ⟨h4, h⟩ := askB_val hp h
      simp only [PR.val.injEq] at h; subst h
      have h3 := lss_den h3
      have h4 := lss_den h4
      rw [lit_den] at h3
      simp only [eq_iff_iff, Bool.false_eq_true, iff_false] at h3
      simp only [eq_iff_iff, iff_true] at h4
      rw [lenS_den] at h4
      obtain ⟨i', hi'⟩ : ∃ i' : Nat, e.den ρ = (i' : Int) := ⟨(e.den ρ).toNat, by omega⟩
      have hlt : i' < (s.sv ρ).s.size := by omega
      have hb : (s.sv ρ).s[i']? = some ((s.sv ρ).s[i']) := by rw [getElem?_pos]
      refine Gives.mk (s := Instr.index t (a.eval x) (a.eval i)) rfl ⟨.int .u8 (((s.sv ρ).s[i']).toNat : Int), ?_, fun w => ?_⟩
      · simp only [VRel, IE.den, IE.sv, IE.svs, Prim.den, SV.ofI]
        have e2 : (e.sv ρ).i.toNat = i' := by have : (e.sv ρ).i = e.den ρ := rfl
                                              rw [this]; omega
        rw [e2]
        have : (s.sv ρ).s.data.toList.getD i' 0 = (s.sv ρ).s[i'] := by
          have hl : i' < (s.sv ρ).s.data.toList.length := by simpa using hlt
          rw [List.getD_eq_getElem?_getD, List.getElem?_eq_getElem hl]
          simp; rfl
        rw [this]; rfl
      · rw [h1, h2, hi']
        simp [Instr.index, asIntOf, run_underlying hu, hb]
    · cases h
  · -- binOp
    rename_i op t x y yt hop
    simp only at hop; subst hop
    split at h
    · rename_i p q hx hy
      have h1 := val (x := x) (by simp [Op.operands]) hx
      have h2 := val (x := y) (by simp [Op.operands]) hy
      simp only [VRel] at h1 h2
      split at h
      case h_2 => cases h
      rename_i hu
      split at h
      · simp only [PR.val.injEq] at h; subst h
        refine Gives.mk (s := do eqGuard .eql t x y (a.eval x) (a.eval y); binOp .eql t (a.eval x) (a.eval y)) rfl ⟨_, VRel.bool, fun w => ?_⟩
        rw [h1, h2, mkIff_den]
        have hg : (eqGuard .eql t x y (.bool (p.den ρ)) (.bool (q.den ρ))).run P w = .ok () w := rfl
        simp only [Sem.run_bind, hg, Result.andThen_ok, binOp, equal_bool hu, Sem.run_pure]
      · simp only [PR.val.injEq] at h; subst h
        refine Gives.mk (s := do eqGuard .neq t x y (a.eval x) (a.eval y); binOp .neq t (a.eval x) (a.eval y)) rfl ⟨_, VRel.bool, fun w => ?_⟩
        rw [h1, h2, mkNot_den, mkIff_den]
        have hg : (eqGuard .neq t x y (.bool (p.den ρ)) (.bool (q.den ρ))).run P w = .ok () w := rfl
        simp only [Sem.run_bind, hg, Result.andThen_ok, binOp, equal_bool hu, Sem.run_pure]
      · cases h
    · rename_i p q _ hx hy
      split at h
      case h_2 => cases h
      rename_i s s' hs hs'
      have h1 := strOf_some hs (val (x := x) (by simp [Op.operands]) hx)
      have h2 := strOf_some hs' (val (x := y) (by simp [Op.operands]) hy)
      have heq : ∀ b c : ByteArray, (b.toList == c.toList) = decide (b = c) := by
        intro b c
        have hl : ∀ d : ByteArray, d.toList = d.data.toList := fun d => ByteArray.toList_eq d
        by_cases e : b = c
        · subst e; simp
        · have : b.toList ≠ c.toList := by
            rw [hl, hl]; intro e'; exact e (by cases b; cases c; simp only at e'; rw [Array.toList_inj.1 e'])
          simp [e, this]
      split at h
      · simp only [PR.val.injEq] at h; subst h
        refine Gives.mk (s := do eqGuard .eql t x y (a.eval x) (a.eval y); binOp .eql t (a.eval x) (a.eval y)) rfl ⟨_, VRel.bool, fun w => ?_⟩
        rw [h1, h2]
        simp only [eqGuard, binOp, Op.stringOp, heq, mkSeq_den]
        simp
      · simp only [PR.val.injEq] at h; subst h
        refine Gives.mk (s := do eqGuard .neq t x y (a.eval x) (a.eval y); binOp .neq t (a.eval x) (a.eval y)) rfl ⟨_, VRel.bool, fun w => ?_⟩
        rw [h1, h2]
        simp only [eqGuard, binOp, Op.stringOp, heq, mkNot_den, mkSeq_den]
        simp
      · obtain ⟨h3, h⟩ := askB_val hp h
        simp only [PR.val.injEq] at h; subst h
        have h3 := leq_den (a := plusE (lenS s) (lenS s')) (b := .lit 9223372036854775807) (v := true) (ρ := ρ) (by rw [mkCmp_den]; simpa [BE.den] using h3)
        simp only [eq_iff_iff, iff_true] at h3
        rw [plusE_den, lenS_den, lenS_den, lit_den] at h3
        refine Gives.mk (s := do eqGuard .add t x y (a.eval x) (a.eval y); binOp .add t (a.eval x) (a.eval y)) rfl ⟨.string ((s.sv ρ).s ++ (s'.sv ρ).s), ?_, fun w => ?_⟩
        · simp only [VRel, IE.sv, IE.svs, Prim.den, SV.ofS, SV.s]
        · rw [h1, h2]
          have hn : ¬ (((s.sv ρ).s.size + (s'.sv ρ).s.size : Nat) : Int) > IntKind.i64.max := by
            have : IntKind.i64.max = 9223372036854775807 := rfl
            omega
          simp only [eqGuard, binOp, Op.stringOp]
          simp only [if_neg hn]
          simp
      · cases h
    · cases h
  · -- unOp
    rename_i t x hop
    simp only at hop; subst hop
    split at h
    case h_2 => cases h
    rename_i k e hx
    have h1 := val (x := x) (by simp [Op.operands]) hx
    simp only [VRel] at h1
    simp only [PR.val.injEq] at h; subst h
    refine Gives.mk (s := Op.unary .neg (a.eval x)) rfl ⟨_, VRel.int, fun w => ?_⟩
    rw [h1, mkBin_den]
    simp [Op.unary, Op.intArith, intBin, lit_den]
  · -- len
    rename_i args ts hop
    simp only at hop; subst hop
    have hlen : ∀ t x, ts.toList = [t] → args.toList = [x] → ∀ (n : Int) , (∀ w, (Builtin.len_ #[t] type #[a.eval x]).run P w = .ok (goInt n) w) →
        ∀ w, (execOp a.eval ⟨dst, .call { callee := .builtin .len, args := args, argTypes := ts }, type, pos, after, guard⟩).run P w = .ok (.value (.int .i64 n)) w := by
      intro t x ht hx n hr w
      have ht' : ts = #[t] := by rw [← Array.toArray_toList (xs := ts), ht]
      have hx' : args = #[x] := by rw [← Array.toArray_toList (xs := args), hx]
      subst ht' hx'
      simp [execOp, resolve, invoke, builtin, hr, goInt]
    split at h
    case h_2 => cases h
    rename_i t x ht hx
    have hm : x ∈ (Op.call { callee := .builtin .len, args := args, argTypes := ts }).operands.toList := by simp [Op.operands, Call.operands, hx]
    split at h
    · rename_i e n rm wd lo len ex cap hu he
      have h1 := val hm he
      simp only [VRel] at h1
      simp only [PR.val.injEq] at h; subst h
      refine ⟨_, VRel.int, hlen t x ht hx _ fun w => ?_⟩
      obtain ⟨g1, g2, g3, b, o, r, cnt, c, _, _, _, _, g8, _, g10⟩ := h1
      have hl : ((len.den ρ).toNat : Int) = len.den ρ := by omega
      rcases g10 with ⟨g10, p, g11⟩ | ⟨_, _, g11⟩
      · rw [g11]
        have : len.den ρ = 0 := by omega
        rw [this]
        simp [Builtin.len_, run_underlying hu]
      · rw [g11]
        simp [Builtin.len_, run_underlying hu, hl]
    · rename_i e hu he
      have h1 := val hm he
      simp only [VRel] at h1
      simp only [PR.val.injEq] at h; subst h
      refine ⟨_, VRel.int, hlen t x ht hx _ fun w => ?_⟩
      rw [h1]
      simp [Builtin.len_, run_underlying hu, IE.den, IE.sv, IE.svs, Prim.den, SV.ofI, SV.i]
    · cases h
  · -- max
    rename_i args ts hop
    simp only at hop; subst hop
    split at h
    case h_2 => cases h
    rename_i x y hxy
    have hargs : args = #[x, y] := by rw [← Array.toArray_toList (xs := args), hxy]
    subst hargs
    split at h
    case h_2 => cases h
    rename_i k p k' q hx hy
    have h1 := val (x := x) (by simp [Op.operands, Call.operands]) hx
    have h2 := val (x := y) (by simp [Op.operands, Call.operands]) hy
    simp only [VRel] at h1 h2
    split at h
    case h_2 => cases h
    rename_i hk
    have hk := of_decide_eq_true hk
    subst hk
    have run : ∀ w, (execOp a.eval ⟨dst, .call { callee := .builtin .max, args := #[x, y], argTypes := ts }, type, pos, after, guard⟩).run P w = .ok (.value (.int k (if q.den ρ > p.den ρ then q.den ρ else p.den ρ))) w := by
      intro w
      simp [execOp, resolve, invoke, builtin, Builtin.max_, h1, h2, Builtin.max2]
    split at h
    · rename_i hd
      have hd := lss_den (dec_sound hp hd)
      simp only [eq_iff_iff, iff_true] at hd
      simp only [PR.val.injEq] at h; subst h
      exact ⟨_, VRel.int, fun w => by rw [run w, if_pos (show q.den ρ > p.den ρ from hd)]⟩
    · rename_i hd
      have hd := lss_den (dec_sound hp hd)
      simp only [eq_iff_iff, Bool.false_eq_true, iff_false] at hd
      simp only [PR.val.injEq] at h; subst h
      exact ⟨_, VRel.int, fun w => by rw [run w, if_neg (show ¬ q.den ρ > p.den ρ from hd)]⟩
    · cases h
  · -- min
    rename_i args ts hop
    simp only at hop; subst hop
    split at h
    case h_2 => cases h
    rename_i x y hxy
    have hargs : args = #[x, y] := by rw [← Array.toArray_toList (xs := args), hxy]
    subst hargs
    split at h
    case h_2 => cases h
    rename_i k p k' q hx hy
    have h1 := val (x := x) (by simp [Op.operands, Call.operands]) hx
    have h2 := val (x := y) (by simp [Op.operands, Call.operands]) hy
    simp only [VRel] at h1 h2
    split at h
    case h_2 => cases h
    rename_i hk
    have hk := of_decide_eq_true hk
    subst hk
    have run : ∀ w, (execOp a.eval ⟨dst, .call { callee := .builtin .min, args := #[x, y], argTypes := ts }, type, pos, after, guard⟩).run P w = .ok (.value (.int k (if q.den ρ < p.den ρ then q.den ρ else p.den ρ))) w := by
      intro w
      simp [execOp, resolve, invoke, builtin, Builtin.min_, h1, h2, Builtin.min2]
    split at h
    · rename_i hd
      have hd := lss_den (dec_sound hp hd)
      simp only [eq_iff_iff, iff_true] at hd
      simp only [PR.val.injEq] at h; subst h
      refine ⟨_, VRel.int, fun w => ?_⟩
      rw [run w, if_neg (by omega)]
    · rename_i hd
      have hd := lss_den (dec_sound hp hd)
      simp only [eq_iff_iff, Bool.false_eq_true, iff_false] at hd
      simp only [PR.val.injEq] at h; subst h
      refine ⟨_, VRel.int, fun w => ?_⟩
      rw [run w]
      by_cases e : q.den ρ < p.den ρ
      · rw [if_pos e]
      · rw [if_neg e, show p.den ρ = q.den ρ by omega]
    · cases h
  · cases h

theorem pop_sound {pc : PC} {tm : TM} {a : Act} {o : Oper} {v : AV} (hp : PCh ρ pc) (ho : EvOK ρ δ tm a o.op.operands.toList) (h : pop P pc tm o = .val v) : Gives P ρ δ a o v := by
  unfold pop at h
  split at h
  · exact popx_sound hp ho h
  · exact pop0_sound hp ho h

theorem equalIn_slice_nils {t e : TypeId} (hd : P.underlying t = some (.slice e)) (p : Option Addr) (n c d : Nat) (w : World) : (Op.equalIn (d + 1) t (.slice p n c) (.slice none 0 0)).run P w = .ok p.isNone w := by
  cases p <;> simp [Op.equalIn, run_underlying hd]

theorem nilAsk_sound {tm : TM} {a : Act} {o : Oper} {c : BE} {is : Bool} (ho : EvOK ρ δ tm a o.op.operands.toList) (h : nilAsk P tm o = some (c, is)) :
    (c.den ρ = true ∧ ∀ w, (execOp a.eval o).run P w = .ok (.value (.bool ((BE.lit is).den ρ))) w) ∨ (∀ w, (execOp a.eval o).run P w = .ok (.value (.bool ((BE.lit (!is)).den ρ))) w) := by
  obtain ⟨dst, op, type, pos, after, guard⟩ := o
  unfold nilAsk at h
  split at h
  case h_2 => cases h
  rename_i op t x y yt hop
  simp only at hop; subst hop
  split at h
  case h_2 => cases h
  rename_i elem n rm wd lo len ex cap hu hx hy
  have h1 := ho x (by simp [Op.operands]) _ hx
  have h2 := ho y (by simp [Op.operands]) _ hy
  simp only [VRel] at h1 h2
  have hp : ∃ p m c', a.eval x = .slice p m c' ∧ (p = none → len.den ρ = 0) := by
    obtain ⟨g1, g2, g3, b, o, r, cnt, c, g4, g5, g6, g7, g8, g9, g10⟩ := h1
    rcases g10 with ⟨g10, p, g11⟩ | ⟨_, _, g11⟩
    · exact ⟨p, 0, 0, g11, fun _ => by omega⟩
    · exact ⟨_, _, _, g11, fun e => by cases e⟩
  obtain ⟨p, m, c', hx', hlen⟩ := hp
  have heq : ∀ w, (Op.equal t (a.eval x) (a.eval y)).run P w = .ok p.isNone w := fun w => by rw [hx', h2]; exact equalIn_slice_nils hu p m c' 9999 w
  have hcd : len.den ρ = 0 → (mkCmp .eql len (.lit 0)).den ρ = true := fun e => by rw [mkCmp_den, lit_den]; simp [intCmp, e]
  split at h
  · simp only [Option.some.injEq, Prod.mk.injEq] at h
    obtain ⟨rfl, rfl⟩ := h
    have hrun : ∀ w, (execOp a.eval ⟨dst, .binOp .eql t x y yt, type, pos, after, guard⟩).run P w = .ok (.value (.bool p.isNone)) w := by
      intro w
      have hg : (eqGuard .eql t x y (a.eval x) (a.eval y)).run P w = .ok () w := by rw [hx', h2]; rfl
      have hb : (binOp .eql t (a.eval x) (a.eval y)).run P w = .ok (.bool p.isNone) w := by
        have := heq w
        rw [hx', h2] at this ⊢
        simp only [binOp, Sem.run_bind, this, Result.andThen_ok, Sem.run_pure]
      simp [execOp, hg, hb]
    cases p with
    | none => exact .inl ⟨hcd (hlen rfl), fun w => hrun w⟩
    | some ad => exact .inr fun w => hrun w
  · simp only [Option.some.injEq, Prod.mk.injEq] at h
    obtain ⟨rfl, rfl⟩ := h
    have hrun : ∀ w, (execOp a.eval ⟨dst, .binOp .neq t x y yt, type, pos, after, guard⟩).run P w = .ok (.value (.bool (!p.isNone))) w := by
      intro w
      have hg : (eqGuard .neq t x y (a.eval x) (a.eval y)).run P w = .ok () w := by rw [hx', h2]; rfl
      have hb : (binOp .neq t (a.eval x) (a.eval y)).run P w = .ok (.bool (!p.isNone)) w := by
        have := heq w
        rw [hx', h2] at this ⊢
        simp only [binOp, Sem.run_bind, this, Result.andThen_ok, Sem.run_pure]
      simp [execOp, hg, hb]
    cases p with
    | none => exact .inl ⟨hcd (hlen rfl), fun w => hrun w⟩
    | some ad => exact .inr fun w => hrun w
  · cases h
end
end Go.Sx
