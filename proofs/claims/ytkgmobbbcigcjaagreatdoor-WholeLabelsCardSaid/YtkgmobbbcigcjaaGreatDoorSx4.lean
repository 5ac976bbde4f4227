/- An executor for the model's Go code over an abstract state: all its pure operations. -/
import Derived.Test.YtkgmobbbcigcjaaGreatDoorSx3
import Derived.Laws.Tables
namespace Go.Sx
set_option linter.unusedVariables false
section
variable {ρ : Rho} {δ : Dl} {P : Program}

theorem run_isAgg {t : TypeId} {d : TypeDesc} (h : P.underlying t = some d) (w : World) : (isAgg t).run P w = .ok (isAggD d) w := by
  simp only [isAgg, Sem.run_bind, run_underlying h, Result.andThen_ok]
  cases d <;> rfl

theorem run_sizeOf {t : TypeId} {i : TypeInfo} (h : P.info? t = some i) (w : World) : (sizeOf t).run P w = .ok i.size w := by
  simp [sizeOf, typeInfo, h]

theorem sizeOfT_some {t : TypeId} {n : Nat} (h : sizeOfT P t = some n) : ∃ i, P.info? t = some i ∧ i.size = n := by
  unfold sizeOfT at h
  split at h
  · rename_i i hi; simp at h; exact ⟨i, hi, h⟩
  · cases h

theorem run_sizeOfT {t : TypeId} {n : Nat} (h : sizeOfT P t = some n) (w : World) : (sizeOf t).run P w = .ok n w := by
  obtain ⟨i, h1, rfl⟩ := sizeOfT_some h; exact run_sizeOf h1 w

theorem apart_sound {t : TypeId} {cs : List AV} {us : Array Value} {off : Nat} {v : AV} (hc : VRels ρ δ cs us.toList) (h : apart P t cs off = some v) :
    ∃ u, VRel ρ δ v u ∧ ∀ w, (part t us off).run P w = .ok u w := by
  unfold apart at h
  split at h
  · rename_i d i hd hi
    split at h
    · rename_i ha
      simp only [Option.some.injEq] at h; subst h
      refine ⟨.agg (us.extract off (off + i.size)), ?_, fun w => ?_⟩
      · simp only [VRel]
        refine ⟨_, rfl, ?_⟩
        have : (us.extract off (off + i.size)).toList = (us.toList.take (off + i.size)).drop off := by
          rw [Array.toList_extract, List.extract_eq_take_drop, List.drop_take]
        rw [this]
        exact (hc.take _).drop _
      · simp only [part, Sem.run_bind, run_isAgg hd, ha, Result.andThen_ok, if_true, run_sizeOf hi, Sem.run_pure]
    · rename_i ha
      obtain ⟨u, h1, h2⟩ := hc.get h
      refine ⟨u, h2, fun w => ?_⟩
      have h3 : us[off]? = some u := by simpa using h1
      simp only [part, Sem.run_bind, run_isAgg hd, ha, Result.andThen_ok, Bool.false_eq_true, if_false, h3, Sem.run_pure]
  · cases h

theorem foldl_set (off : Nat) : ∀ (vs : List Value) (k : Nat) (arr : Array Value),
    ((vs.zipIdx k).foldl (fun cs p => cs.setIfInBounds (off + p.2) p.1) arr).toList = lsetL arr.toList (off + k) vs
  | [], k, arr => by simp [lsetL]
  | v :: vs, k, arr => by
    simp only [List.zipIdx_cons, List.foldl_cons, lsetL]
    rw [foldl_set off vs (k + 1)]
    simp [Array.toList_setIfInBounds, Nat.add_assoc]

theorem lsetL_rel : ∀ (as : List AV) (vs : List Value) (cs : List AV) (us : List Value) (off : Nat), VRels ρ δ as vs → VRels ρ δ cs us → VRels ρ δ (lsetL cs off as) (lsetL us off vs)
  | [], vs, cs, us, off, h, hc => by simp only [VRels] at h; subst h; exact hc
  | a :: as, vs, cs, us, off, h, hc => by
    simp only [VRels] at h
    obtain ⟨u, us', rfl, h2, h3⟩ := h
    simp only [lsetL]
    exact lsetL_rel as us' _ _ _ h3 (hc.set off h2)

theorem afill_sound {place : Nat → Option (Nat × Nat)} : ∀ (parts : List (Nat × AV)) (vparts : List (Nat × Value)) (cs : List AV) (us : Array Value) (cs' : List AV),
    parts.length = vparts.length → (∀ (j : Nat) (p : Nat × AV), parts[j]? = some p → ∃ v, vparts[j]? = some (p.1, v) ∧ VRel ρ δ p.2 v) → VRels ρ δ cs us.toList →
    afill place cs parts = some cs' → ∃ us', Instr.fill place us vparts = some us' ∧ VRels ρ δ cs' us'.toList
  | [], vparts, cs, us, cs', hl, _, hc, h => by
    cases vparts with
    | nil => simp [afill] at h; subst h; exact ⟨us, rfl, hc⟩
    | cons => simp at hl
  | (i, a) :: parts, vparts, cs, us, cs', hl, hp, hc, h => by
    cases vparts with
    | nil => simp at hl
    | cons vp vparts =>
      obtain ⟨v, hv1, hv2⟩ := hp 0 (i, a) (by simp)
      simp at hv1
      subst hv1
      simp only [afill] at h
      split at h
      · cases h
      · rename_i off size hpl
        split at h
        · cases h
        · rename_i hs
          split at h
          · cases h
          · rename_i hb
            have hcl := hv2.cells
            have hlen := hcl.length
            have hlen2 := hc.length
            have hs' : a.cells.length = size := by simpa using Nat.eq_of_beq_eq_true hs
            have hb' : off + size ≤ cs.length := by simpa using Nat.le_of_ble_eq_true hb
            have hvs : v.cells.size = size := by rw [← hs', hlen]; simp
            have hus : us.size = cs.length := by rw [hlen2]; simp
            have hcond : (decide (v.cells.size ≠ size) || decide (off + v.cells.size > us.size)) = false := by
              simp only [hvs, hus, Bool.or_eq_false_iff, decide_eq_false_iff_not]
              exact ⟨by simp, by omega⟩
            have hset : (v.cells.zipIdx.foldl (fun cs p => cs.setIfInBounds (off + p.2) p.1) us).toList = lsetL us.toList off v.cells.toList := by
              rw [← Array.foldl_toList, Array.toList_zipIdx]
              simpa using foldl_set off v.cells.toList 0 us
            obtain ⟨us', h1, h2⟩ := afill_sound parts vparts (lsetL cs off a.cells) (v.cells.zipIdx.foldl (fun cs p => cs.setIfInBounds (off + p.2) p.1) us) cs' (by simpa using hl)
              (fun j p hj => hp (j + 1) p (by simpa using hj)) (by rw [hset]; exact lsetL_rel _ _ _ _ _ hcl hc) h
            refine ⟨us', ?_, h2⟩
            simp only [Instr.fill, hpl]
            simp only [hvs, hus, ne_eq, not_true, decide_false, Bool.false_or]
            rw [if_neg (by simp; omega)]
            exact h1

theorem fieldPlaces_sound : ∀ (fs : List Field) (l : List (Nat × Nat)) (w : World), fieldPlaces P fs = some l →
    (fs.mapM fun f => Prod.mk f.offset <$> sizeOf f.type).run P w = .ok l w
  | [], l, w, h => by simp [fieldPlaces] at h; subst h; simp
  | f :: fs, l, w, h => by
    simp only [fieldPlaces] at h
    split at h
    · rename_i n l' hn hl
      simp at h; subst h
      simp [List.mapM_cons, run_sizeOfT hn, fieldPlaces_sound fs l' w hl]
    · cases h

theorem zeroCells_some {t : TypeId} {z : List AV} (h : zeroCells P t = some z) : ∃ i v, P.info? t = some i ∧ i.zero = some v ∧ z = v.cells.toList.map AV.of := by
  unfold zeroCells at h
  split at h
  · rename_i i hi
    split at h
    · rename_i v hv; simp at h; exact ⟨i, v, hi, hv, h.symm⟩
    · cases h
  · cases h

theorem run_zeroValue {t : TypeId} {i : TypeInfo} {v : Value} (hi : P.info? t = some i) (hv : i.zero = some v) (w : World) : (zeroValue t).run P w = .ok v w := by
  simp [zeroValue, typeInfo, hi, hv]

theorem build_sound {tm : TM} {a : Act} {t : TypeId} {parts : Array (Nat × Operand)} {z : List AV} {vs : List (Nat × AV)} (ho : EvOK ρ δ tm a (parts.toList.map (·.2)))
    (hz : zeroCells P t = some z) (hvs : evParts tm parts.toList = some vs) :
    (∀ fs places cs, P.underlying t = some (.struct fs) → fieldPlaces P fs.toList = some places → afill (places[·]?) z vs = some cs →
      ∃ u, VRel ρ δ (.agg cs) u ∧ ∀ w, (Instr.build t (parts.map fun (i, x) => (i, a.eval x))).run P w = .ok u w) ∧
    (∀ n elem size cs, P.underlying t = some (.array n elem) → sizeOfT P elem = some size → afill (fun i => some (i * size, size)) z vs = some cs →
      ∃ u, VRel ρ δ (.agg cs) u ∧ ∀ w, (Instr.build t (parts.map fun (i, x) => (i, a.eval x))).run P w = .ok u w) := by
  obtain ⟨i, v, hi, hv, rfl⟩ := zeroCells_some hz
  obtain ⟨hl, hp⟩ := evParts_ok ho hvs
  have hpl : vs.length = ((parts.map fun (i, x) => (i, a.eval x)).toList).length := by simp [hl]
  have hpp : ∀ (j : Nat) (p : Nat × AV), vs[j]? = some p → ∃ u, ((parts.map fun (i, x) => (i, a.eval x)).toList)[j]? = some (p.1, u) ∧ VRel ρ δ p.2 u := by
    intro j p hj
    obtain ⟨x, h1, h2⟩ := hp j p hj
    have h1' : parts[j]? = some (p.1, x) := by simpa using h1
    exact ⟨a.eval x, by simp [h1'], h2⟩
  have hzr : VRels ρ δ (v.cells.toList.map AV.of) v.cells.toList := VRels.of _
  constructor
  · intro fs places cs hu hf haf
    obtain ⟨us', h1, h2⟩ := afill_sound vs _ _ v.cells cs hpl hpp hzr haf
    refine ⟨.agg us', by simp only [VRel]; exact ⟨_, rfl, h2⟩, fun w => ?_⟩
    have hm := fieldPlaces_sound (P := P) fs.toList places w hf
    simp only [Instr.build, Sem.run_bind, run_zeroValue hi hv, Result.andThen_ok, run_underlying hu, bind_pure_comp, Array.mapM_eq_mapM_toList, Sem.run_map, hm]
    have : (fun x : Nat => places.toArray[x]?) = (fun x : Nat => places[x]?) := by funext x; simp
    simp only [this, h1, Sem.run_pure]
  · intro n elem size cs hu hs haf
    obtain ⟨us', h1, h2⟩ := afill_sound vs _ _ v.cells cs hpl hpp hzr haf
    refine ⟨.agg us', by simp only [VRel]; exact ⟨_, rfl, h2⟩, fun w => ?_⟩
    simp only [Instr.build, Sem.run_bind, run_zeroValue hi hv, Result.andThen_ok, run_underlying hu, run_sizeOfT hs, h1, Sem.run_pure]

theorem litNat_some {a : AV} {n : Nat} {v : Value} (h : litNat a = some n) (hv : VRel ρ δ a v) : ∃ k, v = .int k (n : Int) := by
  unfold litNat at h
  split at h
  · rename_i k m
    split at h
    · simp at h; subst h; simp only [VRel, IE.den, IE.sv, SV.ofI, SV.i] at hv; exact ⟨k, hv⟩
    · cases h
  · cases h

theorem run_sliceBound {k : IntKind} {n y : Nat} (h : n ≤ y) (c : BoundsCode) (w : World) : (Instr.sliceBound (.int k (n : Int)) y c).run P w = .ok n w := by
  have h1 : (0 : Int) ≤ (n : Int) ∧ (n : Int) ≤ (y : Int) := by omega
  simp [Instr.sliceBound, asIntOf]
  intro h2; omega

/-- An optional bound. -/
theorem bound_some {tm : TM} {a : Act} {x : Option Operand} {v : Option AV} {d n : Nat} (ho : EvOK ρ δ tm a x.toList)
    (h : evO tm x = some v) (hb : optBound v d = some n) :
    (x = none ∧ n = d) ∨ ∃ y k, x = some y ∧ a.eval y = .int k (n : Int) := by
  cases x with
  | none => simp [evO] at h; subst h; simp [optBound] at hb; exact .inl ⟨rfl, hb.symm⟩
  | some y =>
    right
    simp only [evO] at h
    cases he : ev tm y with
    | none => simp [he] at h
    | some u =>
      simp [he] at h; subst h
      simp only [optBound] at hb
      obtain ⟨k, hk⟩ := litNat_some hb (ho y (by simp) u he)
      exact ⟨y, k, rfl, hk⟩

theorem addr_add (b o n : Nat) : (⟨b, o, none⟩ : Addr).add n = ⟨b, o + n, none⟩ := by unfold Addr.add; split <;> simp_all

theorem ite_some {α : Type} (c : Prop) [Decidable c] (x y : α) : (if c then some x else some y) = some (if c then x else y) := by split <;> rfl

/-- A slice of a slice, of numbers. -/
theorem run_slice_slice {t elem : TypeId} {size : Nat} (hu : P.underlying t = some (.slice elem)) (hs : sizeOfT P elem = some size) (ad : Addr) (len cap : Nat) (lo hi mx : Option Value) (l h m : Nat)
    (hm : match mx with | none => m = cap | some v => ∃ k, v = .int k (m : Int) ∧ m ≤ cap ∧ hi.isSome)
    (hh : match hi with | none => h = len | some v => ∃ k, v = .int k (h : Int) ∧ h ≤ m)
    (hl : match lo with | none => l = 0 | some v => ∃ k, v = .int k (l : Int) ∧ l ≤ h) (w : World) :
    (Instr.sliceAt t (.slice (some ad) len cap) lo hi mx).run P w = .ok (.slice (some (if m = l then ad else ad.add (l * size))) (h - l) (m - l)) w := by
  have key : (Instr.slice t (.slice (some ad) len cap) lo hi mx).run P w = .ok (.slice (some (if m = l then ad else ad.add (l * size))) (h - l) (m - l)) w := by
    simp only [Instr.slice, Sem.run_bind, run_underlying hu, Result.andThen_ok, Instr.sliceBounds]
    cases mx with
    | none =>
      simp only at hm
      subst hm
      cases hi with
      | none =>
        simp only at hh; subst hh
        cases lo with
        | none => simp only at hl; subst hl; simp [run_sizeOfT hs, ite_some]
        | some v => obtain ⟨k, rfl, hl2⟩ := hl; simp [run_sizeOfT hs, run_sliceBound hl2, ite_some]
      | some v =>
        obtain ⟨k, rfl, hh2⟩ := hh
        cases lo with
        | none => simp only at hl; subst hl; simp [run_sizeOfT hs, run_sliceBound hh2, ite_some]
        | some v => obtain ⟨k, rfl, hl2⟩ := hl; simp [run_sizeOfT hs, run_sliceBound hl2, run_sliceBound hh2, ite_some]
    | some v =>
      obtain ⟨k, rfl, hm2, hm3⟩ := hm
      cases hi with
      | none => simp at hm3
      | some v =>
        obtain ⟨k, rfl, hh2⟩ := hh
        cases lo with
        | none => simp only at hl; subst hl; simp [run_sizeOfT hs, run_sliceBound hh2, run_sliceBound hm2, ite_some]
        | some v => obtain ⟨k, rfl, hl2⟩ := hl; simp [run_sizeOfT hs, run_sliceBound hl2, run_sliceBound hh2, run_sliceBound hm2, ite_some]
  simp only [Instr.sliceAt, Sem.run_bind, run_underlying hu, Result.andThen_ok]
  exact key
end
end Go.Sx
