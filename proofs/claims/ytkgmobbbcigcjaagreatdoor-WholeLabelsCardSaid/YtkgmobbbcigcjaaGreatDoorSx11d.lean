/- An executor for the model's Go code over an abstract state: texts of bytes. -/
import Derived.Test.YtkgmobbbcigcjaaGreatDoorSx11c
import Derived.Laws.BytesString
namespace Go.Sx
set_option linter.unusedVariables false
section
variable {ρ : Rho} {P : Program} {δ : Dl} {hs : HS} {w : World}

theorem rowCs_u8 : ∀ l : List SV, rowCs [.int .u8] l = (l.map SV.i).map (Value.int .u8)
  | [] => rfl
  | e :: l => by
    simp only [rowCs, List.map_cons, rowCs_u8 l]
    rfl

theorem foldl_push (f : Int → UInt8) : ∀ (l : List Int) (s : ByteArray), (l.foldl (fun r n => r.push (f n)) s) = ⟨s.data ++ (l.map f).toArray⟩
  | [], s => by cases s; simp
  | n :: l, s => by
    rw [List.foldl_cons, foldl_push f l]
    cases s
    simp [ByteArray.push]

theorem litBytes_some : ∀ (es : List IE) (l : List UInt8), soflE.litBytes es = some l → es.map (fun e => UInt8.ofNat (e.den ρ).toNat) = l
  | [], l, h => by simp [soflE.litBytes] at h; simp [h]
  | e :: es, l, h => by
    cases e <;> simp only [soflE.litBytes] at h <;> try (cases h; done)
    rename_i n
    split at h
    · rename_i l' hl'
      injection h with h
      subst h
      rw [List.map_cons, litBytes_some es l' hl']
      rfl
    · cases h

theorem soflE_s (q : IE) : ((soflE q).sv ρ).s = ⟨((q.sv ρ).l.map fun e => UInt8.ofNat e.i.toNat).toArray⟩ := by
  unfold soflE
  split
  · rename_i es
    split
    · rename_i l hl
      have := litBytes_some (ρ := ρ) es l hl
      subst this
      simp [IE.sv, svs_map, Prim.den, SV.ofL, SV.l, SV.ofS, SV.s, IE.den, Function.comp_def]
    · simp [IE.sv, IE.svs, Prim.den, SV.ofS, SV.s]
  · simp [IE.sv, IE.svs, Prim.den, SV.ofS, SV.s]

theorem strAV_rel (q : IE) : VRel ρ δ (strAV q) (.string ⟨((q.sv ρ).l.map fun e => UInt8.ofNat e.i.toNat).toArray⟩) := by
  have h := soflE_s (ρ := ρ) q
  unfold strAV
  split
  · rename_i s hs
    rw [hs] at h
    simp only [VRel]
    rw [← h]; rfl
  · simp only [VRel]
    rw [h]

theorem run_bytes_nil (src dst e : TypeId) (a : Option Addr) (c : Nat) (hs : P.underlying src = some (.slice e)) (he : P.underlying e = some (.int .u8)) (hd : P.underlying dst = some .string) :
    (convert src dst (.slice a 0 c)).run P w = .ok (.string .empty) w := by
  rw [run_convert_bytes_string w src dst e a 0 c hs he hd]
  cases a with
  | none => simp [Conv.bytesToString]
  | some a =>
    have := run_bytesToString (P := P) w a 0 c [] (by simp [loadCells, loadCellsFrom])
    simpa using this

theorem readC_sound {tm : TM} {a : Act} {o : Oper} {v : AV} (hr : HRep ρ δ hs w) (ho : EvOK ρ δ tm a o.op.operands.toList) (h : readC P tm hs o = some v) :
    ∃ u, VRel ρ δ v u ∧ (execOp a.eval o).run P w = .ok (.value u) w := by
  unfold readC at h
  split at h
  case h_2 => cases h
  rename_i src dst x hop
  split at h
  case h_2 => cases h
  rename_i e av hsrc hdst hav
  split at h
  case h_2 => cases h
  rename_i he
  have hvx := ho x (by rw [hop]; simp [Op.operands]) av hav
  have hex : ∀ u, (convert src dst (a.eval x)).run P w = .ok u w → (execOp a.eval o).run P w = .ok (.value u) w := by
    intro u hu
    obtain ⟨dst, op, type, pos, after, guard⟩ := o
    simp only at hop; subst hop
    simp [execOp, hu]
  split at h
  · simp only [VRel] at hvx
    injection h with h
    subst h
    refine ⟨.string .empty, by simp [VRel], hex _ ?_⟩
    rw [hvx]
    exact run_bytes_nil src dst e none 0 hsrc he hdst
  · split at h
    case h_2 => cases h
    rename_i q m hq
    injection h with h
    subst h
    obtain ⟨_, h2⟩ := srcRow_sound (P := P) (row := [.int .u8]) (by simp) hr.blk hvx hq
    obtain ⟨h3, h4⟩ := h2 w rfl
    refine ⟨_, strAV_rel q, hex _ ?_⟩
    -- the value is a slice
    have hsl : ∃ p l c, a.eval x = .slice p l c := by
      unfold srcRow at hq
      split at hq
      · simp only [VRel] at hvx
        obtain ⟨_, _, _, b, o, r, cnt, c, _, _, _, _, _, _, hh⟩ := hvx
        rcases hh with ⟨_, p, hh⟩ | ⟨_, _, hh⟩
        · exact ⟨_, _, _, hh⟩
        · exact ⟨_, _, _, hh⟩
      · simp only [VRel] at hvx
        obtain ⟨b, o, c, _, _, hh⟩ := hvx
        exact ⟨_, _, _, hh⟩
      · simp only [VRel] at hvx
        exact ⟨_, _, _, hvx⟩
      · cases hq
    obtain ⟨p, len, c, hu⟩ := hsl
    rw [hu]
    rw [hu] at h3 h4
    simp only [Builtin.lenOf, Sem.run_pure, Result.ok.injEq, and_true] at h3
    cases p with
    | none =>
      simp only [Builtin.firstCells, Sem.run_pure, Result.ok.injEq, and_true] at h4
      have hnil : (q.sv ρ).l = [] := by
        rw [rowCs_u8] at h4
        have := congrArg Array.size h4
        simp at this
        exact List.eq_nil_of_length_eq_zero this.symm
      rw [hnil] at h3 ⊢
      simp only [List.length_nil] at h3
      subst h3
      exact run_bytes_nil src dst e none c hsrc he hdst
    | some ad =>
      rw [run_convert_bytes_string w src dst e _ len c hsrc he hdst]
      simp only [Builtin.firstCells] at h4
      rw [← h3] at h4
      simp only [List.length_cons, List.length_nil, Nat.zero_add, Nat.mul_one] at h4
      rw [rowCs_u8] at h4
      rw [run_bytesToString w ad len c _ h4, foldl_push]
      simp [ByteArray.empty, ByteArray.emptyWithCapacity, List.map_map, Function.comp_def]
      rfl
end
end Go.Sx
