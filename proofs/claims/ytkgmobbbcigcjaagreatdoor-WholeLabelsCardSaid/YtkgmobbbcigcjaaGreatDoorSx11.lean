/- An executor for the model's Go code over an abstract state: operations with effects, all together. -/
import Derived.Test.YtkgmobbbcigcjaaGreatDoorSx10
namespace Go.Sx
set_option linter.unusedVariables false
section
variable {ρ : Rho} {δ : Dl} {P : Program} {w : World} {hs : HS}

theorem run_copy_any (dt xt ty e : TypeId) (i : TypeInfo) (ht : P.underlying dt = some (.slice e)) (hi : P.info? e = some i) (base : Option Addr) (dl dc : Nat) (x : Value) (sl : Nat) (news : Array Value) (w' : World)
    (hlen : (Builtin.lenOf x).run P w = .ok sl w) (hnews : (Builtin.firstCells i.size (Nat.min sl dl) x).run P w = .ok news w)
    (hst : match base with | some ad => (Go.storeCells ad news.toList 0).run P w = .ok () w' | none => w' = w) :
    (Builtin.copy_ #[dt, xt] ty #[.slice base dl dc, x]).run P w = .ok (.int .i64 (Nat.min sl dl : Nat)) w' := by
  cases base with
  | none => simp only at hst; subst hst; simp [Builtin.copy_, run_underlying ht, run_sizeOf hi, hlen, hnews, goInt]
  | some ad => simp only at hst; simp [Builtin.copy_, run_underlying ht, run_sizeOf hi, hlen, hnews, hst, goInt]

theorem copy_sound {dt xt ty : TypeId} {d s v : AV} {ud us : Value} {hs' : HS} (hr : HRep ρ δ hs w) (hvd : VRel ρ δ d ud) (hvs : VRel ρ δ s us)
    (h : doCopy P dt d s hs = .val v hs') : Comes1 ρ δ hs w ((Builtin.copy_ #[dt, xt] ty #[ud, us]).run P w) v hs' := by
  unfold doCopy at h
  split at h
  case h_2 => cases h
  rename_i elem ht
  split at h
  case h_2 => cases h
  rename_i size dl sl hsz hdl hsl
  obtain ⟨i, hi, rfl⟩ := sizeOfT_some hsz
  split at h
  case h_2 => cases h
  rename_i cs hcs
  obtain ⟨nus, hnl, hnr, hnf⟩ := src_sound (P := P) hr.blk hvs hsl hcs
  revert h
  cases d
  case nils =>
    intro h
    simp only [ER.val.injEq] at h
    obtain ⟨rfl, rfl⟩ := h
    simp only [VRel] at hvd
    subst hvd
    simp only [lenOf, Option.some.injEq] at hdl
    subst hdl
    exact ⟨δ, w, _, run_copy_any (P := P) dt xt ty elem i ht hi none 0 0 us sl nus w (hnf w rfl).1 (hnf w rfl).2 rfl, hr, Evo.refl, by simp [VRel, IE.den, IE.sv, SV.ofI, SV.i]⟩
  case slice n off len cap =>
    intro h
    simp only at h
    simp only [VRel] at hvd
    obtain ⟨b, o, c, hn, hc, rfl⟩ := hvd
    have hden : len.den ρ = dl := by
      simp only [lenOf] at hdl
      split at hdl
      · rename_i ha; simp only [Option.some.injEq] at hdl; subst hdl; simp [NE.den, ha]
      · cases hdl
    rw [hden]
    split at h
    · simp only [ER.val.injEq] at h
      obtain ⟨rfl, rfl⟩ := h
      have hn0 : nus.toList = [] := by have := hnr.length; exact List.eq_nil_of_length_eq_zero this.symm
      exact ⟨δ, w, _, run_copy_any (P := P) dt xt ty elem i ht hi _ dl c us sl nus w (hnf w rfl).1 (hnf w rfl).2 (by simp only; rw [hn0]; rfl), hr, Evo.refl, by simp [VRel, IE.den, IE.sv, SV.ofI, SV.i]⟩
    · split at h
      case h_2 => cases h
      rename_i H hst
      simp only [ER.val.injEq] at h
      obtain ⟨rfl, rfl⟩ := h
      obtain ⟨w', h1, h2, h3, _⟩ := storeCells_sound (P := P) hr hn hnr hst
      exact ⟨δ, w', _, run_copy_any (P := P) dt xt ty elem i ht hi _ dl c us sl nus w' (hnf w rfl).1 (hnf w rfl).2 h1, h2, h3, by simp [VRel, IE.den, IE.sv, SV.ofI, SV.i]⟩
  all_goals (intro h; cases h)

theorem method_sound {t : TypeId} {name : String} {f : FuncId} {v : Value} (h : findMethod P t name = some f) (n : Nat) (w : World) : (method (n + 1) t v name).run P w = .ok (f, v) w := by
  unfold findMethod at h
  split at h
  case h_2 => cases h
  rename_i i hi
  split at h
  case h_2 => cases h
  rename_i m hm
  split at h
  case h_2 => cases h
  rename_i f' e hp hf hu
  simp only [Option.some.injEq] at h
  subst h
  simp [method, typeInfo, hi, hm, hp, follow, hf, receiverAt, run_underlying hu, Place.get]

/-- What an operation with effects comes to. -/
theorem eop0_val {tm : TM} {a : Act} {o : Oper} {v : AV} {hs' : HS} (hr : HRep ρ δ hs w) (ho : EvOK ρ δ tm a o.op.operands.toList) (h : eop0 P tm hs o.op = .val v hs') :
    ∃ δ' w' u, ((execOp a.eval o).run P w = .ok (.value u) w' ∨ ((execOp a.eval o).run P w = .ok .skip w' ∧ u = undef)) ∧ HRep ρ δ' hs' w' ∧ Evo δ hs w δ' hs' w' ∧ VRel ρ δ' v u := by
  obtain ⟨dst, op, type, pos, after, guard⟩ := o
  unfold eop0 at h
  split at h
  · -- store
    rename_i t x y hop
    simp only at hop; subst hop
    split at h
    case h_3 => cases h
    case h_2 =>
      rename_i n rm wd ix f v' size hx hy hs'
      split at h
      case h_2 => cases h
      rename_i hl hst
      simp only [ER.val.injEq] at h
      obtain ⟨rfl, rfl⟩ := h
      have h1 := ho x (by simp [Op.operands]) _ hx
      have h2 := ho y (by simp [Op.operands]) _ hy
      simp only [VRel] at h1
      obtain ⟨b, o, cnt, hn, hcnt, hix, hxx⟩ := h1
      obtain ⟨w', h3, h4, h5, _⟩ := storeRow_sound (P := P) hr hn hcnt hix h2.cells hst
      have hsz : (a.eval y).cells.size = size := by have := h2.cells.length; have := beq_eq hl; simp at *; omega
      refine ⟨δ, w', undef, .inr ⟨?_, rfl⟩, h4, h5, by simp [VRel, VRels, undef]⟩
      simp [execOp, Instr.storeAt, hxx, Instr.sureAddr, storeVar, run_sizeOfT hs', hsz, h3]
    rename_i n off v' size hx hy hs'
    split at h
    case h_2 => cases h
    rename_i hl hst
    simp only [ER.val.injEq] at h
    obtain ⟨rfl, rfl⟩ := h
    have h1 := ho x (by simp [Op.operands]) _ hx
    have h2 := ho y (by simp [Op.operands]) _ hy
    simp only [VRel] at h1
    obtain ⟨b, o, hn, hxx⟩ := h1
    obtain ⟨w', h3, h4, h5, _⟩ := storeCells_sound (P := P) hr hn h2.cells hst
    have hsz : (a.eval y).cells.size = size := by have := h2.cells.length; have := beq_eq hl; simp at *; omega
    refine ⟨δ, w', undef, .inr ⟨?_, rfl⟩, h4, h5, by simp [VRel, VRels, undef]⟩
    simp [execOp, Instr.storeAt, hxx, Instr.sureAddr, storeVar, run_sizeOfT hs', hsz, h3]
  · -- makeMap
    rename_i t hop
    simp only at hop; subst hop
    simp only [ER.val.injEq] at h
    obtain ⟨rfl, rfl⟩ := h
    have hfn := hr.freshN hs.nx (Nat.le_refl _)
    refine ⟨δ.bind hs.nx (w.heap.size, 0), w.alloc (.map #[] 0), .map (some w.heap.size), .inl ?_, hr.alloc hfn (Nat.le_succ _) (Nat.lt_succ_self _) trivial, Evo.refl.alloc hfn (Nat.le_refl _) (Nat.le_succ _) (Nat.lt_succ_self _), ?_⟩
    · simp [execOp, Instr.makeMap]
    · simp only [VRel]; exact ⟨_, _, Dl.bind_same, rfl⟩
  · -- calls
    rename_i c hop
    simp only at hop; subst hop
    split at h
    · split at h <;> cases h
    · split at h
      · split at h <;> cases h
      · cases h
    · -- append
      rename_i hcal
      obtain ⟨callee, args, argTypes⟩ := c
      simp only at hcal; subst hcal
      split at h
      case h_2 => cases h
      rename_i st xt s x hts has
      simp only at hts has
      have hva := evs_ok (ρ := ρ) (δ := δ) (a := a) (fun y hy => ho y (by simpa [Op.operands, Call.operands] using hy)) has
      simp only [VRels] at hva
      obtain ⟨us, r1, he, hvs, ux, r2, rfl, hvx, rfl⟩ := hva
      have hts' : argTypes = #[st, xt] := by rw [← Array.toArray_toList (xs := argTypes), hts]
      have hargs : args.map a.eval = #[us, ux] := by rw [← Array.toArray_toList (xs := args.map a.eval), Array.toList_map, he]
      subst hts'
      obtain ⟨δ', w', u, h1, h2, h3, h4⟩ := append_sound (P := P) (ty := type) hr hvs hvx h
      refine ⟨δ', w', u, .inl ?_, h2, h3, h4⟩
      simp only [execOp, resolve, Sem.run_bind, Sem.run_pure, Result.andThen_ok, invoke, builtin, hargs, h1]
    · -- copy
      rename_i hcal
      obtain ⟨callee, args, argTypes⟩ := c
      simp only at hcal; subst hcal
      split at h
      case h_2 => cases h
      rename_i st xt s x hts has
      simp only at hts has
      have hva := evs_ok (ρ := ρ) (δ := δ) (a := a) (fun y hy => ho y (by simpa [Op.operands, Call.operands] using hy)) has
      simp only [VRels] at hva
      obtain ⟨us, r1, he, hvs, ux, r2, rfl, hvx, rfl⟩ := hva
      have hts' : argTypes = #[st, xt] := by rw [← Array.toArray_toList (xs := argTypes), hts]
      have hargs : args.map a.eval = #[us, ux] := by rw [← Array.toArray_toList (xs := args.map a.eval), Array.toList_map, he]
      subst hts'
      obtain ⟨δ', w', u, h1, h2, h3, h4⟩ := copy_sound (P := P) (ty := type) (xt := xt) hr hvs hvx h
      refine ⟨δ', w', u, .inl ?_, h2, h3, h4⟩
      simp only [execOp, resolve, Sem.run_bind, Sem.run_pure, Result.andThen_ok, invoke, builtin, hargs, h1]
    · cases h
  · cases h

theorem doAppend_no_call (st xt : TypeId) (s x : AV) {f : FuncId} {vs : List AV} : doAppend P st xt s x hs ≠ .call f vs := by
  unfold doAppend
  intro h
  repeat' (first | cases h | split at h)
theorem doCopy_no_call (dt : TypeId) (d s : AV) {f : FuncId} {vs : List AV} : doCopy P dt d s hs ≠ .call f vs := by
  unfold doCopy
  intro h
  repeat' (first | cases h | split at h)

theorem eop0_call {tm : TM} {a : Act} {o : Oper} {f : FuncId} {vs : List AV} (ho : EvOK ρ δ tm a o.op.operands.toList) (h : eop0 P tm hs o.op = .call f vs) :
    ∃ us : Array Value, VRels ρ δ vs us.toList ∧ ∀ w, (execOp a.eval o).run P w = (callFunc f us).run P w := by
  obtain ⟨dst, op, type, pos, after, guard⟩ := o
  unfold eop0 at h
  split at h
  · split at h
    · split at h <;> cases h
    · split at h <;> cases h
    · cases h
  · cases h
  · rename_i c hop
    simp only at hop; subst hop
    obtain ⟨callee, args, argTypes⟩ := c
    split at h
    · -- a function's value
      rename_i x hcal
      simp only at hcal; subst hcal
      split at h
      case h_2 => cases h
      rename_i f' first captured as hx has
      simp only [ER.call.injEq] at h
      obtain ⟨rfl, rfl⟩ := h
      have h1 := ho x (by simp [Op.operands, Call.operands]) _ hx
      simp only [VRel] at h1
      obtain ⟨fa, ca, hxx, hfa, hca⟩ := h1
      have hva := evs_ok (ρ := ρ) (δ := δ) (a := a) (fun y hy => ho y (by simp only [Op.operands, Call.operands, Array.toList_append, List.mem_append] at hy ⊢; exact .inr hy)) has
      refine ⟨fa ++ args.map a.eval ++ ca, ?_, fun w => ?_⟩
      · simp only [Array.toList_append, Array.toList_map]
        exact (hfa.append hva).append hca
      · simp [execOp, resolve, hxx, Deferred.ofValue, invoke]
    · -- a method
      rename_i x name hcal
      simp only at hcal; subst hcal
      split at h
      case h_2 => cases h
      rename_i t v as hx has
      split at h
      case h_2 => cases h
      rename_i f' hf
      simp only [ER.call.injEq] at h
      obtain ⟨rfl, rfl⟩ := h
      have h1 := ho x (by simp [Op.operands, Call.operands]) _ hx
      simp only [VRel] at h1
      obtain ⟨u, hxx, hu⟩ := h1
      have hva := evs_ok (ρ := ρ) (δ := δ) (a := a) (fun y hy => ho y (by simp only [Op.operands, Call.operands, Array.toList_append, List.mem_append] at hy ⊢; exact .inr hy)) has
      refine ⟨#[u] ++ args.map a.eval, ?_, fun w => ?_⟩
      · have hl : (#[u] ++ args.map a.eval).toList = u :: args.toList.map a.eval := by simp
        rw [hl]
        simp only [VRels]
        exact ⟨u, _, rfl, hu, hva⟩
      · have hm : ∀ w, (method (P.types.size + Made.depth) t u name).run P w = .ok (f', u) w := fun w => by
          have : P.types.size + Made.depth = (P.types.size + 99) + 1 := rfl
          rw [this]; exact method_sound hf _ w
        have hex : (#[a.eval x] ++ args.map a.eval).extract 1 (#[a.eval x] ++ args.map a.eval).size = args.map a.eval := by
          apply Array.ext'
          have hl : (args.toList.map a.eval).length ≤ args.size := by simp
          simp [List.take_of_length_le hl]
        have h0 : ((#[a.eval x] ++ args.map a.eval : Array Value)[0]? : Option Value) = some (a.eval x) := by rw [Array.getElem?_append_left (by simp)]; rfl
        have hr : execOp a.eval ⟨dst, .call { callee := .invoke x name, args := args, argTypes := argTypes }, type, pos, after, guard⟩ = invoke (.fn (.method name) #[]) (#[a.eval x] ++ args.map a.eval) := rfl
        rw [hr]
        have hi : invoke (.fn (.method name) #[]) (#[a.eval x] ++ args.map a.eval) = callMethod (a.eval x) name ((#[a.eval x] ++ args.map a.eval).extract 1 (#[a.eval x] ++ args.map a.eval).size) := by
          simp only [invoke, h0]
        rw [hi, hex, hxx]
        simp only [callMethod, Sem.run_bind, run_program, Result.andThen_ok, hm]
    · split at h
      · exact absurd h (doAppend_no_call _ _ _ _)
      · cases h
    · split at h
      · exact absurd h (doCopy_no_call _ _ _)
      · cases h
    · cases h
  · cases h
end
end Go.Sx
