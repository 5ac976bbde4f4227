/- An executor for the model's Go code over an abstract state: a pure operation of it is the model's. -/
import Derived.Test.YtkgmobbbcigcjaaGreatDoorSx5
namespace Go.Sx
set_option linter.unusedVariables false
section
variable {ρ : Rho} {δ : Dl} {P : Program}

theorem ofO_val {x : Option AV} {v : AV} (h : PR.ofO x = .val v) : x = some v := by
  cases x <;> simp [PR.ofO] at h; exact congrArg some h

theorem equalIn_ptr_nil {t e : TypeId} (hd : P.underlying t = some (.pointer e)) (ad : Addr) (d : Nat) (w : World) : (Op.equalIn (d + 1) t (.pointer (some ad)) (.pointer none)).run P w = .ok false w := by
  simp [Op.equalIn, run_underlying hd]
theorem equalIn_slice_nil {t e : TypeId} (hd : P.underlying t = some (.slice e)) (ad : Addr) (n c d : Nat) (w : World) : (Op.equalIn (d + 1) t (.slice (some ad) n c) (.slice none 0 0)).run P w = .ok false w := by
  simp [Op.equalIn, run_underlying hd]
theorem equalIn_func_nil {t : TypeId} {p r : Array TypeId} {b : Bool} (hd : P.underlying t = some (.func p r b)) (fn : Fn) (f c : Array Value) (d : Nat) (w : World) : (Op.equalIn (d + 1) t (.func fn f c) .nilFunc).run P w = .ok false w := by
  simp [Op.equalIn, run_underlying hd]
theorem equalIn_iface_nil {t : TypeId} {ms : Array (String × TypeId)} (hd : P.underlying t = some (.interface ms)) (ty : TypeId) (u : Value) (d : Nat) (w : World) : (Op.equalIn (d + 1) t (.iface ty u) .nilIface).run P w = .ok false w := by
  simp [Op.equalIn, run_underlying hd]

theorem nilHeld_sound {t : TypeId} {a b v : AV} {x y : Value} {op : BinOp} (ha : VRel ρ δ a x) (hb : VRel ρ δ b y) (hn : nilHeld (P.underlying t) a b = true) (h : nilTest op false = some v)
    (ox oy : Operand) : ∃ u, VRel ρ δ v u ∧ ∀ w, (do eqGuard op t ox oy x y; binOp op t x y : Sem Value).run P w = .ok u w := by
  have key : ∀ w, (Op.equal t x y).run P w = .ok false w ∧ (∀ op, (eqGuard op t ox oy x y).run P w = .ok () w) ∧ (∀ op, (op = .eql ∨ op = .neq) → (binOp op t x y).run P w = .ok (.bool (op == .neq)) w) := by
    intro w
    unfold nilHeld at hn
    split at hn
    · rename_i hd
      simp only [VRel] at ha hb
      obtain ⟨b', o, _, rfl⟩ := ha
      subst hb
      have he : ∀ ad, (Op.equal t (.pointer (some ad)) (.pointer none)).run P w = .ok false w := fun ad => equalIn_ptr_nil hd ad 9999 w
      refine ⟨by simp [he], fun op => by cases op <;> rfl, fun op ho => ?_⟩
      rcases ho with rfl | rfl <;> simp [binOp, he]
    · rename_i hd
      simp only [VRel] at ha hb
      obtain ⟨b', o, c, _, _, rfl⟩ := ha
      subst hb
      have he : ∀ ad n, (Op.equal t (.slice (some ad) n c) (.slice none 0 0)).run P w = .ok false w := fun ad n => equalIn_slice_nil hd ad n c 9999 w
      refine ⟨by simp [he], fun op => by cases op <;> rfl, fun op ho => ?_⟩
      rcases ho with rfl | rfl <;> simp [binOp, he]
    · rename_i hd
      simp only [VRel] at ha hb
      obtain ⟨f, c, rfl, _, _⟩ := ha
      subst hb
      have he : ∀ fn, (Op.equal t (.func fn f c) .nilFunc).run P w = .ok false w := fun fn => equalIn_func_nil hd fn f c 9999 w
      refine ⟨by simp [he], fun op => by cases op <;> rfl, fun op ho => ?_⟩
      rcases ho with rfl | rfl <;> simp [binOp, he]
    · rename_i hd
      simp only [VRel] at ha hb
      obtain ⟨u, rfl, _⟩ := ha
      subst hb
      have he : ∀ ty, (Op.equal t (.iface ty u) .nilIface).run P w = .ok false w := fun ty => equalIn_iface_nil hd ty u 9999 w
      refine ⟨by simp [he], fun op => by cases op <;> rfl, fun op ho => ?_⟩
      rcases ho with rfl | rfl <;> simp [binOp, he]
    · cases hn
  unfold nilTest at h
  split at h
  · simp only [Option.some.injEq] at h; subst h
    refine ⟨_, VRel.bool, fun w => ?_⟩
    simp only [Sem.run_bind, (key w).2.1, Result.andThen_ok, (key w).2.2 .eql (.inl rfl)]; rfl
  · simp only [Option.some.injEq] at h; subst h
    refine ⟨_, VRel.bool, fun w => ?_⟩
    simp only [Sem.run_bind, (key w).2.1, Result.andThen_ok, (key w).2.2 .neq (.inr rfl)]; rfl
  · cases h

/-- An operation's value in whatever world. -/
def Gives (P : Program) (ρ : Rho) (δ : Dl) (a : Act) (o : Oper) (v : AV) : Prop := ∃ u, VRel ρ δ v u ∧ ∀ w, (execOp a.eval o).run P w = .ok (.value u) w

theorem Gives.mk {a : Act} {o : Oper} {v : AV} {s : Sem Value} (he : execOp a.eval o = (do pure (.value (← s)))) (h : ∃ u, VRel ρ δ v u ∧ ∀ w, s.run P w = .ok u w) : Gives P ρ δ a o v := by
  obtain ⟨u, h1, h2⟩ := h
  exact ⟨u, h1, fun w => by rw [he]; simp [h2]⟩

theorem run_indexAt_ok {t elem : TypeId} {size len : Nat} {x : Value} {ad : Addr} {i : Nat} (hs : sizeOfT P elem = some size)
    (hx : (P.underlying t = some (.array len elem) ∧ x = .pointer (some ad)) ∨ (P.underlying t = some (.slice elem) ∧ ∃ c, x = .slice (some ad) len c)) (hi : i < len) (k : IntKind) (w : World) :
    (Instr.indexAt t x (.int k (i : Int))).run P w = .ok (.pointer (some (ad.add (i * size)))) w := by
  have hi' : (0 : Int) ≤ (i : Int) ∧ (i : Int) < (len : Int) := by omega
  rcases hx with ⟨hu, rfl⟩ | ⟨hu, c, rfl⟩
  · simp [Instr.indexAt, asIntOf, run_underlying hu, Instr.sureAddr, hi, run_sizeOfT hs]
  · simp [Instr.indexAt, asIntOf, run_underlying hu, hi, run_sizeOfT hs]

theorem pop0_sound {pc : PC} {tm : TM} {a : Act} {o : Oper} {v : AV} (hp : PCh ρ pc) (ho : EvOK ρ δ tm a o.op.operands.toList) (h : pop0 P pc tm o = .val v) : Gives P ρ δ a o v := by
  have closed : (∀ cs b, o.op ≠ .select cs b) → PR.ofO (pclosed P tm o) = .val v → Gives P ρ δ a o v := fun hs hv => pclosed_sound ho hs (ofO_val hv)
  have val : ∀ {x : Operand} {u : AV}, x ∈ o.op.operands.toList → ev tm x = some u → VRel ρ δ u (a.eval x) := fun hx hu => ho _ hx _ hu
  obtain ⟨dst, op, type, pos, after, guard⟩ := o
  unfold pop0 at h
  split at h
  · -- move
    rename_i x hop
    simp only at hop; subst hop
    have := val (x := x) (by simp [Op.operands]) (ofO_val h)
    exact ⟨_, this, fun w => by simp [execOp]⟩
  · -- assign
    rename_i x hop
    simp only at hop; subst hop
    have := val (x := x) (by simp [Op.operands]) (ofO_val h)
    exact ⟨_, this, fun w => by simp [execOp]⟩
  · -- pick
    rename_i c x y hop
    simp only at hop; subst hop
    split at h
    · rename_i e he
      have hc := val (x := c) (by simp [Op.operands]) he
      simp only [VRel] at hc
      split at h
      · rename_i hd
        have := val (x := x) (by simp [Op.operands]) (ofO_val h)
        exact ⟨_, this, fun w => by simp [execOp, hc, asBool, dec_sound hp hd]⟩
      · rename_i hd
        have := val (x := y) (by simp [Op.operands]) (ofO_val h)
        exact ⟨_, this, fun w => by simp [execOp, hc, asBool, dec_sound hp hd]⟩
      · cases h
    · cases h
  · -- nilCheck
    rename_i x hop
    simp only at hop; subst hop
    split at h
    · rename_i n off he
      have hc := val (x := x) (by simp [Op.operands]) he
      simp only [PR.val.injEq] at h; subst h
      refine ⟨_, hc, fun w => ?_⟩
      simp only [VRel] at hc
      obtain ⟨b, o, _, hx⟩ := hc
      simp [execOp, hx]
    · rename_i f p q he
      have hc := val (x := x) (by simp [Op.operands]) he
      simp only [PR.val.injEq] at h; subst h
      refine ⟨_, hc, fun w => ?_⟩
      simp only [VRel] at hc
      obtain ⟨f', c, hx, _, _⟩ := hc
      simp [execOp, hx]
    · cases h
  · -- binOp
    rename_i op t x y yt hop
    simp only at hop; subst hop
    split at h
    · rename_i k e k' e' hex hey
      have h1 := val (x := x) (by simp [Op.operands]) hex
      have h2 := val (x := y) (by simp [Op.operands]) hey
      simp only [VRel] at h1 h2
      obtain ⟨u, hu1, hu2⟩ := pint_val (P := P) (ρ := ρ) (δ := δ) hp h t
      refine Gives.mk (s := do eqGuard op t x y (a.eval x) (a.eval y); binOp op t (a.eval x) (a.eval y)) rfl ⟨u, hu1, fun w => ?_⟩
      rw [h1, h2]
      simp only [Sem.run_bind, run_eqGuard_int, Result.andThen_ok, hu2]
    · rename_i p q _ hex hey
      split at h
      · rename_i hn
        exact Gives.mk (s := do eqGuard op t x y (a.eval x) (a.eval y); binOp op t (a.eval x) (a.eval y)) rfl
          (nilHeld_sound (val (x := x) (by simp [Op.operands]) hex) (val (x := y) (by simp [Op.operands]) hey) hn (ofO_val h) x y)
      · exact closed (by simp) h
    · cases h
  · -- unOp
    rename_i op t x hop
    simp only at hop; subst hop
    split at h
    · rename_i e he
      have h1 := val (x := x) (by simp [Op.operands]) he
      simp only [VRel] at h1
      simp only [PR.val.injEq] at h; subst h
      refine Gives.mk (s := Op.unary .not (a.eval x)) rfl ⟨_, VRel.bool, fun w => ?_⟩
      rw [h1, mkNot_den]; simp [Op.unary]
    · exact closed (by simp) h
  · -- convert
    rename_i src dst' x hop
    simp only at hop; subst hop
    split at h
    · rename_i d k k' e hs hd he
      have h1 := val (x := x) (by simp [Op.operands]) he
      simp only [VRel] at h1
      simp only [PR.val.injEq] at h; subst h
      refine Gives.mk (s := convert src dst' (a.eval x)) rfl ⟨_, VRel.int, fun w => ?_⟩
      rw [h1, mkConv_den]
      simp [convert, run_underlying hs, run_underlying hd, Conv.intToInt]
    · exact closed (by simp) h
  · -- extract
    rename_i x i hop
    simp only at hop; subst hop
    split at h
    · rename_i vs he
      have h1 := val (x := x) (by simp [Op.operands]) he
      simp only [VRel] at h1
      obtain ⟨us, hx, hvs⟩ := h1
      obtain ⟨u, hu1, hu2⟩ := hvs.get (ofO_val h)
      refine Gives.mk (s := Instr.extract (a.eval x) i) rfl ⟨u, hu2, fun w => ?_⟩
      have : us[i]? = some u := by simpa using hu1
      rw [hx]; simp [Instr.extract, this]
    · cases h
  · -- field
    rename_i t x f hop
    simp only at hop; subst hop
    split at h
    · rename_i fs cs hu he
      have h1 := val (x := x) (by simp [Op.operands]) he
      simp only [VRel] at h1
      obtain ⟨us, hx, hcs⟩ := h1
      split at h
      · rename_i f' hf
        obtain ⟨u, hu1, hu2⟩ := apart_sound (P := P) hcs (ofO_val h)
        refine Gives.mk (s := Instr.field t (a.eval x) f) rfl ⟨u, hu1, fun w => ?_⟩
        rw [hx]; simp [Instr.field, run_underlying hu, hf, asAgg, hu2]
      · cases h
    · cases h
  · -- build
    rename_i t parts hop
    simp only at hop; subst hop
    have hop : EvOK ρ δ tm a (parts.toList.map (·.2)) := fun x hx => ho x (by simpa [Op.operands] using hx)
    split at h
    · rename_i fs z vs hu hz hvs
      split at h
      · rename_i places hpl
        have hv := ofO_val h
        simp only [Option.map_eq_some_iff] at hv
        obtain ⟨cs, hcs, rfl⟩ := hv
        exact Gives.mk (s := Instr.build t (parts.map fun (i, x) => (i, a.eval x))) rfl ((build_sound hop hz hvs).1 fs places cs hu hpl hcs)
      · cases h
    · rename_i n elem z vs hu hz hvs
      split at h
      · rename_i size hsz
        have hv := ofO_val h
        simp only [Option.map_eq_some_iff] at hv
        obtain ⟨cs, hcs, rfl⟩ := hv
        exact Gives.mk (s := Instr.build t (parts.map fun (i, x) => (i, a.eval x))) rfl ((build_sound hop hz hvs).2 n elem size cs hu hsz hcs)
      · cases h
    · cases h
  · -- makeInterface
    rename_i t x hop
    simp only at hop; subst hop
    split at h
    · cases h
    · rename_i d v' hni hd he
      have h1 := val (x := x) (by simp [Op.operands]) he
      simp only [PR.val.injEq] at h; subst h
      refine Gives.mk (s := Instr.makeInterface t (a.eval x)) rfl ⟨.iface t (a.eval x), by simp only [VRel]; exact ⟨_, rfl, h1⟩, fun w => ?_⟩
      simp only [Instr.makeInterface, Sem.run_bind, run_underlying hd, Result.andThen_ok]
      cases d <;> first | rfl | exact absurd rfl (hni _)
    · cases h
  · -- makeFunc
    rename_i fn first captured hop
    simp only at hop; subst hop
    split at h
    · rename_i p q h1 h2
      simp only [PR.val.injEq] at h; subst h
      have e1 := evs_ok (ρ := ρ) (δ := δ) (a := a) (fun x hx => ho x (by simp [Op.operands] at hx ⊢; exact .inl hx)) h1
      have e2 := evs_ok (ρ := ρ) (δ := δ) (a := a) (fun x hx => ho x (by simp [Op.operands] at hx ⊢; exact .inr hx)) h2
      refine Gives.mk (s := Instr.makeFunc fn (first.map a.eval) (captured.map a.eval)) rfl ⟨_, ?_, fun w => rfl⟩
      simp only [VRel]
      exact ⟨_, _, rfl, by simpa using e1, by simpa using e2⟩
    · cases h
  · -- fieldAddr
    rename_i s x f hop
    simp only at hop; subst hop
    split at h
    · rename_i fs n off hu he
      have h1 := val (x := x) (by simp [Op.operands]) he
      simp only [VRel] at h1
      obtain ⟨b, o, hn, hx⟩ := h1
      split at h
      · rename_i f' hf
        split at h
        · rename_i m hm
          simp only [PR.val.injEq] at h; subst h
          refine Gives.mk (s := Instr.fieldAt s (a.eval x) f) rfl ⟨.pointer (some ⟨b, o + off + f'.offset, none⟩), ?_, fun w => ?_⟩
          · simp only [VRel]; exact ⟨b, o, hn, by rw [Nat.add_assoc]⟩
          · rw [hx]
            simp [Instr.fieldAt, run_underlying hu, hf, Instr.sureAddr, fieldPlace, run_sizeOfT hm, addr_add]
        · cases h
      · cases h
    · cases h
  · -- indexAddr
    rename_i t x i hop
    simp only at hop; subst hop
    split at h
    · rename_i len elem n off i' hu he hi
      have h1 := val (x := x) (by simp [Op.operands]) he
      simp only [VRel] at h1
      obtain ⟨b, o, hn, hx⟩ := h1
      obtain ⟨vi, hvi, hli⟩ := Option.bind_eq_some_iff.1 hi
      obtain ⟨k, hk⟩ := litNat_some hli (val (x := i) (by simp [Op.operands]) hvi)
      split at h
      · rename_i size hlt hs
        simp only [PR.val.injEq] at h; subst h
        refine Gives.mk (s := Instr.indexAt t (a.eval x) (a.eval i)) rfl ⟨.pointer (some ⟨b, o + off + i' * size, none⟩), ?_, fun w => ?_⟩
        · simp only [VRel]; exact ⟨b, o, hn, by rw [Nat.add_assoc]⟩
        · rw [hk, run_indexAt_ok hs (.inl ⟨hu, hx⟩) (blt_lt hlt), addr_add]
      · cases h
    · rename_i elem n off len cap i' hu he hi
      have h1 := val (x := x) (by simp [Op.operands]) he
      simp only [VRel] at h1
      obtain ⟨b, o, c, hn, hc, hx⟩ := h1
      obtain ⟨vi, hvi, hli⟩ := Option.bind_eq_some_iff.1 hi
      obtain ⟨k, hk⟩ := litNat_some hli (val (x := i) (by simp [Op.operands]) hvi)
      split at h
      · rename_i size hla hlt hs
        simp only [PR.val.injEq] at h; subst h
        have hden : len.den ρ = len.n := by simp [NE.den, hla]
        refine Gives.mk (s := Instr.indexAt t (a.eval x) (a.eval i)) rfl ⟨.pointer (some ⟨b, o + off + i' * size, none⟩), ?_, fun w => ?_⟩
        · simp only [VRel]; exact ⟨b, o, hn, by rw [Nat.add_assoc]⟩
        · rw [hk, run_indexAt_ok hs (.inr ⟨hu, c, hx⟩) (by rw [hden]; exact blt_lt hlt), addr_add]
      · cases h
    · cases h
  · -- index
    rename_i t x i hop
    simp only at hop; subst hop
    split at h
    · rename_i len elem cs i' hu he hi
      have h1 := val (x := x) (by simp [Op.operands]) he
      simp only [VRel] at h1
      obtain ⟨us, hx, hcs⟩ := h1
      obtain ⟨vi, hvi, hli⟩ := Option.bind_eq_some_iff.1 hi
      obtain ⟨k, hk⟩ := litNat_some hli (val (x := i) (by simp [Op.operands]) hvi)
      split at h
      · rename_i size hlt hs
        obtain ⟨u, hu1, hu2⟩ := apart_sound (P := P) hcs (ofO_val h)
        refine Gives.mk (s := Instr.index t (a.eval x) (a.eval i)) rfl ⟨u, hu1, fun w => ?_⟩
        have hlt' := blt_lt hlt
        rw [hk, hx]
        simp [Instr.index, asIntOf, run_underlying hu, hlt', run_sizeOfT hs, hu2]
      · cases h
    · exact closed (by simp) h
  · -- slice
    rename_i t x lo hi mx hop
    simp only at hop; subst hop
    split at h
    · rename_i v' hv
      simp only [PR.val.injEq] at h; subst h
      refine Gives.mk (s := Instr.sliceAt t (a.eval x) (lo.map a.eval) (hi.map a.eval) (mx.map a.eval)) rfl (pslice_sound (fun y hy => ho y ?_) hv)
      simp only [Op.operands, Array.toList_append, List.mem_append, List.mem_cons, Array.mem_toList_iff, Option.mem_toArray, Option.mem_toList] at hy ⊢
      rcases hy with rfl | (h1 | h1) | h1
      · exact .inl (.inl (.inl (by simp)))
      · exact .inl (.inl (.inr h1))
      · exact .inl (.inr h1)
      · exact .inr h1
    · exact closed (by simp) h
  · -- typeAssert
    rename_i x xt asserted ok hop
    simp only at hop; subst hop
    split at h
    · cases h
    · rename_i d t v' hni hd he
      have h1 := val (x := x) (by simp [Op.operands]) he
      simp only [VRel] at h1
      obtain ⟨u, hx, hv'⟩ := h1
      split at h
      · rename_i ht
        have ht' := beq_eq ht
        have key : ∀ w, (Instr.typeAssert (a.eval x) xt asserted ok).run P w = .ok (if ok then .tuple #[u, .bool true] else u) w := by
          intro w
          rw [hx, ht']
          simp only [Instr.typeAssert, Sem.run_bind, run_underlying hd, Result.andThen_ok]
          cases d <;> first | exact absurd rfl (hni _) | simp
        split at h
        · simp only [PR.val.injEq] at h; subst h
          refine Gives.mk (s := Instr.typeAssert (a.eval x) xt asserted true) rfl ⟨.tuple #[u, .bool true], ?_, fun w => by simpa using key w⟩
          simp only [VRel, VRels]
          exact ⟨_, rfl, u, [.bool true], rfl, hv', .bool true, [], rfl, by simp [BE.den], rfl⟩
        · simp only [PR.val.injEq] at h; subst h
          exact Gives.mk (s := Instr.typeAssert (a.eval x) xt asserted false) rfl ⟨u, hv', fun w => by simpa using key w⟩
      · cases h
    · cases h
  · -- len
    rename_i args ts hop
    simp only at hop; subst hop
    have hlen : ∀ t x, ts.toList = [t] → args.toList = [x] → ∀ (n : Int) , (∀ w, (Builtin.len_ #[t] type #[a.eval x]).run P w = .ok (goInt n) w) →
        ∀ w, (execOp a.eval ⟨dst, .call { callee := .builtin .len, args := args, argTypes := ts }, type, pos, after, guard⟩).run P w = .ok (.value (.int .i64 n)) w := by
      intro t x ht hx n hr w
      have ht' : ts = #[t] := by rw [← Array.toArray_toList (xs := ts), ht]
      have hx' : args = #[x] := by rw [← Array.toArray_toList (xs := args), hx]
      subst ht' hx'
      simp [execOp, resolve, invoke, builtin, hr, goInt]
    split at h
    · rename_i t x ht hx
      have hm : x ∈ (Op.call { callee := .builtin .len, args := args, argTypes := ts }).operands.toList := by simp [Op.operands, Call.operands, hx]
      split at h
      · rename_i e n off len cap hu he
        have h1 := val hm he
        simp only [VRel] at h1
        obtain ⟨b, o, c, _, _, hxx⟩ := h1
        simp only [PR.val.injEq] at h; subst h
        refine ⟨_, VRel.int, hlen t x ht hx _ fun w => ?_⟩
        rw [toIE_den, hxx]
        simp [Builtin.len_, run_underlying hu]
      · rename_i e hu he
        have h1 := val hm he
        simp only [VRel] at h1
        simp only [PR.val.injEq] at h; subst h
        refine ⟨_, VRel.int, hlen t x ht hx _ fun w => ?_⟩
        rw [h1]
        simp [Builtin.len_, run_underlying hu, IE.den, IE.sv, SV.ofI, SV.i]
      · rename_i n e v' hu he
        simp only [PR.val.injEq] at h; subst h
        refine ⟨_, VRel.int, hlen t x ht hx _ fun w => ?_⟩
        simp [Builtin.len_, run_underlying hu, IE.den, IE.sv, SV.ofI, SV.i]
      · rename_i a' v' hu he
        split at h
        · rename_i n e hu'
          simp only [PR.val.injEq] at h; subst h
          refine ⟨_, VRel.int, hlen t x ht hx _ fun w => ?_⟩
          simp [Builtin.len_, run_underlying hu, run_underlying hu', IE.den, IE.sv, SV.ofI, SV.i]
        · cases h
      · exact closed (by simp) h
    · cases h
  · rename_i hop; simp only at hop; subst hop; exact closed (by simp) h
  · rename_i hop; simp only at hop; subst hop; exact closed (by simp) h
  · cases h
end
end Go.Sx
