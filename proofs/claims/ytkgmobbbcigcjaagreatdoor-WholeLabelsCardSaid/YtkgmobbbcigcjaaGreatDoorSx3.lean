/- An executor for the model's Go code over an abstract state: its pure operations are the model's. -/
import Derived.Test.YtkgmobbbcigcjaaGreatDoorSx2
namespace Go.Sx
set_option linter.unusedVariables false
section
variable {ρ : Rho} {δ : Dl} {P : Program}

theorem VRel.int {k : IntKind} {e : IE} : VRel ρ δ (.int k e) (.int k (e.den ρ)) := by simp only [VRel]
theorem VRel.bool {e : BE} : VRel ρ δ (.bool e) (.bool (e.den ρ)) := by simp only [VRel]

def EvOK (ρ : Rho) (δ : Dl) (tm : TM) (a : Act) (xs : List Operand) : Prop := ∀ x ∈ xs, ∀ v, ev tm x = some v → VRel ρ δ v (a.eval x)

theorem TRep.evOK {nt : Nat} {tm : TM} {a : Act} (ht : TRep ρ δ nt tm a) (hg : ∀ g, g < gbound → δ.at_ g = some (g, 0)) (xs : List Operand) : EvOK ρ δ tm a xs := by
  intro x _ v hv
  cases x with
  | tmp t =>
    simp only [ev] at hv
    obtain ⟨u, h1, h2⟩ := ht.val t v hv
    simp only [Act.eval, Array.getD_eq_getD_getElem?, h1, Option.getD_some]
    exact h2
  | const c => simp only [ev, Option.some.injEq] at hv; subst hv; exact VRel.ofV c
  | global g =>
    simp only [ev] at hv
    split at hv
    · rename_i hb
      simp only [Option.some.injEq] at hv; subst hv
      have : g < gbound := by simpa [Nat.blt_eq] using hb
      simp only [VRel, Act.eval]
      exact ⟨g, 0, hg g this, by simp⟩
    · cases hv
  | func f => simp only [ev, Option.some.injEq] at hv; subst hv; simp [VRel, VRels, Act.eval]

theorem evs_ok {tm : TM} {a : Act} : ∀ {xs : List Operand} {vs : List AV}, EvOK ρ δ tm a xs → evs tm xs = some vs → VRels ρ δ vs (xs.map a.eval)
  | [], vs, _, h => by simp [evs] at h; subst h; simp [VRels]
  | x :: xs, vs, ho, h => by
    simp only [evs] at h
    split at h
    · rename_i v hv
      split at h
      · rename_i us hus
        simp only [Option.some.injEq] at h; subst h
        simp only [List.map_cons, VRels]
        exact ⟨_, _, rfl, ho x (List.mem_cons_self) v hv, evs_ok (fun y hy => ho y (List.mem_cons_of_mem _ hy)) hus⟩
      · cases h
    · cases h

theorem evParts_ok {tm : TM} {a : Act} : ∀ {xs : List (Nat × Operand)} {vs : List (Nat × AV)}, EvOK ρ δ tm a (xs.map (·.2)) → evParts tm xs = some vs →
    vs.length = xs.length ∧ ∀ (j : Nat) (p : Nat × AV), vs[j]? = some p → ∃ x, xs[j]? = some (p.1, x) ∧ VRel ρ δ p.2 (a.eval x)
  | [], vs, _, h => by simp [evParts] at h; subst h; simp
  | (i, x) :: xs, vs, ho, h => by
    simp only [evParts] at h
    split at h
    · rename_i v hv
      split at h
      · rename_i us hus
        simp only [Option.some.injEq] at h; subst h
        obtain ⟨h1, h2⟩ := evParts_ok (xs := xs) (fun y hy => ho y (List.mem_cons_of_mem _ hy)) hus
        refine ⟨by simp [h1], fun j p hp => ?_⟩
        cases j with
        | zero => simp at hp; subst hp; exact ⟨x, by simp, ho x (List.mem_cons_self) v hv⟩
        | succ j => obtain ⟨y, h3, h4⟩ := h2 j p (by simpa using hp); exact ⟨y, by simpa using h3, h4⟩
      · cases h
    · cases h

theorem mkBin_den (op : BinOp) (k : IntKind) (a b : IE) : (mkBin op k a b).den ρ = intBin op k (a.den ρ) (b.den ρ) := by
  unfold mkBin; split <;> rfl
theorem mkConv_den (k : IntKind) (a : IE) : (mkConv k a).den ρ = k.wrap (a.den ρ) := by
  unfold mkConv; split <;> rfl
theorem mkCmp_den (op : BinOp) (a b : IE) : (mkCmp op a b).den ρ = intCmp op (a.den ρ) (b.den ρ) := by
  have nt : ∀ a : BE, (mkNot a).den ρ = !(a.den ρ) := by
    intro a
    cases a <;> simp [mkNot, BE.den]
  have lt : ∀ a b : IE, (ltE a b).den ρ = decide (a.den ρ < b.den ρ) := by
    intro a b
    unfold ltE
    split
    · rename_i x
      show (!(decide (b.den ρ < x + 1))) = decide (x < b.den ρ)
      generalize b.den ρ = z
      rw [Bool.eq_iff_iff]
      simp only [Bool.not_eq_true', decide_eq_false_iff_not, decide_eq_true_eq]
      omega
    · rfl
  have eq : ∀ a b : IE, (eqE a b).den ρ = (a.den ρ == b.den ρ) := by
    intro a b
    unfold eqE
    split
    · rename_i hs
      rw [IE.same_eq hs]; simp [BE.den]
    · split
      · simp only [BE.den, intCmp, den_lit]
        exact Bool.beq_comm
      · rfl
  unfold mkCmp
  split
  · rfl
  · split
    · rw [lt]; rfl
    · rw [nt, lt]; simp only [intCmp]
      rw [Bool.eq_iff_iff]
      simp only [Bool.not_eq_true', decide_eq_false_iff_not, decide_eq_true_eq]
      omega
    · rw [lt]; rfl
    · rw [nt, lt]; simp only [intCmp]
      rw [Bool.eq_iff_iff]
      simp only [Bool.not_eq_true', decide_eq_false_iff_not, decide_eq_true_eq]
      omega
    · rw [eq]; rfl
    · rw [nt, eq]; rfl
    · rfl
theorem mkNot_den (a : BE) : (mkNot a).den ρ = !(a.den ρ) := by
  unfold mkNot; split <;> simp [BE.den]
theorem toIE_den (e : NE) : e.toIE.den ρ = (e.den ρ : Int) := by
  unfold NE.toIE NE.den; split <;> simp [IE.den, IE.sv, SV.ofI, SV.i]

theorem run_binOp_shift {op : BinOp} (hop : op = .shl ∨ op = .shr) (t : TypeId) (k k' : IntKind) (x y : Int) (hy : ¬ y < 0) (w : World) :
    (binOp op t (.int k x) (.int k' y)).run P w = .ok (.int k (intBin op k x y)) w := by
  rcases hop with rfl | rfl <;> simp [binOp, Op.shift, hy, intBin]

theorem pint_val {pc : PC} {op : BinOp} {k k' : IntKind} {a b : IE} {v : AV} (hp : PCh ρ pc) (h : pint pc op k a k' b = .val v) (t : TypeId) :
    ∃ u, VRel ρ δ v u ∧ ∀ w, (binOp op t (.int k (a.den ρ)) (.int k' (b.den ρ))).run P w = .ok u w := by
  have shift : ∀ op, op = BinOp.shl ∨ op = BinOp.shr → (match mkCmp .lss b (.lit 0) with
    | .lit false => PR.val (.int k (mkBin op k a b))
    | c => match dec pc c with
      | some false => .val (.int k (mkBin op k a b))
      | some true => .no
      | none => .ask c) = .val v → ∃ u, VRel ρ δ v u ∧ ∀ w, (binOp op t (.int k (a.den ρ)) (.int k' (b.den ρ))).run P w = .ok u w := by
    intro op hop h
    have hd := mkCmp_den (ρ := ρ) .lss b (.lit 0)
    have fin : ((mkCmp .lss b (.lit 0)).den ρ = false) → PR.val (.int k (mkBin op k a b)) = .val v → ∃ u, VRel ρ δ v u ∧ ∀ w, (binOp op t (.int k (a.den ρ)) (.int k' (b.den ρ))).run P w = .ok u w := by
      intro hf hv
      simp only [PR.val.injEq] at hv; subst hv
      refine ⟨_, VRel.int, fun w => ?_⟩
      rw [mkBin_den]
      exact run_binOp_shift hop t k k' _ _ (by rw [hf] at hd; exact of_decide_eq_false (p := b.den ρ < 0) hd.symm) w
    split at h
    · rename_i e; exact fin (by rw [e]; rfl) h
    · split at h
      · rename_i hdc; exact fin (dec_sound hp hdc) h
      · cases h
      · cases h
  unfold pint at h
  cases op
  case shl => exact shift .shl (.inl rfl) h
  case shr => exact shift .shr (.inr rfl) h
  case quo | rem =>
    simp only at h
    split at h
    · cases h
    · rename_i hk
      have hkk : k = k' := by simpa using hk
      subst hkk
      have hd := mkCmp_den (ρ := ρ) .eql b (.lit 0)
      split at h
      · rename_i e
        simp only [PR.val.injEq] at h; subst h
        have hz : ¬ b.den ρ = 0 := by rw [e] at hd; simpa [intCmp, IE.den, IE.sv, SV.ofI, SV.i, BE.den] using hd
        exact ⟨_, VRel.int, fun w => by rw [mkBin_den]; simp [binOp, Op.intDiv, hz, intBin]⟩
      · split at h
        · rename_i hdc
          simp only [PR.val.injEq] at h; subst h
          have hz : ¬ b.den ρ = 0 := by rw [dec_sound hp hdc] at hd; simpa [intCmp, IE.den, IE.sv, SV.ofI, SV.i, BE.den] using hd
          exact ⟨_, VRel.int, fun w => by rw [mkBin_den]; simp [binOp, Op.intDiv, hz, intBin]⟩
        · cases h
        · cases h
  all_goals
    simp only at h
    split at h
    · cases h
    · rename_i hk
      have hkk : k = k' := by simpa using hk
      subst hkk
      simp only [PR.val.injEq] at h; subst h
      first
        | (refine ⟨_, VRel.int, fun w => ?_⟩; rw [mkBin_den]; simp [binOp, Op.intArith, Op.intBits, intBin]; done)
        | (refine ⟨_, VRel.bool, fun w => ?_⟩; rw [mkCmp_den]; simp [binOp, Op.intCmp, intCmp]; done)

theorem run_eqGuard_int (op : BinOp) (t : TypeId) (x y : Operand) (k k' : IntKind) (m n : Int) (w : World) :
    (eqGuard op t x y (.int k m) (.int k' n)).run P w = .ok () w := by
  unfold eqGuard; cases op <;> rfl

theorem evalPure_sound {α : Type} : ∀ (s : Sem α) (a : α), evalPure P s = some a → ∀ w, s.run P w = .ok a w := by
  intro s
  induction s with
  | pure a => intro b h w; simp [evalPure] at h; subst h; rfl
  | program k ih => intro b h w; simp only [evalPure] at h; simp only [Sem.run]; exact ih P b h w
  | mark m k ih => intro b h w; simp only [evalPure] at h; simp only [Sem.run]; exact ih b h w
  | _ => intro b h w; simp [evalPure] at h

mutual
theorem closed_sound : ∀ (a : AV) (u v : Value), a.closed = some u → VRel ρ δ a v → v = u
  | .int k (.lit n), u, v, h, hv => by simp [AV.closed] at h; subst h; simpa [VRel, IE.den, IE.sv, SV.ofI, SV.i] using hv
  | .bool (.lit b), u, v, h, hv => by simp [AV.closed] at h; subst h; simpa [VRel, BE.den] using hv
  | .raw x, u, v, h, hv => by simp [AV.closed] at h; subst h; simpa [VRel] using hv
  | .nilp, u, v, h, hv => by simp [AV.closed] at h; subst h; simpa [VRel] using hv
  | .nils, u, v, h, hv => by simp [AV.closed] at h; subst h; simpa [VRel] using hv
  | .agg cs, u, v, h, hv => by
    simp only [AV.closed] at h
    split at h
    · rename_i vs hvs
      simp only [Option.some.injEq] at h; subst h
      simp only [VRel] at hv
      obtain ⟨us, rfl, h2⟩ := hv
      have := closedL_sound cs vs us.toList hvs h2
      rw [← this]
    · cases h
  | .int _ (.at _), _, _, h, _ => by simp [AV.closed] at h
  | .int _ (.nat _ _), _, _, h, _ => by simp [AV.closed] at h
  | .int _ (.bin _ _ _ _), _, _, h, _ => by simp [AV.closed] at h
  | .int _ (.conv _ _), _, _, h, _ => by simp [AV.closed] at h
  | .int _ (.str _), _, _, h, _ => by simp [AV.closed] at h
  | .int _ (.prim _ _), _, _, h, _ => by simp [AV.closed] at h
  | .int _ (.app _ _), _, _, h, _ => by simp [AV.closed] at h
  | .bool (.is _), _, _, h, _ => by simp [AV.closed] at h
  | .bool (.seq _ _), _, _, h, _ => by simp [AV.closed] at h
  | .bool (.iff _ _), _, _, h, _ => by simp [AV.closed] at h
  | .bool (.and _ _), _, _, h, _ => by simp [AV.closed] at h
  | .val _, _, _, h, _ => by simp [AV.closed] at h
  | .ptrx _ _ _ _ _, _, _, h, _ => by simp [AV.closed] at h
  | .sl _ _ _ _ _ _ _, _, _, h, _ => by simp [AV.closed] at h
  | .bool (.at _), _, _, h, _ => by simp [AV.closed] at h
  | .bool (.cmp _ _ _), _, _, h, _ => by simp [AV.closed] at h
  | .bool (.not _), _, _, h, _ => by simp [AV.closed] at h
  | .str _, _, _, h, _ => by simp [AV.closed] at h
  | .ptr _ _, _, _, h, _ => by simp [AV.closed] at h
  | .slice _ _ _ _, _, _, h, _ => by simp [AV.closed] at h
  | .func _ _ _, _, _, h, _ => by simp [AV.closed] at h
  | .iface _ _, _, _, h, _ => by simp [AV.closed] at h
  | .tup _, _, _, h, _ => by simp [AV.closed] at h
  | .map _, _, _, h, _ => by simp [AV.closed] at h
theorem closedL_sound : ∀ (as : List AV) (us vs : List Value), AV.closed.closedL as = some us → VRels ρ δ as vs → vs = us
  | [], us, vs, h, hv => by simp [AV.closed.closedL] at h; subst h; simpa [VRels] using hv
  | a :: as, us, vs, h, hv => by
    simp only [AV.closed.closedL] at h
    split at h
    · rename_i u hu
      split at h
      · rename_i us' hus
        simp only [Option.some.injEq] at h; subst h
        simp only [VRels] at hv
        obtain ⟨x, xs, rfl, h2, h3⟩ := hv
        rw [closed_sound a u x hu h2, closedL_sound as us' xs hus h3]
      · cases h
    · cases h
end

theorem evs_mem {tm : TM} : ∀ {xs : List Operand} {vs : List AV}, evs tm xs = some vs → ∀ x ∈ xs, ∃ v ∈ vs, ev tm x = some v
  | [], _, _, x, hx => by cases hx
  | y :: ys, vs, h, x, hx => by
    simp only [evs] at h
    split at h
    · rename_i v hv
      split at h
      · rename_i us hus
        simp only [Option.some.injEq] at h; subst h
        rcases List.mem_cons.1 hx with rfl | hx
        · exact ⟨v, List.mem_cons_self, hv⟩
        · obtain ⟨u, h1, h2⟩ := evs_mem hus x hx; exact ⟨u, List.mem_cons_of_mem _ h1, h2⟩
      · cases h
    · cases h

theorem closedL_mem : ∀ {as : List AV} {us : List Value}, AV.closed.closedL as = some us → ∀ a ∈ as, ∃ u, a.closed = some u
  | [], _, _, a, ha => by cases ha
  | b :: as, us, h, a, ha => by
    simp only [AV.closed.closedL] at h
    split at h
    · rename_i u hu
      split at h
      · rename_i us' hus
        rcases List.mem_cons.1 ha with rfl | ha
        · exact ⟨u, hu⟩
        · exact closedL_mem hus a ha
      · cases h
    · cases h

theorem pclosed_sound {tm : TM} {a : Act} {o : Oper} {v : AV} (ho : EvOK ρ δ tm a o.op.operands.toList) (hsel : ∀ cs b, o.op ≠ .select cs b)
    (h : pclosed P tm o = some v) : ∃ u, VRel ρ δ v u ∧ ∀ w, (execOp a.eval o).run P w = .ok (.value u) w := by
  unfold pclosed at h
  split at h
  · cases h
  · rename_i vs hvs
    split at h
    · cases h
    · rename_i us hus
      split at h
      · rename_i u hu
        simp only [Option.some.injEq] at h; subst h
        refine ⟨u, VRel.ofV u, ?_⟩
        rw [execOp_congr o hsel (ρ' := fun x => match ev tm x with
          | some v => (match v.closed with | some u => u | none => undef)
          | none => undef)]
        · exact evalPure_sound _ _ hu
        · intro x hx
          have hx' : x ∈ o.op.operands.toList := by simpa using hx
          obtain ⟨v, hv1, hv2⟩ := evs_mem hvs x hx'
          obtain ⟨u', hu'⟩ := closedL_mem hus v hv1
          simp only [hv2, hu']
          exact closed_sound v u' _ hu' (ho x hx' v hv2)
      · cases h
end
end Go.Sx
