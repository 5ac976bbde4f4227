/- WholeLabels: the law answers true, in the row's own words. -/
import Derived.Test.YtkgmobbbcigcjaaGreatDoorLWalk
import Derived.Test.YtkgmobbbcigcjaaGreatDoorLFacts1
import Derived.Test.YtkgmobbbcigcjaaGreatDoorRows
import Derived.Test.YtkgmobbbcigcjaaGreatDoorTie
import Derived.Test.YtkgmobbbcigcjaaGreatDoorCards
import Derived.WalkKit
import Derived.ProofKit
import Derived.OpenShut
import Derived.ShutString
import Derived.ChangeOld
import Derived.ChangeVars
import Derived.Below
import Derived.SizedLaws
import Derived.JoinedOf
import Derived.SevenTiedAt
namespace Go.Proofs.YtkgmobbbcigcjaaGreatDoor
set_option linter.unusedVariables false
namespace wholeLabels
open Go.ChangeShapes Go.WideShapes Go.ChangeAt Go.RowKit
open Go.Sx.L (IsRow walk hasL top_tree)

theorem own : ownKnob Tryz.prog.godebug = none := by kernel_rfl
theorem laidOut : laidOutB Tryz.prog = true := fact1
theorem g0 : Tryz.prog.globalNamed "hermitage/isa.has" = some 0 := by kernel_rfl
theorem g0t : (Tryz.prog.globals[0]?).map (·.type) = some 468 := by kernel_rfl
theorem u468 : Tryz.prog.underlying 468 = some (.array 42 3) := by kernel_rfl
theorem u3 : Tryz.prog.underlying 3 = some (.int .i64) := by kernel_rfl
theorem u4 : Tryz.prog.underlying 4 = some .bool := by kernel_rfl
theorem u5 : Tryz.prog.underlying 5 = some (.int .u8) := by kernel_rfl
theorem u22 : Tryz.prog.underlying 22 = some (.slice 25) := by kernel_rfl
theorem u25 : Tryz.prog.underlying 25 = some (.int .i16) := by kernel_rfl
theorem c468 : Tryz.prog.cellsOf 468 = 42 := by kernel_rfl
theorem c3 : Tryz.prog.cellsOf 3 = 1 := by kernel_rfl

theorem mapM_get {α β : Type} {f : α → Option β} : ∀ (l : List α) (xs : List β), l.mapM f = some xs → l.length = xs.length ∧ ∀ (i : Nat) (a : α), l[i]? = some a → ∃ b : β, xs[i]? = some b ∧ f a = some b
  | [], xs, h => by
    simp only [List.mapM_nil, Option.pure_def, Option.some.injEq] at h
    subst h
    exact ⟨rfl, fun i a h => by simp at h⟩
  | a :: l, xs, h => by
    simp only [List.mapM_cons, Option.bind_eq_bind, Option.bind_eq_some_iff, Option.pure_def, Option.some.injEq] at h
    obtain ⟨b, h1, bs, h2, rfl⟩ := h
    obtain ⟨h3, h4⟩ := mapM_get l bs h2
    refine ⟨by simp [h3], fun i x hx => ?_⟩
    cases i with
    | zero => simp only [List.getElem?_cons_zero, Option.some.injEq] at hx; subst hx; exact ⟨b, rfl, h1⟩
    | succ i => simp only [List.getElem?_cons_succ] at hx ⊢; exact h4 i x hx

/-- One whole number, read. -/
theorem int_of {H : Type} {enc : TypeId × Value → H} {Q : Program} {w : World} {base : Nat} {sp : Nat → Bool} {held : Bool} {fuel : Nat} {t : TypeId} {k : IntKind} {c : Value} {y : DataW H × List MemPlace}
    (ht : Q.underlying t = some (.int k)) (h : DataW.trod enc Q w base sp held fuel t [c] = some y) : ∃ n, c = .int k n ∧ y = (.lit (.int k n), []) := by
  cases fuel with
  | zero => simp [DataW.trod] at h
  | succ fuel =>
    cases c <;> simp [DataW.trod, ht] at h
    rename_i k' n
    obtain ⟨⟨rfl, _⟩, rfl⟩ := h
    exact ⟨n, rfl, rfl⟩

/-- An array of whole numbers, read. -/
theorem ints_of {H : Type} {enc : TypeId × Value → H} {Q : Program} {w : World} {base : Nat} {sp : Nat → Bool} {held : Bool} {fuel : Nat} {t e : TypeId} {n : Nat} {k : IntKind} {cs : List Value} {ns : List Int} {p : List MemPlace}
    (ht : Q.underlying t = some (.array n e)) (he : Q.underlying e = some (.int k)) (hct : Q.cellsOf t = n) (hce : Q.cellsOf e = 1)
    (h : DataW.trod enc Q w base sp held fuel t cs = some (.agg (ns.map fun x => .lit (.int k x)), p)) : cs = ns.map (Value.int k) := by
  cases fuel with
  | zero => simp [DataW.trod] at h
  | succ fuel =>
    simp only [DataW.trod, ht, hct, hce, Nat.mul_one] at h
    split at h
    case isFalse => cases h
    rename_i hl
    rw [Option.map_eq_some_iff] at h
    obtain ⟨xs, h1, h2⟩ := h
    injection h2 with h2 _
    injection h2 with h2
    obtain ⟨h3, h4⟩ := mapM_get _ _ h1
    rw [List.length_range] at h3
    have hns : ns.length = n := by
      have := congrArg List.length h2
      simp only [List.length_map] at this
      omega
    apply List.ext_getElem?
    intro i
    by_cases hi : i < n
    · obtain ⟨b, hb, hf⟩ := h4 i i (by rw [List.getElem?_range hi])
      have hd : (cs.drop i).take 1 = [cs[i]'(by omega)] := by
        rw [List.drop_eq_getElem_cons (by omega), List.take_succ_cons, List.take_zero]
      rw [hd] at hf
      obtain ⟨m, hm, hy⟩ := int_of he hf
      have hx : (xs.map (·.1))[i]? = (ns.map fun x => DataW.lit (.int k x))[i]? := by rw [h2]
      rw [List.getElem?_map, List.getElem?_map, hb, List.getElem?_eq_getElem (show i < ns.length by omega), hy] at hx
      simp only [Option.map_some, Option.some.injEq] at hx
      injection hx with hx
      injection hx with _ hx
      rw [List.getElem?_map, List.getElem?_eq_getElem (show i < cs.length by omega), List.getElem?_eq_getElem (show i < ns.length by omega), hm, hx]
      rfl
    · rw [List.getElem?_eq_none (by omega), List.getElem?_eq_none (by simp; omega)]

theorem has_laid {H : Type} : (Rows.laid_hermitage_isa_has : DataW H) = .agg (hasL.map fun x => .lit (.int .i64 x)) := rfl

/-- What the table holds. -/
theorem has_of_laid {W : World} (h : laidMet Tryz.prog Rows.wholeLabelsRow.laid W) : ∃ cs el fr, W.heap[0]? = some (.cells cs el fr) ∧ cs.toList = hasL.map (Value.int .i64) := by
  obtain ⟨ps, ⟨g, t, cs, fuel, p, q, hg, ht, hvar, hd, _, _⟩, _⟩ := h
  obtain rfl := Option.some.inj (g0.symm.trans hg)
  obtain rfl := Option.some.inj (g0t.symm.trans ht)
  have hcs := ints_of u468 u3 c468 c3 (ns := hasL) (by rw [← has_laid]; exact hd)
  simp only [World.var?, g0, Option.bind_some] at hvar
  split at hvar
  · rename_i c el fr hh
    injection hvar with hvar
    subst hvar
    exact ⟨c, el, fr, hh, hcs⟩
  · cases hvar

def cells0 : Array Value := (hasL.map (Value.int .i64)).toArray
def cells1 : Array Value := #[.int .i64 0, .int .i64 4, .int .i64 1, .int .i64 1, .int .i64 2, .int .i64 2]
def lay (c : Array Value) : Obj → Obj
  | .cells _ t frozen => .cells c t frozen
  | o => o
/-- A world in which the variables hold what is listed. -/
noncomputable def laidWorld (os : Os) : World :=
  { World.holding Tryz.prog os ⟨#[], #[], []⟩ with heap := ((World.holding Tryz.prog os ⟨#[], #[], []⟩).heap.modify 0 (lay cells0)).modify 1 (lay cells1) }
abbrev args0 : Array Value := #[.slice none 0 0, .int .u8 0]
theorem laidWorld_row0 (os : Os) : ((laidWorld os).forCall (fun _ _ => 0) ⟨#[], args0, []⟩).memory.heap[0]? = some (.cells cells0 468 (0, 0)) := by kernel_rfl
theorem laidWorld_row1 (os : Os) : ((laidWorld os).forCall (fun _ _ => 0) ⟨#[], args0, []⟩).memory.heap[1]? = some (.cells cells1 589 (0, 0)) := by kernel_rfl

theorem laidWorld_met (os : Os) : laidMet Tryz.prog Rows.wholeLabelsRow.laid ((laidWorld os).forCall (fun _ _ => 0) ⟨#[], args0, []⟩).memory := by
  refine ⟨_, ⟨0, 468, cells0, 8, [], _, by kernel_rfl, by kernel_rfl, by kernel_rfl, by kernel_rfl, ⟨1, 589, cells1, 8, [], [], by kernel_rfl, by kernel_rfl, by kernel_rfl, by kernel_rfl, rfl, rfl⟩, rfl⟩, by decide +kernel, fun b off h => ?_⟩
  have hb : b = 0 ∨ b = 1 := by
    simp only [List.append_nil, List.mem_append] at h
    rcases h with h | h
    · left
      simp only [MemPlace.row, List.mem_map] at h
      obtain ⟨_, _, h⟩ := h
      injection h with h
      exact h.symm
    · right
      simp only [MemPlace.row, List.mem_map] at h
      obtain ⟨_, _, h⟩ := h
      injection h with h
      exact h.symm
  rcases hb with rfl | rfl
  · refine ⟨⟨_, _, laidWorld_row0 os⟩, fun u v hc => ?_⟩
    simp only [World.cell?, laidWorld_row0 os, cells0, List.getElem?_toArray, List.getElem?_map] at hc
    simp at hc
  · refine ⟨⟨_, _, laidWorld_row1 os⟩, fun u v hc => ?_⟩
    simp only [World.cell?, laidWorld_row1 os] at hc
    have : cells1 = ([0, 4, 1, 1, 2, 2].map (Value.int .i64)).toArray := rfl
    rw [this, List.getElem?_toArray, List.getElem?_map] at hc
    simp at hc

theorem body3 : (Tryz.prog.funcs[3]?).map (fun f => f.body.isSome) = some true := by kernel_rfl

set_option maxRecDepth 100000 in
theorem lifted (os : Os) (started : os.Started) (H : Type) (enc : TypeId × Value → H) :
    ReturnsInHanded {} Tryz.checked os 3 .any (fun w args => (Rows.wholeLabelsSpec.pre enc Tryz.prog Tryz.f3 Rows.wholeLabelsRow.domain false w args ∧ laidMet Tryz.prog Rows.wholeLabelsRow.laid w) ∧ sizedMet enc Tryz.prog Tryz.f3 (OpenSpec.ofChange Rows.wholeLabelsSpec) false w args)
      (Rows.wholeLabelsSpec.post enc Tryz.prog Tryz.f3 false true false false) := by
  refine returnsInHanded_of_change_and (C := Tryz.checked) (X := fun w _ => laidMet Tryz.prog Rows.wholeLabelsRow.laid w) (fun _ _ _ hh h => h.of_heap hh) own started (by kernel_rfl) Tryz.func3
    (ChangeSpec.witness_at (enc := enc) (C := Tryz.checked) (os := os) (X := fun w _ => laidMet Tryz.prog Rows.wholeLabelsRow.laid w) false (laidWorld os) args0 8 rfl (by kernel_rfl) (by kernel_rfl) (by kernel_rfl) (by kernel_rfl) (by kernel_rfl) (laidWorld_met os)) ?_
  intro W base args ds gs before hval0 hW _ _ hL _
  have hval : ∀ (j : Nat) t v, Tryz.f3.params[j]? = some t → args[j]? = some v → Value.okWide Tryz.prog W .any base t v := hval0
  have hW' := hW
  obtain ⟨p, q, hA0, hV, rfl, hfz, hnd⟩ := hW
  have hA : DataW.TrodAll enc Tryz.prog W 0 (fun _ => true) true Tryz.f3.params.toList args.toList ds p := hA0
  rw [Tryz.params3] at hA hval
  obtain ⟨v0, vs0, d0, ds0, p0, q0, hargs, rfl, rfl, h0, r0⟩ := trodAll_cons hA
  obtain ⟨v1, vs1, d1, ds1, p1, q1, rfl, rfl, rfl, h1, r1⟩ := trodAll_cons r0
  obtain ⟨rfl, rfl, rfl⟩ := trodAll_nil r1
  obtain rfl : args = #[v0, v1] := by cases args; simp_all
  obtain ⟨rfl, rfl⟩ := trodVars_none hV
  obtain ⟨a0, len0, cap0, rfl⟩ := okWide_slice u22 (hval 0 22 v0 rfl rfl)
  have k0 := h0
  have lt0 : ∀ x ∈ p0, x.block < W.heap.size := by obtain ⟨m, hm⟩ := k0; exact DataW.trod_lt m _ _ _ hm
  obtain ⟨z0, w0⟩ : ∃ zs, IsRow .i16 W a0 len0 cap0 zs := by
    obtain ⟨fuel, hf⟩ := h0
    rcases open_ints u22 u25 (by kernel_rfl) hf with ⟨hcs, _⟩ | ⟨x, l, c, zs, hcs, _, hl, hm, hz, _, hcell, hwz⟩
    · simp [Value.cells] at hcs
      obtain ⟨rfl, rfl, rfl⟩ := hcs
      exact ⟨[], .inl ⟨rfl, rfl, rfl, rfl⟩⟩
    · simp [Value.cells] at hcs
      obtain ⟨rfl, rfl, rfl⟩ := hcs
      exact ⟨zs, .inr ⟨_, rfl, hl, hm, by simpa using hz, hcell, hwz⟩⟩
  obtain ⟨a1, rfl, rfl, rfl, w1⟩ := open_int u5 (hval 1 5 v1 rfl rfl) h1
  obtain ⟨cs, el, fr, hh, hcs⟩ := has_of_laid hL
  clear hA0 hval0
  refine (walk 20 top_tree body3 W cs el fr hh hcs a0 len0 cap0 z0 w0 a1 w1).mono fun e W' ⟨he, bel⟩ => ?_
  subst he
  exact ⟨_, rfl, _, _, _, [], _, [], hW', trodAll_mk1 (shut_bool u4 _), (trodAll_cons_mk (Below.trod laidOut (by kernel_rfl) (of_decide_eq_true (by kernel_rfl)) k0 bel lt0) (trodAll_cons_mk (shut_int u5 w1) trodAll_mk0)), rfl, bel.frame _, fun h => by cases h⟩

end wholeLabels
end Go.Proofs.YtkgmobbbcigcjaaGreatDoor
