/- WholeLabels: what a call of the law does. -/
import Derived.Test.YtkgmobbbcigcjaaGreatDoorLTop
import Derived.Test.YtkgmobbbcigcjaaGreatDoorLAwake
import Derived.Below
namespace Go.Sx.L
set_option linter.unusedVariables false
open Go Go.Sx Go.RowKit

theorem wrapT_ok {ρ : Rho} {α : Type} {Ψ : α → Prop} (hf : ρ.fn = fn) : ∀ ck : CallK α, CallSound ρ P Ψ ck → CallSound ρ P Ψ (wrapT ck) := by
  intro ck hck f args hs pc k δ w us R hp hr hv h hk
  unfold wrapT at h
  split at h
  · exact fnK_sound (hf ▸ aw_ok) hp hr hv h hk
  · exact hck _ args hs pc k δ w us R hp hr hv h hk

theorem tab2_ok {ρ : Rho} {Ψ : BE → Prop} (hf : ρ.fn = fn) : ∀ f fn' c, P.funcs[f]? = some fn' → fn'.body = some c → ∀ b ∈ loopsOf c, ∀ tm0 F, tab2 f (loopKey b) tm0 = some F → LoopSound ρ P fn'.ntmps Ψ b F := by
  intro f fn' c hfn hc b hb tm0 F hF
  unfold tab2 at hF
  split at hF
  · rename_i hk
    injection hF with hF; subst hF
    exact here one_16 nt_16 hfn hc hb hk (loopK_sound (hf ▸ eq_ok))
  · rename_i hk
    split at hF
    · injection hF with hF; subst hF
      exact here one_24 nt_24 hfn hc hb hk (loopK_sound (hf ▸ join_ok))
    · injection hF with hF; subst hF
      exact here one_24 nt_24 hfn hc hb hk (loopK_sound (hf ▸ meet_ok))
  · rename_i hk
    injection hF with hF; subst hF
    exact here one_17 nt_17 hfn hc hb hk (coeK_sound _ (loopK_sound (hf ▸ under_ok)))
  · rename_i hk
    injection hF with hF; subst hF
    exact here one_3a nt_3 hfn hc hb hk (coeK_sound _ (loopK_sound (hf ▸ low_ok)))
  · rename_i hk
    injection hF with hF; subst hF
    exact here one_3b nt_3 hfn hc hb hk (coeK_sound _ (loopK_sound (hf ▸ main_ok)))
  · cases hF

theorem callT {ρ : Rho} {Ψ : BE → Prop} (hf : ρ.fn = fn) (d : Nat) : CallSound ρ P Ψ (call P ckB tab2 wrapT d) :=
  call_sound follows enter (bad_sound 77) (wrapT_ok hf) (tab2_ok hf) d

/-- A row of whole numbers in memory. -/
def IsRow (k : IntKind) (w : World) (a : Option Addr) (len cap : Nat) (zs : List Int) : Prop :=
  (a = none ∧ len = 0 ∧ cap = 0 ∧ zs = []) ∨
  ∃ x, a = some x ∧ len ≤ cap ∧ cap ≤ maxLen ∧ zs.length = cap ∧ (∀ i, i < zs.length → w.cell? (x.add i) = some (.int k (zs.getD i 0))) ∧ ∀ n ∈ zs, (Lit.int k n).wf = true

theorem top_rw {n : Nat} {b : ABlk} (h : topH.hs.heap.get n = some b) : b.rw = false := by
  have := T.puts_mem topH.blks n b h
  simp only [Pat.blks, topH, List.map_cons, List.map_nil, List.mem_cons, Prod.mk.injEq, List.not_mem_nil, or_false] at this
  rcases this with ⟨_, rfl⟩ | ⟨_, rfl⟩ <;> rfl

/-- The law, from a state of its head. -/
theorem law_runs (d : Nat) (htree : call P ckB tab2 wrapT d 3 topArgs topH.hs [] leafB = topT) (ρ : Rho) (hf : ρ.fn = fn) (h1 : ρ.sv 1 = .ofI (ρ.sv 0).l.length) (hr : ∀ e ∈ (ρ.sv 0).l, -32768 ≤ e.i ∧ e.i ≤ 32767) (hn0 : 0 ≤ (ρ.sv 2).i) (hn1 : (ρ.sv 2).i < 256)
    (δ : Dl) (w : World) (us : Array Value) (hH : HRep ρ δ topH.hs w) (hv : VRels ρ δ topArgs us.toList) (hb : (P.funcs[3]?).map (fun f => f.body.isSome) = some true) :
    Calls P 3 us w fun e w' => e = .returned (.bool true) ∧ Below w.heap.size w w' := by
  have hT := top_leaves ρ hf h1 hr hn0 hn1
  rw [← htree] at hT
  have := callT (Ψ := fun b : BE => b.den ρ = true) hf d 3 topArgs topH.hs [] leafB δ w us (fun u w' => u = .bool true ∧ Below w.heap.size w w') (fun x hx => by cases hx) hH hv hT ?_
  · rcases this with ⟨u, w', h2, _⟩ | ⟨_, h2⟩
    · exfalso
      cases hfn : P.funcs[3]? with
      | none => rw [hfn] at hb; cases hb
      | some fn' =>
        rw [hfn] at hb
        simp only [Option.map_some, Option.some.injEq] at hb
        rw [enter 3 fn' hfn hb] at h2
        cases h2
    · exact Calls.mono h2 fun e w' he => by
        obtain ⟨u, rfl, rfl, hbel⟩ := he
        exact ⟨rfl, hbel⟩
  · intro v hs' pc' δ' w' u _ _ he hvu hl
    unfold leafB at hl
    split at hl
    · rename_i b
      have hl : b.den ρ = true := hl
      simp only [VRel] at hvu
      refine ⟨by rw [hvu, hl], he.os, he.tape, he.output, he.size, fun k hk => he.unch k hk fun _ n o blk hg hrw _ => ?_⟩
      rw [top_rw hg] at hrw; cases hrw
    · exact hl.elim

theorem top_get0 : topH.hs.heap.get 0 = some hasBlk.blk := by rfl
theorem top_get1 : topH.hs.heap.get 1024 = some (.seq (.at 0) [.int .i16] 25 0 false) := by rfl
theorem has_cells (i : Nat) (a : AV) (h : (T.puts .nil (hasCells 0 hasL)).get i = some a) : ∃ n, hasL[i]? = some n ∧ a = .int .i64 (.lit n) := by
  have hm := T.puts_mem _ i a h
  have key : ∀ (l : List Int) (k : Nat), (i, a) ∈ hasCells k l → ∃ n, k ≤ i ∧ l[i - k]? = some n ∧ a = .int .i64 (.lit n) := by
    intro l
    induction l with
    | nil => intro k h; cases h
    | cons x l ih =>
      intro k h
      rcases List.mem_cons.1 h with e | h
      · injection e with e1 e2
        subst e1 e2
        exact ⟨x, Nat.le_refl _, by simp, rfl⟩
      · obtain ⟨n, g1, g2, g3⟩ := ih (k + 1) h
        refine ⟨n, by omega, ?_, g3⟩
        have : i - k = (i - (k + 1)) + 1 := by omega
        rw [this]; simpa using g2
  obtain ⟨n, _, h2, h3⟩ := key hasL 0 hm
  exact ⟨n, by simpa using h2, h3⟩

theorem walk (d : Nat) (htree : call P ckB tab2 wrapT d 3 topArgs topH.hs [] leafB = topT) (hb : (P.funcs[3]?).map (fun f => f.body.isSome) = some true)
    (w : World) (cs : Array Value) (el : TypeId) (fr : Nat × Nat) (h0 : w.heap[0]? = some (.cells cs el fr)) (hcs : cs.toList = hasL.map (Value.int .i64))
    (a : Option Addr) (len cap : Nat) (zs : List Int) (hrow : IsRow .i16 w a len cap zs) (n : Int) (hn : (Lit.int .u8 n).wf = true) :
    Calls P 3 #[.slice a len cap, .int .u8 n] w fun e w' => e = .returned (.bool true) ∧ Below w.heap.size w w' := by
  have hcsz : cs.size = 42 := by
    have := congrArg List.length hcs
    simpa [hasL] using this
  have hpos : 0 < w.heap.size := (Array.getElem?_eq_some_iff.1 h0).1
  have hn' : 0 ≤ n ∧ n < 256 := by
    simp only [Lit.wf, IntKind.min, IntKind.max, IntKind.signed, IntKind.bits] at hn
    simp at hn
    omega
  -- what the row has
  obtain ⟨l, hl⟩ : ∃ l : List SV, l = (zs.take len).map SV.ofI := ⟨_, rfl⟩
  have hwf : ∀ z ∈ zs, (Lit.int .i16 z).wf = true := by
    rcases hrow with ⟨_, _, _, rfl⟩ | ⟨x, _, _, _, _, _, h⟩
    · intro z hz; cases hz
    · exact h
  have hlen : l.length = len := by
    rw [hl, List.length_map, List.length_take]
    rcases hrow with ⟨_, rfl, _, rfl⟩ | ⟨x, _, h1, _, h3, _⟩
    · rfl
    · omega
  have hrng : ∀ e ∈ l, -32768 ≤ e.i ∧ e.i ≤ 32767 := by
    intro e he
    rw [hl, List.mem_map] at he
    obtain ⟨z, hz, rfl⟩ := he
    have := hwf z (List.mem_of_mem_take hz)
    simp only [Lit.wf, IntKind.min, IntKind.max, IntKind.signed, IntKind.bits] at this
    simp at this
    rw [ofI_i]; omega
  let ρ : Rho := { sv := fun i => if i = 0 then .ofL l else if i = 1 then .ofI l.length else .ofI n, val := fun _ => undef, fn := fn }
  have r0 : ρ.sv 0 = .ofL l := rfl
  have r1 : ρ.sv 1 = .ofI l.length := rfl
  have r2 : ρ.sv 2 = .ofI n := rfl
  -- where the row lies
  obtain ⟨bo, r, hplace⟩ : ∃ (bo : Nat × Nat) (r : Nat), (cap = 0 ∧ bo = (gy, 0) ∧ r = 0) ∨ (bo.1 ≠ gy ∧ r = cap ∧ 0 < cap ∧ a = some ⟨bo.1, bo.2, none⟩ ∧ zs.length = cap ∧ ∃ cur el' fr', w.heap[bo.1]? = some (.cells cur el' fr') ∧ ∀ i, i < cap → cur[bo.2 + i]? = some (.int .i16 (zs.getD i 0))) := by
    by_cases hc : cap = 0
    · exact ⟨(gy, 0), 0, .inl ⟨hc, rfl, rfl⟩⟩
    · rcases hrow with ⟨_, _, h, _⟩ | ⟨x, hx, h1, h2, h3, h4, _⟩
      · exact absurd h hc
      · have hcell := h4 0 (by omega)
        have hx0 : x.add 0 = x := by simp [Addr.add]
        rw [hx0] at hcell
        unfold World.cell? at hcell
        split at hcell
        case h_2 => cases hcell
        rename_i cur el' fr' hheap
        split at hcell
        · cases hcell
        rename_i hspot
        have hsp : x.spot = none := by
          cases hs : x.spot with
          | none => rfl
          | some _ => rw [hs] at hspot; simp at hspot
        have hall : ∀ i, i < cap → cur[x.off + i]? = some (.int .i16 (zs.getD i 0)) := by
          intro i hi
          have := h4 i (by omega)
          have hxe : x = ⟨x.block, x.off, none⟩ := by cases x; simp only at hsp; subst hsp; rfl
          rw [hxe, addr_add] at this
          simp only [World.cell?, hheap] at this
          simpa using this
        refine ⟨(x.block, x.off), cap, .inr ⟨?_, rfl, by omega, ?_, h3, cur, el', fr', hheap, hall⟩⟩
        · intro e
          have e : x.block = 0 := e
          rw [e, h0] at hheap
          injection hheap with hheap
          injection hheap with e1 e2 e3
          have := hall 0 (by omega)
          rw [← e1, ← Array.getElem?_toList, hcs, List.getElem?_map] at this
          cases hg : hasL[x.off + 0]? with
          | none => rw [hg] at this; cases this
          | some z => rw [hg] at this; simp at this
        · rw [hx]; cases x; simp only at hsp; subst hsp; rfl
  let δ : Dl := { at_ := fun m => if m < 1024 then some (m, 0) else if m = 1024 then some bo else none, cap := fun i => if i = 0 then some r else if i = 1 then some l.length else none }
  have d1 : δ.at_ 1024 = some bo := rfl
  have c0 : δ.cap 0 = some r := rfl
  have c1 : δ.cap 1 = some l.length := rfl
  have hH : HRep ρ δ topH.hs w := by
    refine ⟨fun m b hm => ?_, fun m m' b c x y o o' hm _ _ hrw _ _ _ _ => ?_, fun m hm => ?_, fun i hi => ?_, fun g hg => ?_, by decide, hpos⟩
    · have hmem := T.puts_mem topH.blks m b hm
      simp only [Pat.blks, topH, List.map_cons, List.map_nil, List.mem_cons, Prod.mk.injEq, List.not_mem_nil, or_false] at hmem
      rcases hmem with ⟨rfl, rfl⟩ | ⟨rfl, rfl⟩
      · refine ⟨0, 0, cs, fr, rfl, ⟨el, h0, fun e => (by cases e)⟩, fun i a ha => ?_, fun e => (by cases e), by omega, trivial⟩
        obtain ⟨z, hz, rfl⟩ := has_cells i a ha
        refine ⟨.int .i64 z, ?_, by simp only [VRel, den_lit]⟩
        rw [Nat.zero_add, ← Array.getElem?_toList, hcs, List.getElem?_map, hz]; rfl
      · refine ⟨bo.1, bo.2, r, d1, c0, by rw [c1]; rfl, ?_⟩
        have hsv : ((IE.at 0).sv ρ).l = l := rfl
        rw [hsv]
        rcases hplace with ⟨hc, hbo, hr⟩ | ⟨hne, hr, hcp, ha, hzl, cur, el', fr', hheap, hall⟩
        · refine .inl ⟨by rw [hbo], ?_⟩
          have : len ≤ cap := by
            rcases hrow with ⟨_, rfl, rfl, _⟩ | ⟨x, _, h1, _⟩
            · exact Nat.le_refl _
            · exact h1
          exact List.eq_nil_of_length_eq_zero (by omega)
        · refine .inr ⟨hne, cur, fr', ⟨el', hheap, fun e => (by cases e)⟩, fun i e he f ck hck => ?_, fun e => (by cases e), ?_, ?_⟩
          · have hf : f = 0 ∧ ck = .int .i16 := by
              cases f with
              | zero => simp at hck; exact ⟨rfl, hck.symm⟩
              | succ f => simp at hck
            obtain ⟨rfl, rfl⟩ := hf
            have hi : i < len := by rw [← hlen]; exact (List.getElem?_eq_some_iff.1 he).1
            have hlc : len ≤ cap := by
              rcases hrow with ⟨_, rfl, rfl, _⟩ | ⟨x, _, h1, _⟩
              · exact Nat.le_refl _
              · exact h1
            have := hall i (by omega)
            simp only [List.length_cons, List.length_nil, Nat.zero_add, Nat.mul_one, Nat.add_zero]
            rw [this]
            rw [hl, List.getElem?_map, List.getElem?_take_of_lt hi, List.getElem?_eq_getElem (by omega)] at he
            simp only [Option.map_some, Option.some.injEq] at he
            subst he
            simp only [CK.val, SV.part, Nat.beq, ofI_i, List.getD, List.getElem?_eq_getElem (show i < zs.length by omega), Option.getD_some]
          · have := hall (cap - 1) (by omega)
            have := (Array.getElem?_eq_some_iff.1 this).1
            omega
          · have hlc : len ≤ cap := by
              rcases hrow with ⟨_, rfl, rfl, _⟩ | ⟨x, _, h1, _⟩
              · exact Nat.le_refl _
              · exact h1
            simp only [List.length_cons, List.length_nil, Nat.zero_add, Nat.mul_one]
            omega
    · rw [top_rw hm] at hrw; cases hrw
    · have : 1025 ≤ m := hm
      show (if m < 1024 then some (m, 0) else if m = 1024 then some bo else none) = none
      rw [if_neg (by omega), if_neg (by omega)]
    · have : 2 ≤ i := hi
      show (if i = 0 then some r else if i = 1 then some l.length else none) = none
      rw [if_neg (by omega), if_neg (by omega)]
    · have : g < 1024 := hg
      show (if g < 1024 then some (g, 0) else if g = 1024 then some bo else none) = some (g, 0)
      rw [if_pos this]
  refine law_runs d htree ρ rfl (by rw [r1, r0]; rfl) hrng (by rw [r2]; exact hn'.1) (by rw [r2]; exact hn'.2) δ w _ hH ?_ hb
  -- the arguments
  simp only [topArgs, VRels]
  refine ⟨_, _, rfl, ?_, _, _, rfl, ?_, rfl⟩
  · simp only [VRel, den_lit, den_at]
    have e1 : (ρ.sv 1).i = (l.length : Int) := rfl
    rw [e1]
    refine ⟨Int.le_refl _, by omega, Int.le_refl _, bo.1, bo.2, r, l.length, cap, d1, c0, c1, by omega, ?_, fun e => (by cases e), ?_⟩
    · rw [hlen]
      rcases hrow with ⟨_, rfl, rfl, _⟩ | ⟨x, _, h1, _⟩
      · exact Int.le_refl _
      · omega
    · rcases hplace with ⟨hc, hbo, hr⟩ | ⟨hne, hr, hcp, ha, _⟩
      · refine .inl ⟨hc, a, ?_⟩
        have : len = 0 := by
          rcases hrow with ⟨_, rfl, rfl, _⟩ | ⟨x, _, h1, _⟩
          · rfl
          · omega
        rw [hc, this]
      · refine .inr ⟨hne, by simp; omega, ?_⟩
        rw [ha, hlen]
        simp
  · simp only [VRel, den_at]
    rw [show (ρ.sv 2).i = n from rfl]
end Go.Sx.L
