/- An executor for the model's Go code over an abstract state: append, copy, calls. -/
import Derived.Test.YtkgmobbbcigcjaaGreatDoorSx8
namespace Go.Sx
set_option linter.unusedVariables false
section
variable {ρ : Rho} {δ : Dl} {P : Program} {w : World} {hs : HS}

/-- What is appended or copied, as the model reads it. -/
theorem src_sound {v : AV} {u : Value} {n size m : Nat} {cs : List AV} (hb : ∀ n b, hs.heap.get n = some b → BRep ρ δ w n b) (hv : VRel ρ δ v u)
    (hl : lenOf v = some m) (h : srcCells hs.heap v n size = some cs) :
    ∃ us : Array Value, us.size = n * size ∧ VRels ρ δ cs us.toList ∧ ∀ w' : World, w'.heap = w.heap → (Builtin.lenOf u).run P w' = .ok m w' ∧ (Builtin.firstCells size n u).run P w' = .ok us w' := by
  unfold srcCells at h
  split at h
  · rename_i nm off len cap
    simp only [VRel] at hv
    obtain ⟨b, o, c, hn, hc, rfl⟩ := hv
    have hm : len.den ρ = m := by
      simp only [lenOf] at hl
      split at hl
      · rename_i ha; simp only [Option.some.injEq] at hl; subst hl; simp [NE.den, ha]
      · cases hl
    split at h
    · rename_i kcs km elem tl rw hg
      obtain ⟨b', o', cur, fr, h1, ⟨_, h2, _⟩, h3, _⟩ := hb _ _ hg
      rw [hn] at h1
      simp only [Option.some.injEq, Prod.mk.injEq] at h1
      obtain ⟨rfl, rfl⟩ := h1
      obtain ⟨us, hul, hur, hcell⟩ := cells_range (ρ := ρ) (δ := δ) h2 h3 h
      refine ⟨us.toArray, by simpa using hul, by simpa using hur, fun w' hw' => ⟨by simp [Builtin.lenOf, hm], ?_⟩⟩
      refine run_firstCells_some w' size n ⟨b, o + off, none⟩ _ c us hul fun j x hx => ?_
      rw [addr_add]
      have := hcell j x hx
      simp only [World.cell?, hw'] at this ⊢
      exact this
    · cases h
  · simp only [VRel] at hv
    subst hv
    simp only [lenOf, Option.some.injEq] at hl
    subst hl
    split at h
    · rename_i hz
      simp only [Option.some.injEq] at h; subst h
      refine ⟨#[], by simp, by simp [VRels], fun w' _ => ⟨by simp [Builtin.lenOf], by simp [Builtin.firstCells]⟩⟩
    · cases h
  · rename_i s
    simp only [VRel] at hv
    subst hv
    simp only [lenOf, Option.some.injEq] at hl
    subst hl
    split at h
    · split at h
      · rename_i hle
        simp only [Option.some.injEq] at h; subst h
        have hle := ble_le hle
        have hd : (s.extract 0 n).data.toList = s.data.toList.take n := by
          rw [ByteArray.data_extract, Array.toList_extract, List.extract_eq_take_drop]
          simp
        refine ⟨(s.extract 0 n).data.map fun b => .int .u8 b.toNat, ?_, ?_, fun w' _ => ⟨by simp [Builtin.lenOf], by simp [Builtin.firstCells]⟩⟩
        · rw [← Array.length_toList, Array.toList_map, hd]
          have : s.data.size = s.size := rfl
          simp; omega
        · rw [Array.toList_map, hd]
          have : ∀ l : List UInt8, VRels ρ δ (l.map fun b => AV.int .u8 (.lit (b.toNat : Int))) (l.map fun b => Value.int .u8 (b.toNat : Int)) := by
            intro l
            induction l with
            | nil => simp [VRels]
            | cons x l ih => simp only [List.map_cons, VRels]; exact ⟨_, _, rfl, by simp [VRel, IE.den, IE.sv, SV.ofI, SV.i], ih⟩
          exact this _
      · cases h
    · cases h
  · cases h

/-- Append where there is no room. -/
theorem run_append_new (st xt ty e : TypeId) (i : TypeInfo) (z : Value) (xd : TypeDesc) (ht : P.underlying st = some (.slice e)) (hi : P.info? e = some i) (hz : i.zero = some z)
    (hx : P.underlying xt = some xd) (hni : isIntD xd = false) (base : Option Addr) (sLen sCap : Nat) (x : Value) (m : Nat) (olds news : Array Value)
    (hlen : ∀ w' : World, w'.heap = w.heap → (Builtin.lenOf x).run P w' = .ok m w') (hnews : ∀ w' : World, w'.heap = w.heap → (Builtin.firstCells i.size m x).run P w' = .ok news w')
    (holds : ∀ w' : World, w'.heap = w.heap → (Builtin.firstCells i.size sLen (.slice base sLen sCap)).run P w' = .ok olds w')
    (hg : sCap < sLen + m) (h63 : ((sLen + m : Nat) : Int) ≤ 9223372036854775807) (hfit : Builtin.nextslicecap (sLen + m) sCap * i.bytes ≤ 281474976710656) :
    (Builtin.append_ #[st, xt] ty #[.slice base sLen sCap, x]).run P w =
      .ok (.slice (some ⟨w.heap.size, 0, none⟩) (sLen + m) (grownCap w (sLen + m) sCap e))
        (w.drew.alloc (.cells (olds ++ news ++ Builtin.zeroCells z.cells (grownCap w (sLen + m) sCap e - (sLen + m))) e)) := by
  have hn : ¬ (sLen + m ≤ sCap) := by omega
  have h63' : ¬ (9223372036854775807 < ((sLen : Int) + (m : Int))) := by omega
  have h48' : ¬ (281474976710656 < Builtin.nextslicecap (sLen + m) sCap * i.bytes) := by omega
  have h1 := hlen w rfl
  have h2 := hnews w.drew rfl
  have h3 := holds w.drew rfl
  simp [Builtin.append_, run_underlying ht, run_underlying hx, sizeOf, typeInfo, zeroValue, hi, hz, h1, hn, h48', Question.forced, newRow, grownCap]
  cases xd <;> first | (simp [isIntD] at hni; done) | simp [h63', h2, h3]

/-- Append where there is room. -/
theorem run_append_in (st xt ty e : TypeId) (i : TypeInfo) (xd : TypeDesc) (ht : P.underlying st = some (.slice e)) (hi : P.info? e = some i)
    (hx : P.underlying xt = some xd) (hni : isIntD xd = false) (ad : Addr) (sLen sCap : Nat) (x : Value) (m : Nat) (news : Array Value) (w' : World)
    (hlen : (Builtin.lenOf x).run P w = .ok m w) (hnews : (Builtin.firstCells i.size m x).run P w = .ok news w)
    (hst : (Go.storeCells (ad.add (sLen * i.size)) news.toList 0).run P w = .ok () w') (hg : sLen + m ≤ sCap) :
    (Builtin.append_ #[st, xt] ty #[.slice (some ad) sLen sCap, x]).run P w = .ok (.slice (some ad) (sLen + m) sCap) w' := by
  simp [Builtin.append_, run_underlying ht, run_underlying hx, sizeOf, typeInfo, hi, hlen, hg]
  cases xd <;> first | (simp [isIntD] at hni; done) | simp [hnews, hst]

/-- A block that append made: the known cells, and what the tape gave behind them. -/
theorem HRep.appendNew (hr : HRep ρ δ hs w) {news : List AV} {olds us : Array Value} {z : Array Value} {elem : TypeId} {size need c : Nat} {H : T ABlk} {w' : World}
    (hw : w'.heap = w.heap.push (.cells (olds ++ us ++ Builtin.zeroCells z (c - need)) elem)) (ho : w'.os = w.os) (ht : w'.tape = w.tape) (hout : w'.output = w.output)
    (hnews : VRels ρ δ news (olds ++ us).toList) (hlen : news.length = need * size) (hz : z.size = size) (hc : need ≤ c)
    (hH : H = hs.heap.set hs.nx (.cells (T.ofList news) (need * size) elem (.more hs.nc size) true)) :
    ∃ δ', HRep ρ δ' { heap := H, nx := hs.nx + 1, nc := hs.nc + 1 } w' ∧ Evo δ hs w δ' { heap := H, nx := hs.nx + 1, nc := hs.nc + 1 } w' ∧
      VRel ρ δ' (.slice hs.nx 0 ⟨need, none⟩ ⟨need, some hs.nc⟩) (.slice (some ⟨w.heap.size, 0, none⟩) need c) := by
  subst hH
  have hfn := hr.freshN hs.nx (Nat.le_refl _)
  have hfc := hr.freshC hs.nc (Nat.le_refl _)
  -- first the capacity's name
  let δ1 := δ.bindC hs.nc (c - need)
  have hle1 : δ.le δ1 := Dl.le_bindC hfc
  have hr1 : HRep ρ δ1 { hs with nc := hs.nc + 1 } w :=
    { blk := fun n b hn => (hr.blk n b hn).mono_le hle1
      sep := hr.sep
      freshN := hr.freshN
      freshC := fun i hi => by
        have : i ≠ hs.nc := by simp only at hi; omega
        simp only [δ1, Dl.bindC, this, if_false]
        exact hr.freshC i (by simp only at hi; omega)
      glob := hr.glob
      nx := hr.nx
      pos := hr.pos }
  have he1 : Evo δ hs w δ1 { hs with nc := hs.nc + 1 } w :=
    { le := hle1, size := Nat.le_refl _, unch := fun _ _ _ => rfl, live := fun n blk _ o h1 h2 h3 _ => .inr ⟨n, blk, o, h1, h2, id, h3⟩
      nx := Nat.le_refl _, nc := Nat.le_succ _, new := fun _ _ h => .inl h, os := rfl, tape := rfl, output := rfl }
  have hle2 : δ1.le (δ1.bind hs.nx (w.heap.size, 0)) := Dl.le_bind hfn
  have hcap : (δ1.bind hs.nx (w.heap.size, 0)).cap hs.nc = some (c - need) := by simp [Dl.bind, δ1, Dl.bindC]
  have hl2 := hnews.length
  have hb : BRep ρ (δ1.bind hs.nx (w.heap.size, 0)) (w.alloc (.cells (olds ++ us ++ Builtin.zeroCells z (c - need)) elem)) hs.nx (.cells (T.ofList news) (need * size) elem (.more hs.nc size) true) := by
    refine ⟨w.heap.size, 0, _, (0, 0), Dl.bind_same, .mk (heap_alloc_new w _), fun i a hi => ?_, fun _ => ⟨rfl, Nat.ne_of_gt hr.pos⟩, ?_, c - need, hcap, ?_⟩
    · rw [T.get_ofList] at hi
      obtain ⟨u, hu1, hu2⟩ := hnews.get hi
      have hi' : i < (olds ++ us).size := by
        have := (List.getElem?_eq_some_iff.1 hu1).1
        simpa using this
      refine ⟨u, ?_, VRel.mono (Dl.le_trans hle1 hle2) _ _ hu2⟩
      rw [Nat.zero_add, Array.getElem?_append_left hi', ← Array.getElem?_toList]
      exact hu1
    · rw [Array.size_append, size_zeroCells, hz]
      have : (olds ++ us).size = need * size := by rw [← hlen, hl2]; simp
      omega
    · rw [Array.size_append, size_zeroCells, hz]
      have : (olds ++ us).size = need * size := by rw [← hlen, hl2]; simp
      rw [this, Nat.mul_comm size]; omega
  have ha := hr1.alloc (nm := hs.nx) (nx' := hs.nx + 1) (obj := .cells (olds ++ us ++ Builtin.zeroCells z (c - need)) elem) hfn (Nat.le_succ _) (Nat.lt_succ_self _) hb
  have hea := he1.alloc (nm := hs.nx) (nx' := hs.nx + 1) (obj := .cells (olds ++ us ++ Builtin.zeroCells z (c - need)) elem) (blk := .cells (T.ofList news) (need * size) elem (.more hs.nc size) true) hfn (Nat.le_refl _) (Nat.le_succ _) (Nat.lt_succ_self _)
  refine ⟨δ1.bind hs.nx (w.heap.size, 0), ha.congr hw, hea.congrW hw ho ht hout, ?_⟩
  simp only [VRel, NE.den]
  exact ⟨w.heap.size, 0, c, Dl.bind_same, ⟨c - need, hcap, by simp only; omega⟩, rfl⟩
end
end Go.Sx
