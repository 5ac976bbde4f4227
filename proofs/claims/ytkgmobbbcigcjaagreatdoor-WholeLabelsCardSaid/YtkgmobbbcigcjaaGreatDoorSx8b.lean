/- An executor for the model's Go code over an abstract state: rows of unknown length. -/
import Derived.Test.YtkgmobbbcigcjaaGreatDoorSx8
namespace Go.Sx
set_option linter.unusedVariables false
section
variable {ρ : Rho} {δ : Dl} {P : Program} {w w' : World} {hs : HS}

/-- An element's cells. -/
def rowC (row : List CK) (e : SV) : List Value := row.mapIdx fun f ck => ck.val (e.part row.length f)
def rowCs (row : List CK) : List SV → List Value
  | [] => []
  | e :: l => rowC row e ++ rowCs row l

theorem rowC_length (row : List CK) (e : SV) : (rowC row e).length = row.length := by simp [rowC]
theorem rowC_get (row : List CK) (e : SV) (f : Nat) : (rowC row e)[f]? = (row[f]?).map fun ck => ck.val (e.part row.length f) := by simp [rowC]
theorem rowCs_length (row : List CK) : ∀ l : List SV, (rowCs row l).length = l.length * row.length
  | [] => by simp [rowCs]
  | e :: l => by simp [rowCs, rowCs_length row l, rowC_length, Nat.add_mul, Nat.add_comm]
theorem rowCs_append (row : List CK) : ∀ l m : List SV, rowCs row (l ++ m) = rowCs row l ++ rowCs row m
  | [], m => rfl
  | e :: l, m => by simp [rowCs, rowCs_append row l m]
theorem rowCs_get (row : List CK) : ∀ (l : List SV) (i f : Nat) (e : SV), l[i]? = some e → f < row.length → (rowCs row l)[i * row.length + f]? = (rowC row e)[f]?
  | [], i, f, e, h, _ => by simp at h
  | x :: l, 0, f, e, h, hf => by
    simp at h; subst h
    simp only [rowCs, Nat.zero_mul, Nat.zero_add]
    rw [List.getElem?_append_left (by rw [rowC_length]; exact hf)]
  | x :: l, i + 1, f, e, h, hf => by
    simp only [rowCs]
    rw [List.getElem?_append_right (by rw [rowC_length, Nat.add_mul]; omega), rowC_length]
    have : (i + 1) * row.length + f - row.length = i * row.length + f := by rw [Nat.add_mul]; omega
    rw [this]
    exact rowCs_get row l i f e (by simpa using h) hf
theorem rowCs_oneCell (row : List CK) : ∀ (l : List SV) (u : Value), u ∈ rowCs row l → u.oneCell' = true
  | [], u, h => by cases h
  | e :: l, u, h => by
    simp only [rowCs, List.mem_append] at h
    rcases h with h | h
    · obtain ⟨j, hj⟩ := List.mem_iff_getElem?.1 h
      rw [rowC_get] at hj
      cases hck : row[j]? with
      | none => rw [hck] at hj; cases hj
      | some ck => rw [hck] at hj; simp at hj; subst hj; cases ck <;> rfl
    · exact rowCs_oneCell row l u h

/-- The cells of a row stand in a block from o on. -/
def RowAt (row : List CK) (l : List SV) (cur : Array Value) (o : Nat) : Prop :=
  ∀ i e, l[i]? = some e → ∀ f ck, row[f]? = some ck → cur[o + (i * row.length + f)]? = some (ck.val (e.part row.length f))

theorem rowAt_iff {row : List CK} {l : List SV} {cur : Array Value} {o : Nat} : RowAt row l cur o ↔ ∀ k u, (rowCs row l)[k]? = some u → cur[o + k]? = some u := by
  constructor
  · intro h k u hk
    have hlt := (List.getElem?_eq_some_iff.1 hk).1
    rw [rowCs_length] at hlt
    have hw : 0 < row.length := by
      rcases Nat.eq_zero_or_pos row.length with h0 | h0
      · rw [h0] at hlt; simp at hlt
      · exact h0
    have hd : k = k / row.length * row.length + k % row.length := by
      have := Nat.div_add_mod k row.length
      rw [Nat.mul_comm] at this; exact this.symm
    have hi : k / row.length < l.length := (Nat.div_lt_iff_lt_mul hw).2 hlt
    have hf : k % row.length < row.length := Nat.mod_lt _ hw
    have he : l[k / row.length]? = some l[k / row.length] := List.getElem?_eq_getElem hi
    have hck : row[k % row.length]? = some row[k % row.length] := List.getElem?_eq_getElem hf
    have h1 := h _ _ he _ _ hck
    have h2 := rowCs_get row l _ _ _ he hf
    rw [← hd] at h1 h2
    rw [h2, rowC_get, hck] at hk
    simp only [Option.map_some, Option.some.injEq] at hk
    rw [h1, hk]
  · intro h i e he f ck hck
    have hf := (List.getElem?_eq_some_iff.1 hck).1
    have h2 := rowCs_get row l i f e he hf
    rw [rowC_get, hck] at h2
    exact h _ _ h2

/-- A name for a row, where it is. -/
theorem HRep.rowBind (hr : HRep ρ δ hs w) {q : IE} {row : List CK} {elem : TypeId} {b o r : Nat} {H : T ABlk}
    (hH : ∀ k blk, H.get k = some blk → (k = hs.nx ∧ blk = .seq q row elem hs.nc true) ∨ (k ≠ hs.nx ∧ blk.live = false) ∨
      (k ≠ hs.nx ∧ hs.heap.get k = some blk ∧ (∀ y o', δ.at_ k = some (y, o') → blk.live = true → b ≠ gy → y ≠ b)))
    (hsz : w.heap.size ≤ w'.heap.size) (hold : ∀ y, y < w.heap.size → (b ≠ gy → y ≠ b) → w'.heap[y]? = w.heap[y]?)
    (hb : b = gy ∨ w.heap.size ≤ b ∨ ∃ n0 blk0 o0, hs.heap.get n0 = some blk0 ∧ blk0.rw = true ∧ δ.at_ n0 = some (b, o0))
    (hbl : b < w'.heap.size)
    (hB : (b = gy ∧ (q.sv ρ).l = []) ∨ (b ≠ gy ∧ ∃ cur, w'.heap[b]? = some (.cells cur elem (0, 0)) ∧ RowAt row (q.sv ρ).l cur o ∧ o + r ≤ cur.size ∧ (q.sv ρ).l.length * row.length ≤ r))
    (h1 : w'.os = w.os) (h2 : w'.tape = w.tape) (h3 : w'.output = w.output) :
    ∃ δ', HRep ρ δ' { heap := H, nx := hs.nx + 1, nc := hs.nc + 2 } w' ∧ Evo δ hs w δ' { heap := H, nx := hs.nx + 1, nc := hs.nc + 2 } w' ∧
      δ'.at_ hs.nx = some (b, o) ∧ δ'.cap hs.nc = some r ∧ δ'.cap (hs.nc + 1) = some (q.sv ρ).l.length := by
  have hfn := hr.freshN hs.nx (Nat.le_refl _)
  have hfc := hr.freshC hs.nc (Nat.le_refl _)
  have hfc1 := hr.freshC (hs.nc + 1) (Nat.le_succ _)
  let δ' : Dl := ((δ.bindC hs.nc r).bindC (hs.nc + 1) (q.sv ρ).l.length).bind hs.nx (b, o)
  have hat : ∀ k, k ≠ hs.nx → δ'.at_ k = δ.at_ k := fun k hk => by simp [δ', Dl.bind, Dl.bindC, hk]
  have hatn : δ'.at_ hs.nx = some (b, o) := by simp [δ', Dl.bind]
  have hc0 : δ'.cap hs.nc = some r := by simp [δ', Dl.bind, Dl.bindC]
  have hc1 : δ'.cap (hs.nc + 1) = some (q.sv ρ).l.length := by simp [δ', Dl.bind, Dl.bindC]
  have hcap : ∀ i, i ≠ hs.nc → i ≠ hs.nc + 1 → δ'.cap i = δ.cap i := fun i hi hi' => by simp [δ', Dl.bind, Dl.bindC, hi, hi']
  have hle : δ.le δ' := by
    refine ⟨fun n x hn => ?_, fun i x hi => ?_⟩
    · have : n ≠ hs.nx := fun e => by rw [e, hfn] at hn; cases hn
      rw [hat n this]; exact hn
    · have e1 : i ≠ hs.nc := fun e => by rw [e, hfc] at hi; cases hi
      have e2 : i ≠ hs.nc + 1 := fun e => by rw [e, hfc1] at hi; cases hi
      rw [hcap i e1 e2]; exact hi
  refine ⟨δ', ⟨?_, ?_, ?_, ?_, ?_, ?_, ?_⟩, ⟨hle, hsz, ?_, ?_, Nat.le_succ _, by simp, ?_, h1, h2, h3⟩, hatn, hc0, hc1⟩
  · intro k blk hk
    rcases hH k blk hk with ⟨rfl, rfl⟩ | ⟨_, hd⟩ | ⟨hne, hg, hap⟩
    · refine ⟨b, o, r, hatn, hc0, hc1, ?_⟩
      rcases hB with hB | ⟨g1, cur, g2, g3, g4, g5⟩
      · exact .inl hB
      · exact .inr ⟨g1, cur, (0, 0), .mk g2, g3, fun _ => rfl, g4, g5⟩
    · cases blk with
      | dead => trivial
      | _ => cases hd
    · have hb0 := hr.blk k blk hg
      refine (hb0.keep fun y o' ha hl => ?_).mono_le hle
      exact hold y (hb0.lt hr.pos hl ha) (hap y o' ha hl)
  · intro n m bn bm x y o1 o2 hn hm hne hrw hlv hx hy hxg
    rcases hH n bn hn with ⟨rfl, rfl⟩ | ⟨_, hd⟩ | ⟨hnn, hgn, hapn⟩
    · rw [hatn] at hx
      injection hx with hx
      have hxb : b = x := congrArg Prod.fst hx
      subst hxb
      rcases hH m bm hm with ⟨rfl, rfl⟩ | ⟨_, hd⟩ | ⟨hmn, hgm, hapm⟩
      · exact absurd rfl hne
      · rw [hd] at hlv; cases hlv
      · rw [hat m hmn] at hy
        exact Ne.symm (hapm y o2 hy hlv hxg)
    · rw [ABlk.live_of_rw hrw] at hd; cases hd
    · rw [hat n hnn] at hx
      rcases hH m bm hm with ⟨rfl, rfl⟩ | ⟨_, hd⟩ | ⟨hmn, hgm, hapm⟩
      · rw [hatn] at hy
        injection hy with hy
        have hyb : b = y := congrArg Prod.fst hy
        subst hyb
        by_cases hbg : b = gy
        · rw [hbg]; exact hxg
        · exact hapn x o1 hx (ABlk.live_of_rw hrw) hbg
      · rw [hd] at hlv; cases hlv
      · rw [hat m hmn] at hy
        exact hr.sep n m bn bm x y o1 o2 hgn hgm hne hrw hlv hx hy hxg
  · intro n hn
    have : n ≠ hs.nx := by simp only at hn; omega
    rw [hat n this]; exact hr.freshN n (by simp only at hn; omega)
  · intro i hi
    simp only at hi
    rw [hcap i (by omega) (by omega)]; exact hr.freshC i (by omega)
  · intro g hg
    have : g ≠ hs.nx := by have := hr.nx; omega
    rw [hat g this]; exact hr.glob g hg
  · exact Nat.le_trans hr.nx (Nat.le_succ _)
  · exact Nat.lt_of_lt_of_le hr.pos hsz
  · intro y hy hn
    refine hold y hy fun hbg e => ?_
    subst e
    rcases hb with hb | hb | ⟨n0, blk0, o0, g1, g2, g3⟩
    · exact hbg hb
    · omega
    · exact hn hbg n0 o0 blk0 g1 g2 g3
  · intro n blk y o' hn hl hy hyg
    rcases hH n blk hn with ⟨rfl, rfl⟩ | ⟨_, hd⟩ | ⟨hnn, hgn, _⟩
    · rw [hatn] at hy
      injection hy with hy
      have hyb : b = y := congrArg Prod.fst hy
      subst hyb
      rcases hb with hb | hb | ⟨n0, blk0, o0, g1, g2, g3⟩
      · exact absurd hb hyg
      · exact .inl hb
      · exact .inr ⟨n0, blk0, o0, g1, ABlk.live_of_rw g2, fun _ => g2, g3⟩
    · rw [hl] at hd; cases hd
    · rw [hat n hnn] at hy
      exact .inr ⟨n, blk, o', hgn, hl, id, hy⟩
  · intro n x hx
    by_cases e : n = hs.nx
    · subst e; exact .inr ⟨Nat.le_refl _, Nat.lt_succ_self _⟩
    · rw [hat n e] at hx; exact .inl hx
end
end Go.Sx
