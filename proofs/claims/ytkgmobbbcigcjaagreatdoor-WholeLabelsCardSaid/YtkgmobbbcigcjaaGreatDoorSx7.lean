/- An executor for the model's Go code over an abstract state: loads, allocations, stores. -/
import Derived.Test.YtkgmobbbcigcjaaGreatDoorSx6b
namespace Go.Sx
set_option linter.unusedVariables false
section
variable {ρ : Rho} {δ : Dl} {P : Program} {w : World}

/-- Known cells as values. -/
theorem cells_range {cs : T AV} {b o off size : Nat} {cur : Array Value} {elem : TypeId} {fr : Nat × Nat} {vs : List AV} (hb : w.heap[b]? = some (.cells cur elem fr))
    (hc : ∀ i a, cs.get i = some a → ∃ u, cur[o + i]? = some u ∧ VRel ρ δ a u) (h : cs.getL off size = some vs) :
    ∃ us : List Value, us.length = size ∧ VRels ρ δ vs us ∧ ∀ (j : Nat) (u : Value), us[j]? = some u → w.cell? ⟨b, o + off + j, none⟩ = some u := by
  obtain ⟨hl, hg⟩ := T.getL_some cs size off vs h
  refine ⟨(cur.toList.drop (o + off)).take size, ?_, ?_, ?_⟩
  · rw [List.length_take, List.length_drop]
    have : size = 0 ∨ o + off + size ≤ cur.size := by
      rcases Nat.eq_zero_or_pos size with h0 | h0
      · exact .inl h0
      · right
        have hlt : size - 1 < vs.length := by omega
        obtain ⟨u, h1, _⟩ := hc _ _ (hg (size - 1) vs[size - 1] (by simp [hlt]))
        have := (Array.getElem?_eq_some_iff.1 h1).1
        omega
    rcases this with h0 | h0
    · simp [h0]
    · simp; omega
  · apply VRels.of_get
    · rw [hl, List.length_take, List.length_drop]
      rcases Nat.eq_zero_or_pos size with h0 | h0
      · simp [h0]
      · have hlt : size - 1 < vs.length := by omega
        obtain ⟨u, h1, _⟩ := hc _ _ (hg (size - 1) vs[size - 1] (by simp [hlt]))
        have := (Array.getElem?_eq_some_iff.1 h1).1
        simp; omega
    · intro j a u ha hu
      obtain ⟨x, h1, h2⟩ := hc _ _ (hg j a ha)
      have hj : j < size := by rw [← hl]; exact (List.getElem?_eq_some_iff.1 ha).1
      rw [List.getElem?_take_of_lt hj, List.getElem?_drop, Array.getElem?_toList] at hu
      rw [← Nat.add_assoc, hu] at h1
      injection h1 with h1
      rw [h1]; exact h2
  · intro j u hu
    have hj : j < size := by
      have := (List.getElem?_eq_some_iff.1 hu).1
      rw [List.length_take] at this; omega
    rw [List.getElem?_take_of_lt hj, List.getElem?_drop, Array.getElem?_toList] at hu
    simp only [World.cell?, hb]
    simpa using hu

theorem svs_map (as : List IE) : IE.svs ρ as = as.map (IE.sv ρ) := by
  induction as with
  | nil => simp [IE.svs]
  | cons a as ih => simp [IE.svs, ih]

theorem fldE_sv (wd f : Nat) (e : IE) : (fldE wd f e).sv ρ = (e.sv ρ).part wd f := by
  unfold fldE SV.part
  cases hw : Nat.beq wd 1 with
  | true => rfl
  | false =>
    simp only
    split
    · rename_i es
      split
      · rename_i x hx
        simp [IE.sv, Prim.den, svs_map, SV.ofL, SV.l, List.getD_eq_getElem?_getD, hx]
      · simp [IE.sv, Prim.den, IE.svs]
    · simp [IE.sv, Prim.den, IE.svs]

theorem selE_sv (q ix : IE) : (selE q ix).sv ρ = (q.sv ρ).l.getD (ix.den ρ).toNat .nul := by
  simp [selE, IE.sv, IE.svs, Prim.den, IE.den]

theorem CK.av_rel (ck : CK) (e : IE) : VRel ρ δ (ck.av e) (ck.val (e.sv ρ)) := by
  cases ck <;> simp only [CK.av, CK.val, VRel] <;> rfl

theorem rowAVs_get (wd : Nat) (e : IE) : ∀ (row : List CK) (k j : Nat), (rowAVs wd e k row)[j]? = (row[j]?).map fun ck => ck.av (fldE wd (k + j) e)
  | [], _, _ => by simp [rowAVs]
  | ck :: cks, k, j => by
    cases j with
    | zero => simp [rowAVs]
    | succ j => simp only [rowAVs, List.getElem?_cons_succ, rowAVs_get wd e cks (k + 1) j]; congr 2; funext ck; congr 2; omega

theorem rowAVs_length (wd : Nat) (e : IE) : ∀ (row : List CK) (k : Nat), (rowAVs wd e k row).length = row.length
  | [], _ => rfl
  | _ :: cks, k => by simp [rowAVs, rowAVs_length wd e cks]

theorem load_sound {H : T ABlk} {t : TypeId} {a v : AV} {u : Value} (hb : ∀ n b, H.get n = some b → BRep ρ δ w n b) (hu : VRel ρ δ a u) (h : loadAt P H t a = some v) :
    ∃ y, VRel ρ δ v y ∧ (Instr.loadAt t u).run P w = .ok y w := by
  unfold loadAt at h
  split at h
  · rename_i n off
    simp only [VRel] at hu
    obtain ⟨b, o, hn, rfl⟩ := hu
    split at h
    · rename_i cs m elem tl rw d hg hd
      obtain ⟨b', o', cur, fr, h1, ⟨_, h2, _⟩, h3, _, _, _⟩ := hb _ _ hg
      rw [hn] at h1
      simp only [Option.some.injEq, Prod.mk.injEq] at h1
      obtain ⟨rfl, rfl⟩ := h1
      split at h
      · rename_i ha
        split at h
        · rename_i size hs
          split at h
          · rename_i vs hvs
            simp only [Option.some.injEq] at h; subst h
            obtain ⟨us, hl, hr, hcell⟩ := cells_range (ρ := ρ) (δ := δ) h2 h3 hvs
            refine ⟨.agg us.toArray, by simp only [VRel]; exact ⟨_, rfl, by simpa using hr⟩, ?_⟩
            have hld := run_loadCells_list (P := P) w ⟨b, o + off, none⟩ us (fun j x hx => by rw [addr_add]; exact hcell j x hx)
            rw [hl] at hld
            simp [Instr.loadAt, Instr.sureAddr, loadVar, run_isAgg hd, ha, run_sizeOfT hs, hld]
          · cases h
        · cases h
      · rename_i ha
        obtain ⟨x, hx1, hx2⟩ := h3 _ _ h
        refine ⟨x, hx2, ?_⟩
        have hcell : w.cell? ⟨b, o + off, none⟩ = some x := by simp [World.cell?, h2, hx1]
        simp [Instr.loadAt, Instr.sureAddr, loadVar, run_isAgg hd, ha, hcell]
    · cases h
  · rename_i n rm wd ix f
    simp only [VRel] at hu
    obtain ⟨b, o, cnt, hn, hcnt, hix, rfl⟩ := hu
    split at h
    · rename_i q row elem rm' rw d hg hd
      split at h
      · rename_i hrm hwd
        have hrm := beq_eq hrm
        have hwd := beq_eq hwd
        subst hrm
        obtain ⟨b', o', r, h1, h2, h3, h4⟩ := hb _ _ hg
        rw [hn] at h1
        simp only [Option.some.injEq, Prod.mk.injEq] at h1
        obtain ⟨rfl, rfl⟩ := h1
        rw [hcnt] at h3
        injection h3 with h3
        rcases h4 with ⟨_, h4⟩ | ⟨_, cur, fr, ⟨_, h5, _⟩, h6, _, h7, h8⟩
        · rw [h4] at h3; simp at h3; omega
        obtain ⟨e, he⟩ : ∃ e, (q.sv ρ).l[(ix.den ρ).toNat]? = some e := ⟨_, List.getElem?_eq_getElem (by omega)⟩
        have hsel : (selE q ix).sv ρ = e := by rw [selE_sv, List.getD_eq_getElem?_getD, he]; rfl
        have hcell : ∀ (j : Nat) (x : AV), (rowAVs wd (selE q ix) 0 row)[j]? = some x → ∃ u, cur[o + ((ix.den ρ).toNat * wd + j)]? = some u ∧ VRel ρ δ x u := by
          intro j x hx
          rw [rowAVs_get] at hx
          cases hck : row[j]? with
          | none => rw [hck] at hx; simp at hx
          | some ck =>
            rw [hck] at hx
            simp only [Option.map_some, Option.some.injEq, Nat.zero_add] at hx
            subst hx
            refine ⟨_, ?_, CK.av_rel ck _⟩
            rw [fldE_sv, hsel, hwd]
            exact h6 _ _ he _ _ hck
        split at h
        · rename_i ha
          split at h
          case h_2 => cases h
          rename_i size hs
          split at h
          case h_2 => cases h
          rename_i hle
          have hle := ble_le hle
          simp only [Option.some.injEq] at h; subst h
          have hlen : (((rowAVs wd (selE q ix) 0 row).drop f).take size).length = size := by
            rw [List.length_take, List.length_drop, rowAVs_length]; omega
          have hget : ∀ (j : Nat) (x : AV), (((rowAVs wd (selE q ix) 0 row).drop f).take size)[j]? = some x → ∃ u, cur[o + ((ix.den ρ).toNat * wd + (f + j))]? = some u ∧ VRel ρ δ x u := by
            intro j x hx
            have hj : j < size := by rw [← hlen]; exact (List.getElem?_eq_some_iff.1 hx).1
            rw [List.getElem?_take_of_lt hj, List.getElem?_drop] at hx
            exact hcell _ _ hx
          have hfit : size = 0 ∨ o + ((ix.den ρ).toNat * wd + f) + size ≤ cur.size := by
            rcases Nat.eq_zero_or_pos size with h0 | h0
            · exact .inl h0
            · right
              obtain ⟨u, h9, _⟩ := hget (size - 1) _ (List.getElem?_eq_getElem (by omega))
              have := (Array.getElem?_eq_some_iff.1 h9).1
              omega
          obtain ⟨us, hus⟩ : ∃ us, us = (cur.toList.drop (o + ((ix.den ρ).toNat * wd + f))).take size := ⟨_, rfl⟩
          have husl : us.length = size := by
            rw [hus, List.length_take, List.length_drop, Array.length_toList]; omega
          have husg : ∀ j, j < size → us[j]? = cur[o + ((ix.den ρ).toNat * wd + f) + j]? := by
            intro j hj
            rw [hus, List.getElem?_take_of_lt hj, List.getElem?_drop, Array.getElem?_toList]
          refine ⟨.agg us.toArray, ?_, ?_⟩
          · simp only [VRel]
            refine ⟨_, rfl, VRels.of_get (by simp [hlen, husl]) fun j x u hx hu => ?_⟩
            obtain ⟨u', h9, h10⟩ := hget j x hx
            have hj : j < size := by rw [← hlen]; exact (List.getElem?_eq_some_iff.1 hx).1
            have hu' : us[j]? = some u := by simpa using hu
            rw [husg j hj] at hu'
            have hidx : o + ((ix.den ρ).toNat * wd + f) + j = o + ((ix.den ρ).toNat * wd + (f + j)) := by omega
            rw [hidx, h9] at hu'
            injection hu' with hu'
            rw [← hu']; exact h10
          · have hld := run_loadCells_list (P := P) w ⟨b, o + ((ix.den ρ).toNat * wd + f), none⟩ us (fun j x hx => by
              have hj : j < size := by rw [← husl]; exact (List.getElem?_eq_some_iff.1 hx).1
              rw [husg j hj] at hx
              rw [addr_add]
              simp only [World.cell?, h5]
              simpa using hx)
            rw [husl] at hld
            simp [Instr.loadAt, Instr.sureAddr, loadVar, run_isAgg hd, ha, run_sizeOfT hs, hld]
        · rename_i ha
          obtain ⟨u, h9, h10⟩ := hcell f v h
          refine ⟨u, h10, ?_⟩
          have hc : w.cell? ⟨b, o + ((ix.den ρ).toNat * wd + f), none⟩ = some u := by simp [World.cell?, h5, h9]
          simp [Instr.loadAt, Instr.sureAddr, loadVar, run_isAgg hd, ha, hc]
      · cases h
    · cases h
  · cases h

/-! ### Allocations -/
theorem rep_get (cs : List AV) : ∀ (n j : Nat), j < n * cs.length → (rep cs n)[j]? = cs[j % cs.length]?
  | 0, j, h => by simp at h
  | n + 1, j, h => by
    simp only [rep]
    by_cases hj : j < cs.length
    · rw [List.getElem?_append_left hj, Nat.mod_eq_of_lt hj]
    · rw [List.getElem?_append_right (by omega), rep_get cs n (j - cs.length) (by rw [Nat.add_mul] at h; omega)]
      congr 1
      rw [← Nat.mod_eq_sub_mod (by omega)]

theorem rep_length (cs : List AV) : ∀ n, (rep cs n).length = n * cs.length
  | 0 => by simp [rep]
  | n + 1 => by simp [rep, rep_length cs n, Nat.add_mul, Nat.add_comm]

theorem rep_rel (z : Array Value) (n : Nat) : VRels ρ δ (rep (z.toList.map AV.of) n) ((Array.range (n * z.size)).map (z[· % z.size]!)).toList := by
  apply VRels.of_get
  · rw [rep_length]; simp
  · intro j a u ha hu
    have hj : j < n * z.size := by
      have := (List.getElem?_eq_some_iff.1 hu).1
      simpa using this
    rw [rep_get _ _ _ (by simpa using hj)] at ha
    have hm : j % z.size < z.size := Nat.mod_lt _ (by
      rcases Nat.eq_zero_or_pos z.size with h0 | h0
      · rw [h0] at hj; simp at hj
      · exact h0)
    simp at ha
    obtain ⟨x, hx, rfl⟩ := ha
    simp [hj] at hu
    subst hu
    rw [getElem!_pos z _ hm]
    rw [Array.getElem?_eq_getElem hm] at hx
    injection hx with hx
    subst hx
    exact VRel.of _

theorem BRep.made {nm b : Nat} {cs : List AV} {cur : Array Value} {elem : TypeId} (hbg : b ≠ gy) (hn : δ.at_ nm = some (b, 0)) (hb : w.heap[b]? = some (.cells cur elem (0, 0))) (hr : VRels ρ δ cs cur.toList) :
    BRep ρ δ w nm (.cells (T.ofList cs) cs.length elem .exact true) := by
  have hl := hr.length
  refine ⟨b, 0, cur, (0, 0), hn, .mk hb, fun i a hi => ?_, fun _ => ⟨rfl, hbg⟩, by simp [hl], rfl, by simp [hl]⟩
  rw [T.get_ofList] at hi
  obtain ⟨u, h1, h2⟩ := hr.get hi
  exact ⟨u, by simpa using h1, h2⟩

theorem heap_alloc_size (w : World) (o : Obj) : (w.alloc o).heap[w.heap.size]? = some o := heap_alloc_new w o

theorem alloc_sound {tm : TM} {a : Act} {o : Oper} {blk : ABlk} {mk : Nat → AV} (ho : EvOK ρ δ tm a o.op.operands.toList) (h : allocOf P tm o.op = some (blk, mk)) (w : World) (hpos : gy < w.heap.size) :
    blk.solid = true ∧ ∃ cur elem, ∀ (δ' : Dl) nm, δ.le δ' → δ'.at_ nm = some (w.heap.size, 0) →
      BRep ρ δ' (w.alloc (.cells cur elem)) nm blk ∧ ∃ u, VRel ρ δ' (mk nm) u ∧ (execOp a.eval o).run P w = .ok (.value u) (w.alloc (.cells cur elem)) := by
  obtain ⟨dst, op, type, pos, after, guard⟩ := o
  unfold allocOf at h
  split at h
  · -- alloc
    rename_i t hop
    simp only at hop; subst hop
    split at h
    · rename_i cs hz
      simp only [Option.some.injEq, Prod.mk.injEq] at h
      obtain ⟨rfl, rfl⟩ := h
      obtain ⟨i, v, hi, hv, rfl⟩ := zeroCells_some hz
      refine ⟨rfl, v.cells, t, fun δ' nm _ hn => ⟨BRep.made (Nat.ne_of_gt hpos) hn (heap_alloc_size w _) (VRels.of _), .pointer (some ⟨w.heap.size, 0, none⟩), ?_, ?_⟩⟩
      · simp only [VRel]; exact ⟨_, _, hn, by simp⟩
      · simp [execOp, Instr.alloc, run_zeroValue hi hv, newVar, newRow]
    · cases h
  · -- box
    rename_i t x hop
    simp only at hop; subst hop
    split at h
    · rename_i v hv
      simp only [Option.some.injEq, Prod.mk.injEq] at h
      obtain ⟨rfl, rfl⟩ := h
      have hx := ho x (by simp [Op.operands]) v hv
      refine ⟨rfl, (a.eval x).cells, t, fun δ' nm hle hn => ⟨BRep.made (Nat.ne_of_gt hpos) hn (heap_alloc_size w _) (VRels.mono hle _ _ hx.cells), .pointer (some ⟨w.heap.size, 0, none⟩), ?_, ?_⟩⟩
      · simp only [VRel]; exact ⟨_, _, hn, by simp⟩
      · simp [execOp, Instr.box, newVar, newRow]
    · cases h
  · -- buildSlice
    rename_i t len parts hop
    simp only at hop; subst hop
    split at h
    · rename_i elem hu
      split at h
      · rename_i size z vs hs hz hvs
        split at h
        · rename_i hb1 hb2
          split at h
          · rename_i cs hcs
            simp only [Option.some.injEq, Prod.mk.injEq] at h
            obtain ⟨rfl, rfl⟩ := h
            obtain ⟨i, v, hi, hv, rfl⟩ := zeroCells_some hz
            have hzs : v.cells.size = size := by simpa using beq_eq hb2
            have hop : EvOK ρ δ tm a (parts.toList.map (·.2)) := fun x hx => ho x (by simpa [Op.operands] using hx)
            obtain ⟨hl, hp⟩ := evParts_ok hop hvs
            have hpl : vs.length = ((parts.map fun (i, x) => (i, a.eval x)).toList).length := by simp [hl]
            have hpp : ∀ (j : Nat) (p : Nat × AV), vs[j]? = some p → ∃ u, ((parts.map fun (i, x) => (i, a.eval x)).toList)[j]? = some (p.1, u) ∧ VRel ρ δ p.2 u := by
              intro j p hj
              obtain ⟨x, h1, h2⟩ := hp j p hj
              have h1' : parts[j]? = some (p.1, x) := by simpa using h1
              exact ⟨a.eval x, by simp [h1'], h2⟩
            have hrr : VRels ρ δ (rep (v.cells.toList.map AV.of) len) ((Array.range (len * size)).map (v.cells[· % v.cells.size]!)).toList := by
              rw [← hzs]; exact rep_rel v.cells len
            obtain ⟨us', h1, h2⟩ := afill_sound vs _ _ _ cs hpl hpp hrr hcs
            have hle := ble_le hb1
            refine ⟨rfl, us', elem, fun δ' nm hle' hn => ⟨BRep.made (Nat.ne_of_gt hpos) hn (heap_alloc_size w _) (VRels.mono hle' _ _ h2), .slice (some ⟨w.heap.size, 0, none⟩) len len, ?_, ?_⟩⟩
            · simp only [VRel, NE.den]; exact ⟨_, _, len, hn, by simp [CRel], by simp⟩
            · have hbig : ¬ (len * size > 2 ^ 24) := by omega
              have hbig' : ¬ (16777216 < len * size) := by omega
              have hlist : (parts.map fun (i, x) => (i, a.eval x)).toList = List.map (fun x => (x.fst, a.eval x.snd)) parts.toList := by simp
              rw [hlist] at h1
              by_cases h0 : len * size = 0
              · have h1' : Instr.fill (fun i => some (i * size, size)) (Array.map (fun _ => default) (Array.range 0)) (List.map (fun x => (x.fst, a.eval x.snd)) parts.toList) = some us' := by
                  have e : ∀ f : Nat → Value, Array.map f (Array.range 0) = #[] := fun f => by apply Array.ext'; simp
                  rw [h0, e] at h1
                  rw [e]; exact h1
                simp [execOp, Instr.buildSlice, run_underlying hu, run_sizeOfT hs, h0, newRow]
                rw [h1']; simp
              · simp [execOp, Instr.buildSlice, run_underlying hu, run_sizeOfT hs, hbig', h0, run_zeroValue hi hv, newRow]
                rw [h1]; simp
          · cases h
        · cases h
      · cases h
    · cases h
  · -- makeSlice
    rename_i t l c hop
    simp only at hop; subst hop
    split at h
    · rename_i elem l' c' hu hl hc
      split at h
      · rename_i z i hz hi
        split at h
        · rename_i hb1 hb2 hb3
          simp only [Option.some.injEq, Prod.mk.injEq] at h
          obtain ⟨rfl, rfl⟩ := h
          obtain ⟨i', v, hi', hv, rfl⟩ := zeroCells_some hz
          rw [hi] at hi'
          injection hi' with hi'
          subst hi'
          have hzs : v.cells.size = i.size := by simpa using beq_eq hb3
          obtain ⟨vl, hvl, hll⟩ := Option.bind_eq_some_iff.1 hl
          obtain ⟨kl, hkl⟩ := litNat_some hll (ho l (by simp [Op.operands]) vl hvl)
          obtain ⟨vc, hvc, hlc⟩ := Option.bind_eq_some_iff.1 hc
          obtain ⟨kc, hkc⟩ := litNat_some hlc (ho c (by simp [Op.operands]) vc hvc)
          have hle := ble_le hb1
          have hbig := ble_le hb2
          have hcb : c' * i.bytes ≤ 65536 := Nat.le_trans (Nat.mul_le_mul_left _ (Nat.le_succ _)) hbig
          have hcc : c' ≤ 65536 := Nat.le_trans (Nat.le_mul_of_pos_right _ (by omega)) hbig
          have hr := run_make (P := P) w t elem i v hu hi hv kl kc (l' : Int) (c' : Int) (by omega) (by omega)
            (by rw [Int.mul_comm]; have : ((c' * i.bytes : Nat) : Int) ≤ 65536 := by omega
                rw [Int.natCast_mul] at this; omega) (by omega)
          simp only [Int.toNat_natCast] at hr
          refine ⟨rfl, madeCells v.cells (c' * i.size), elem, fun δ' nm hle' hn => ⟨BRep.made (Nat.ne_of_gt hpos) hn (heap_alloc_size w _) ?_, .slice (some ⟨w.heap.size, 0, none⟩) l' c', ?_, ?_⟩⟩
          · unfold madeCells; rw [← hzs]; exact rep_rel v.cells c'
          · simp only [VRel, NE.den]; exact ⟨_, _, c', hn, by simp [CRel], by simp⟩
          · simp [execOp, hkl, hkc, hr]
        · cases h
      · cases h
    · cases h
  · cases h
end
end Go.Sx
