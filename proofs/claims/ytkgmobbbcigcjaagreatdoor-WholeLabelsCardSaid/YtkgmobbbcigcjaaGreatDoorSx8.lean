/- An executor for the model's Go code over an abstract state: how memory goes on. -/
import Derived.Test.YtkgmobbbcigcjaaGreatDoorSx7
namespace Go.Sx
set_option linter.unusedVariables false

def Dl.bind (δ : Dl) (nm : Nat) (x : Nat × Nat) : Dl := { δ with at_ := fun n => if n = nm then some x else δ.at_ n }
def Dl.bindC (δ : Dl) (i x : Nat) : Dl := { δ with cap := fun n => if n = i then some x else δ.cap n }

theorem Dl.le_bind {δ : Dl} {nm : Nat} {x : Nat × Nat} (h : δ.at_ nm = none) : δ.le (δ.bind nm x) := by
  refine ⟨fun n y hn => ?_, fun _ _ h => h⟩
  have : n ≠ nm := fun e => by subst e; rw [h] at hn; cases hn
  simp [Dl.bind, this, hn]
theorem Dl.le_bindC {δ : Dl} {i x : Nat} (h : δ.cap i = none) : δ.le (δ.bindC i x) := by
  refine ⟨fun _ _ h => h, fun n y hn => ?_⟩
  have : n ≠ i := fun e => by subst e; rw [h] at hn; cases hn
  simp [Dl.bindC, this, hn]
theorem Dl.bind_same {δ : Dl} {nm : Nat} {x : Nat × Nat} : (δ.bind nm x).at_ nm = some x := by simp [Dl.bind]
theorem Dl.bind_other {δ : Dl} {nm n : Nat} {x : Nat × Nat} (h : n ≠ nm) : (δ.bind nm x).at_ n = δ.at_ n := by simp [Dl.bind, h]

section
variable {ρ : Rho} {δ δ0 : Dl} {P : Program} {w w' w0 : World} {hs hs0 : HS}

theorem BRep.lt {n x o : Nat} {b : ABlk} (hpos : gy < w.heap.size) (hb : BRep ρ δ w n b) (hl : b.live = true) (ha : δ.at_ n = some (x, o)) : x < w.heap.size := by
  cases b with
  | dead => cases hl
  | cells cs m elem tl rw =>
    obtain ⟨b', o', cur, fr, h1, ⟨_, h2, _⟩, _⟩ := hb
    rw [ha] at h1
    simp only [Option.some.injEq, Prod.mk.injEq] at h1
    rw [h1.1]
    exact (Array.getElem?_eq_some_iff.1 h2).1
  | seq q row elem rm rw =>
    obtain ⟨b', o', r, h1, _, _, h2⟩ := hb
    rw [ha] at h1
    simp only [Option.some.injEq, Prod.mk.injEq] at h1
    rw [h1.1]
    rcases h2 with ⟨rfl, _⟩ | ⟨_, cur, fr, ⟨_, h3, _⟩, _⟩
    · exact hpos
    · exact (Array.getElem?_eq_some_iff.1 h3).1

theorem BRep.bound {n : Nat} {b : ABlk} (hb : BRep ρ δ w n b) (hl : b.live = true) : ∃ x o, δ.at_ n = some (x, o) := by
  cases b with
  | dead => cases hl
  | cells cs m elem tl rw => obtain ⟨b', o', _, _, h1, _⟩ := hb; exact ⟨b', o', h1⟩
  | seq q row elem rm rw => obtain ⟨b', o', _, h1, _⟩ := hb; exact ⟨b', o', h1⟩

theorem ABlk.live_of_rw {b : ABlk} (h : b.rw = true) : b.live = true := by cases b <;> first | rfl | cases h

/-- Only memory counts. -/
theorem HRep.congr (h : HRep ρ δ hs w) (e : w'.heap = w.heap) : HRep ρ δ hs w' :=
  ⟨fun n b hb => (h.blk n b hb).keep fun x o _ _ => by rw [e], h.sep, h.freshN, h.freshC, h.glob, h.nx, by rw [e]; exact h.pos⟩

theorem HRep.gb (h : HRep ρ δ hs w) {nm : Nat} (hn : δ.at_ nm = none) : gbound ≤ nm := by
  rcases Nat.lt_or_ge nm gbound with hlt | hge
  · rw [h.glob nm hlt] at hn; cases hn
  · exact hge

theorem HRep.alloc (h : HRep ρ δ hs w) {nm nx' : Nat} {obj : Obj} {blk : ABlk} (hnm : δ.at_ nm = none) (hnx : hs.nx ≤ nx') (hlt : nm < nx')
    (hb : BRep ρ (δ.bind nm (w.heap.size, 0)) (w.alloc obj) nm blk) :
    HRep ρ (δ.bind nm (w.heap.size, 0)) { hs with heap := hs.heap.set nm blk, nx := nx' } (w.alloc obj) where
  blk := fun n b hn => by
    rw [T.get_set] at hn
    by_cases e : n = nm
    · subst e; simp at hn; subst hn; exact hb
    · rw [if_neg e] at hn
      have hb := h.blk n b hn
      exact (hb.keep fun x o ha hl => heap_alloc_old w obj x (hb.lt h.pos hl ha)).mono_le (Dl.le_bind hnm)
  sep := fun n m b c x y o o' hn hm hne hrw hlive hx hy hgy => by
    rw [T.get_set] at hn hm
    by_cases e : n = nm
    · subst e
      rw [Dl.bind_same] at hx
      injection hx with hx
      rw [if_neg (Ne.symm hne)] at hm
      rw [Dl.bind_other (Ne.symm hne)] at hy
      have := (h.blk m c hm).lt h.pos hlive hy
      have hxx : w.heap.size = x := congrArg Prod.fst hx
      omega
    · rw [if_neg e] at hn
      rw [Dl.bind_other e] at hx
      by_cases e' : m = nm
      · subst e'
        rw [Dl.bind_same] at hy
        injection hy with hy
        have := (h.blk n b hn).lt h.pos (ABlk.live_of_rw hrw) hx
        have hyy : w.heap.size = y := congrArg Prod.fst hy
        omega
      · rw [if_neg e'] at hm
        rw [Dl.bind_other e'] at hy
        exact h.sep n m b c x y o o' hn hm hne hrw hlive hx hy hgy
  freshN := fun n hn => by
    have e : n ≠ nm := by simp only at hn; omega
    rw [Dl.bind_other e]; exact h.freshN n (by simp only at hn; omega)
  freshC := h.freshC
  glob := fun g hg => by
    have e : g ≠ nm := by have := h.gb hnm; omega
    rw [Dl.bind_other e]; exact h.glob g hg
  nx := Nat.le_trans h.nx hnx
  pos := by have := h.pos; simp only [World.size_alloc]; omega

theorem Evo.alloc (h : Evo δ0 hs0 w0 δ hs w) {nm nx' : Nat} {obj : Obj} {blk : ABlk} (hnm : δ.at_ nm = none) (h0 : hs0.nx ≤ nm) (hnx : hs.nx ≤ nx') (hlt : nm < nx') :
    Evo δ0 hs0 w0 (δ.bind nm (w.heap.size, 0)) { hs with heap := hs.heap.set nm blk, nx := nx' } (w.alloc obj) where
  le := Dl.le_trans h.le (Dl.le_bind hnm)
  size := by have := h.size; simp only [World.size_alloc]; omega
  unch := fun b hb hn => by rw [heap_alloc_old w obj b (Nat.lt_of_lt_of_le hb h.size)]; exact h.unch b hb hn
  live := fun n blk' b o hn hl ha hgy => by
    simp only at hn
    rw [T.get_set] at hn
    by_cases e : n = nm
    · subst e
      rw [Dl.bind_same] at ha
      injection ha with ha
      have hbb : w.heap.size = b := congrArg Prod.fst ha
      exact .inl (by rw [← hbb]; exact h.size)
    · rw [if_neg e] at hn
      rw [Dl.bind_other e] at ha
      exact h.live n blk' b o hn hl ha hgy
  nx := Nat.le_trans h.nx hnx
  nc := h.nc
  new := fun n x hx => by
    by_cases e : n = nm
    · subst e; exact .inr ⟨h0, hlt⟩
    · rw [Dl.bind_other e] at hx
      rcases h.new n x hx with h1 | ⟨h1, h2⟩
      · exact .inl h1
      · exact .inr ⟨h1, Nat.lt_of_lt_of_le h2 hnx⟩
  os := h.os
  tape := h.tape
  output := h.output

/-- A block is written. -/
theorem HRep.setBlk (h : HRep ρ δ hs w) {n x o : Nat} {b0 b' : ABlk} (hg : hs.heap.get n = some b0) (hrw : b0.rw = true) (hx : δ.at_ n = some (x, o)) (hxg : x ≠ gy)
    (hb : BRep ρ δ w' n b') (hw : ∀ y, y ≠ x → w'.heap[y]? = w.heap[y]?) (hsz : w'.heap.size = w.heap.size) : HRep ρ δ { hs with heap := hs.heap.set n b' } w' where
  blk := fun m b hm => by
    simp only at hm
    rw [T.get_set] at hm
    by_cases e : m = n
    · subst e; simp at hm; subst hm; exact hb
    · rw [if_neg e] at hm
      exact (h.blk m b hm).keep fun y o' ha hl => hw y (Ne.symm (h.sep n m b0 b x y o o' hg hm (Ne.symm e) hrw hl hx ha hxg))
  sep := fun m k b c y z o1 o2 hm hk hne hbrw hlive hy hz hyg => by
    simp only at hm hk
    rw [T.get_set] at hm hk
    by_cases e : m = n
    · subst e
      rw [if_neg (Ne.symm hne)] at hk
      rw [hx] at hy
      injection hy with hy
      have : x = y := congrArg Prod.fst hy
      subst this
      exact h.sep m k b0 c x z o o2 hg hk hne hrw hlive hx hz hxg
    · rw [if_neg e] at hm
      by_cases e' : k = n
      · subst e'
        rw [hx] at hz
        injection hz with hz
        have : x = z := congrArg Prod.fst hz
        subst this
        exact Ne.symm (h.sep k m b0 b x y o o1 hg hm (Ne.symm hne) hrw (ABlk.live_of_rw hbrw) hx hy hxg)
      · rw [if_neg e'] at hk
        exact h.sep m k b c y z o1 o2 hm hk hne hbrw hlive hy hz hyg
  freshN := h.freshN
  freshC := h.freshC
  glob := h.glob
  nx := h.nx
  pos := by rw [hsz]; exact h.pos

theorem Evo.setBlk {n x o : Nat} {b0 b' : ABlk} (hg : hs.heap.get n = some b0) (hrw : b0.rw = true) (hx : δ.at_ n = some (x, o)) (hxg : x ≠ gy)
    (hw : ∀ y, y ≠ x → w'.heap[y]? = w.heap[y]?) (hsz : w'.heap.size = w.heap.size) (h1 : w'.os = w.os) (h2 : w'.tape = w.tape) (h3 : w'.output = w.output) :
    Evo δ hs w δ { hs with heap := hs.heap.set n b' } w' where
  le := δ.le_refl
  size := by omega
  unch := fun b _ hn => hw b fun e => hn (by rw [e]; exact hxg) n o b0 hg hrw (by rw [e]; exact hx)
  live := fun m blk b o' hm hl ha _ => by
    simp only at hm
    rw [T.get_set] at hm
    by_cases e : m = n
    · subst e
      exact .inr ⟨m, b0, o', hg, ABlk.live_of_rw hrw, fun _ => hrw, ha⟩
    · rw [if_neg e] at hm
      exact .inr ⟨m, blk, o', hm, hl, id, ha⟩
  nx := Nat.le_refl _
  nc := Nat.le_refl _
  new := fun _ _ hx => .inl hx
  os := h1
  tape := h2
  output := h3

theorem Evo.congrW {δ' : Dl} {hs' : HS} {w1 w2 : World} (h : Evo δ hs w δ' hs' w1) (e : w2.heap = w1.heap) (h1 : w2.os = w1.os) (h2 : w2.tape = w1.tape) (h3 : w2.output = w1.output) :
    Evo δ hs w δ' hs' w2 where
  le := h.le
  size := by rw [e]; exact h.size
  unch := fun b hb hn => by rw [e]; exact h.unch b hb hn
  live := h.live
  nx := h.nx
  nc := h.nc
  new := h.new
  os := h1.trans h.os
  tape := h2.trans h.tape
  output := h3.trans h.output

/-! ### Stores -/
theorem splice_get {α : Type} (l us : List α) (k i : Nat) (h : k + us.length ≤ l.length) :
    (l.take k ++ us ++ l.drop (k + us.length))[i]? = if k ≤ i ∧ i < k + us.length then us[i - k]? else l[i]? := by
  have hk : (l.take k).length = k := by simp; omega
  by_cases h1 : i < k
  · rw [if_neg (by omega), List.append_assoc, List.getElem?_append_left (by omega), List.getElem?_take_of_lt h1]
  · by_cases h2 : i < k + us.length
    · rw [if_pos (by omega), List.append_assoc, List.getElem?_append_right (by omega), hk, List.getElem?_append_left (by omega)]
    · rw [if_neg (by omega), List.getElem?_append_right (by simp; omega), List.getElem?_drop]
      congr 1
      simp
      omega

theorem oneAll_mem : ∀ {vs : List AV}, oneAll vs = true → ∀ v ∈ vs, v.oneCell = true
  | [], _, v, hv => by cases hv
  | x :: vs, h, v, hv => by
    simp only [oneAll] at h
    split at h
    · rename_i hx
      rcases List.mem_cons.1 hv with rfl | hv
      · exact hx
      · exact oneAll_mem h v hv
    · cases h

theorem oneAll_sound : ∀ {vs : List AV} {us : List Value}, oneAll vs = true → VRels ρ δ vs us → ∀ u ∈ us, u.oneCell' = true
  | [], us, _, hr, u, hu => by simp only [VRels] at hr; subst hr; cases hu
  | x :: vs, us, h, hr, u, hu => by
    simp only [oneAll] at h
    simp only [VRels] at hr
    obtain ⟨y, ys, rfl, h1, h2⟩ := hr
    split at h
    · rename_i hx
      rcases List.mem_cons.1 hu with rfl | hu
      · exact h1.oneCell hx
      · exact oneAll_sound h h2 u hu
    · cases h

theorem storeCells_sound {H' : T ABlk} {n off b o : Nat} {vs : List AV} {us : List Value} (hr : HRep ρ δ hs w) (hn : δ.at_ n = some (b, o)) (hv : VRels ρ δ vs us)
    (h : storeCells hs.heap n off vs = some H') :
    ∃ w', (Go.storeCells ⟨b, o + off, none⟩ us 0).run P w = .ok () w' ∧ HRep ρ δ { hs with heap := H' } w' ∧ Evo δ hs w δ { hs with heap := H' } w' ∧ w'.heap.size = w.heap.size := by
  unfold storeCells at h
  split at h
  · rename_i cs m elem tl hg
    split at h
    · rename_i hle hone
      simp only [Option.some.injEq] at h; subst h
      obtain ⟨b', o', cur, fr, h1, ⟨el, h2, hel⟩, h3, h4, h5, h6⟩ := hr.blk _ _ hg
      rw [hel rfl] at h2
      rw [hn] at h1
      simp only [Option.some.injEq, Prod.mk.injEq] at h1
      obtain ⟨rfl, rfl⟩ := h1
      obtain ⟨hfr, hbg⟩ := h4 rfl
      subst hfr
      have hl := hv.length
      have hfit : o + off + 0 + us.length ≤ cur.size := by have := ble_le hle; omega
      have hst := run_storeCells_at P b (o + off) elem us 0 cur w h2 hfit (oneAll_sound hone hv)
      simp only [Nat.add_zero] at hst hfit
      refine ⟨_, hst, ?_, ?_, by simp⟩
      · refine hr.setBlk hg rfl hn hbg ⟨b, o, _, (0, 0), hn, .mk (setRow_heap w b cur _ elem _ h2), fun i a hi => ?_, fun _ => ⟨rfl, hbg⟩, ?_, ?_⟩ (fun y hy => setRow_other w b y _ hy) (by simp)
        · rw [T.get_setL] at hi
          have hsp := splice_get cur.toList us (o + off) (o + i) (by simpa using hfit)
          have hsp' : (cur.toList.take (o + off) ++ us ++ cur.toList.drop (o + off + us.length)).toArray[o + i]? = if o + off ≤ o + i ∧ o + i < o + off + us.length then us[o + i - (o + off)]? else cur[o + i]? := by
            simpa using hsp
          rw [hsp']
          by_cases hc : off ≤ i ∧ i < off + vs.length
          · rw [if_pos hc] at hi
            rw [if_pos (by omega)]
            obtain ⟨u, hu1, hu2⟩ := hv.get hi
            exact ⟨u, by rw [← hu1]; congr 1; omega, hu2⟩
          · rw [if_neg hc] at hi
            rw [if_neg (by omega)]
            exact h3 i a hi
        · simp; omega
        · have hsize : (cur.toList.take (o + off) ++ us ++ cur.toList.drop (o + off + us.length)).toArray.size = cur.size := by simp; omega
          cases tl with
          | exact => exact ⟨h6.1, by rw [hsize]; exact h6.2⟩
          | more i s => obtain ⟨x, hx1, hx2⟩ := h6; exact ⟨x, hx1, by rw [hsize]; exact hx2⟩
          | unknown => trivial
      · exact Evo.setBlk hg rfl hn hbg (fun y hy => setRow_other w b y _ hy) (by simp) (by simp) (by simp) (by simp)
    · cases h
  · cases h

/-! ### Stores into rows -/
theorem CK.of_sound {ck : CK} {x : AV} {e : IE} {u : Value} (h : ck.of x = some e) (hv : VRel ρ δ x u) : u = ck.val (e.sv ρ) := by
  unfold CK.of at h
  split at h
  · split at h
    · rename_i hk
      have hk := of_decide_eq_true hk
      simp only [Option.some.injEq] at h; subst h; subst hk
      simpa [VRel, IE.den, CK.val] using hv
    · cases h
  · rename_i b
    simp only [Option.some.injEq] at h; subst h
    simp only [VRel] at hv
    subst hv
    rw [CK.val, ← toIE_bool b]; rfl
  · simp only [Option.some.injEq] at h; subst h
    simpa [VRel, CK.val] using hv
  · simp only [Option.some.injEq] at h; subst h
    simp only [VRel] at hv
    subst hv
    rfl
  · cases h

theorem CK.ofs_sound : ∀ {cks : List CK} {vs : List AV} {es : List IE} {us : List Value}, CK.ofs cks vs = some es → VRels ρ δ vs us →
    es.length = vs.length ∧ ∀ (j : Nat) (u : Value), us[j]? = some u → ∃ ck e, cks[j]? = some ck ∧ es[j]? = some e ∧ u = ck.val (e.sv ρ)
  | cks, [], es, us, h, hv => by
    cases cks <;> simp [CK.ofs] at h <;> subst h <;> simp only [VRels] at hv <;> subst hv <;> simp
  | [], v :: vs, es, us, h, hv => by simp [CK.ofs] at h
  | ck :: cks, v :: vs, es, us, h, hv => by
    simp only [CK.ofs] at h
    split at h
    case h_2 => cases h
    rename_i e he
    split at h
    case h_2 => cases h
    rename_i es' hes
    simp only [Option.some.injEq] at h; subst h
    simp only [VRels] at hv
    obtain ⟨u, us', rfl, h1, h2⟩ := hv
    obtain ⟨h3, h4⟩ := CK.ofs_sound hes h2
    refine ⟨by simp [h3], fun j x hx => ?_⟩
    cases j with
    | zero => simp at hx; subst hx; exact ⟨ck, e, by simp, by simp, CK.of_sound he h1⟩
    | succ j => obtain ⟨ck', e', h5, h6, h7⟩ := h4 j x (by simpa using hx); exact ⟨ck', e', by simpa using h5, by simpa using h6, h7⟩

theorem mixE_part {wd f : Nat} {es : List IE} {old : IE} {j : Nat} (hj : j < wd) (hf : f + es.length ≤ wd) :
    ((newE wd f es old).sv ρ).part wd j = match Nat.ble f j, es[j - f]? with
      | true, some e => e.sv ρ
      | _, _ => (old.sv ρ).part wd j := by
  unfold newE
  cases hw : Nat.beq wd 1 with
  | true =>
    have hw := beq_eq hw
    subst hw
    have hj0 : j = 0 := by omega
    subst hj0
    simp only
    cases es with
    | nil => cases hb : Nat.ble f 0 <;> simp
    | cons e es =>
      have hf0 : f = 0 := by simp at hf; omega
      subst hf0
      simp [SV.part]
  | false =>
    have hpart : ∀ x : SV, x.part wd j = x.l.getD j .nul := fun x => by unfold SV.part; rw [hw]
    simp only
    rw [hpart]
    simp only [IE.sv, Prim.den, svs_map, SV.ofL, SV.l, List.getD_eq_getElem?_getD, List.getElem?_map, List.getElem?_range hj, Option.map_some, Option.getD_some]
    unfold mixE
    cases hb : Nat.ble f j with
    | false => simp only; rw [fldE_sv]
    | true =>
      simp only
      cases es[j - f]? with
      | none => simp only; rw [fldE_sv]
      | some e => rfl

theorem storeRow_sound {H' : T ABlk} {n rm wd f b o cnt : Nat} {ix : IE} {vs : List AV} {us : List Value} (hr : HRep ρ δ hs w) (hn : δ.at_ n = some (b, o)) (hcnt : δ.cap (rm + 1) = some cnt)
    (hix : (ix.den ρ).toNat < cnt) (hv : VRels ρ δ vs us) (h : storeRow hs.heap n rm wd ix f vs = some H') :
    ∃ w', (Go.storeCells ⟨b, o + ((ix.den ρ).toNat * wd + f), none⟩ us 0).run P w = .ok () w' ∧ HRep ρ δ { hs with heap := H' } w' ∧ Evo δ hs w δ { hs with heap := H' } w' ∧ w'.heap.size = w.heap.size := by
  unfold storeRow at h
  split at h
  case h_2 => cases h
  rename_i q row elem rm' hg
  split at h
  case h_2 => cases h
  rename_i hrm hwd hle
  have hrm := beq_eq hrm
  have hwd := beq_eq hwd
  have hle := ble_le hle
  subst hrm
  split at h
  case h_2 => cases h
  rename_i es hes
  simp only [Option.some.injEq] at h; subst h
  obtain ⟨b', o', r, h1, h2, h3, h4⟩ := hr.blk _ _ hg
  rw [hn] at h1
  simp only [Option.some.injEq, Prod.mk.injEq] at h1
  obtain ⟨rfl, rfl⟩ := h1
  rw [hcnt] at h3
  injection h3 with h3
  rcases h4 with ⟨_, h4⟩ | ⟨hbg, cur, fr, ⟨el, h5, hel⟩, h6, hfr, h7, h8⟩
  · rw [h4] at h3; simp at h3; omega
  rw [hel rfl] at h5
  have hfr := hfr rfl
  subst hfr
  obtain ⟨hel, heg⟩ := CK.ofs_sound hes hv
  have hl := hv.length
  obtain ⟨ixn, hixn⟩ : ∃ i, i = (ix.den ρ).toNat := ⟨_, rfl⟩
  rw [← hixn] at hix ⊢
  have hixl : ixn < (q.sv ρ).l.length := by omega
  have hmul : ixn * wd + wd ≤ (q.sv ρ).l.length * row.length := by
    rw [← hwd]
    have := Nat.mul_le_mul_right wd (show ixn + 1 ≤ (q.sv ρ).l.length by omega)
    rw [Nat.add_mul] at this; omega
  have hfit : o + (ixn * wd + f) + 0 + us.length ≤ cur.size := by omega
  have hone : ∀ u ∈ us, u.oneCell' = true := by
    intro u hu
    obtain ⟨j, hj⟩ := List.mem_iff_getElem?.1 hu
    obtain ⟨ck, e, _, _, rfl⟩ := heg j u hj
    cases ck <;> rfl
  have hst := run_storeCells_at P b (o + (ixn * wd + f)) elem us 0 cur w h5 hfit hone
  simp only [Nat.add_zero] at hst hfit
  have hupd : ((updE q ix (newE wd f es (selE q ix))).sv ρ).l = (q.sv ρ).l.set ixn ((newE wd f es (selE q ix)).sv ρ) := by
    rw [hixn]; simp [updE, IE.sv, IE.svs, Prim.den, SV.ofL, SV.l, IE.den]
  refine ⟨_, hst, ?_, ?_, by simp⟩
  · refine hr.setBlk hg rfl hn hbg ⟨b, o, r, hn, h2, ?_, .inr ⟨hbg, _, (0, 0), .mk (setRow_heap w b cur _ elem _ h5), ?_, fun _ => rfl, ?_, ?_⟩⟩ (fun y hy => setRow_other w b y _ hy) (by simp)
    · rw [hupd, List.length_set, ← h3]; exact hcnt
    · intro i e he j ck hck
      have hj : j < wd := by rw [hwd]; exact (List.getElem?_eq_some_iff.1 hck).1
      rw [← hwd]
      have hsp := splice_get cur.toList us (o + (ixn * wd + f)) (o + (i * wd + j)) (by simpa using hfit)
      have hsp' : (cur.toList.take (o + (ixn * wd + f)) ++ us ++ cur.toList.drop (o + (ixn * wd + f) + us.length)).toArray[o + (i * wd + j)]? = if o + (ixn * wd + f) ≤ o + (i * wd + j) ∧ o + (i * wd + j) < o + (ixn * wd + f) + us.length then us[o + (i * wd + j) - (o + (ixn * wd + f))]? else cur[o + (i * wd + j)]? := by
        simpa using hsp
      rw [hsp', hupd] at *
      by_cases hi : i = ixn
      · subst hi
        rw [List.getElem?_set_self hixl] at he
        injection he with he
        subst he
        rw [mixE_part hj (by omega)]
        by_cases hc : f ≤ j ∧ j < f + us.length
        · rw [if_pos (by omega)]
          have hidx : o + (i * wd + j) - (o + (i * wd + f)) = j - f := by omega
          rw [hidx]
          obtain ⟨u, hu⟩ : ∃ u, us[j - f]? = some u := ⟨_, List.getElem?_eq_getElem (by omega)⟩
          obtain ⟨ck', e', h9, h10, h11⟩ := heg _ _ hu
          rw [List.getElem?_drop, show f + (j - f) = j by omega, hck] at h9
          injection h9 with h9
          subst h9
          rw [hu, h11, h10]
          have : Nat.ble f j = true := Nat.ble_eq_true_of_le hc.1
          rw [this]
        · rw [if_neg (by omega)]
          obtain ⟨e0, he0⟩ : ∃ e0, (q.sv ρ).l[i]? = some e0 := ⟨_, List.getElem?_eq_getElem hixl⟩
          have hold := h6 i e0 he0 j ck hck
          rw [← hwd] at hold
          rw [hold]
          have hsel : (selE q ix).sv ρ = e0 := by rw [selE_sv, ← hixn, List.getD_eq_getElem?_getD, he0]; rfl
          rw [hsel]
          cases hb : Nat.ble f j with
          | false => rfl
          | true =>
            have hfj := ble_le hb
            have : es[j - f]? = none := List.getElem?_eq_none (by omega)
            rw [this]
      · rw [List.getElem?_set_ne (Ne.symm hi)] at he
        have hold := h6 i e he j ck hck
        rw [← hwd] at hold
        rw [if_neg, hold]
        rintro ⟨ha, hb⟩
        rcases Nat.lt_or_gt_of_ne hi with hlt | hgt
        · have := Nat.mul_le_mul_right wd (show i + 1 ≤ ixn by omega)
          rw [Nat.add_mul] at this; omega
        · have := Nat.mul_le_mul_right wd (show ixn + 1 ≤ i by omega)
          rw [Nat.add_mul] at this; omega
    · simp; omega
    · rw [hupd, List.length_set]; exact h8
  · exact Evo.setBlk hg rfl hn hbg (fun y hy => setRow_other w b y _ hy) (by simp) (by simp) (by simp) (by simp)
end
end Go.Sx
