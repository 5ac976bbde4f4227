/- An executor for the model's Go code over an abstract state: operations with effects. -/
import Derived.Test.YtkgmobbbcigcjaaGreatDoorSx9
namespace Go.Sx
set_option linter.unusedVariables false
section
variable {ρ : Rho} {δ : Dl} {P : Program} {w : World} {hs : HS}

/-- An operation has come to a value, and memory has gone on. -/
def Comes1 (ρ : Rho) (δ : Dl) (hs : HS) (w : World) (s : Result Value) (v : AV) (hs' : HS) : Prop :=
  ∃ δ' w' u, s = .ok u w' ∧ HRep ρ δ' hs' w' ∧ Evo δ hs w δ' hs' w' ∧ VRel ρ δ' v u

theorem run_append_none (st xt ty e : TypeId) (i : TypeInfo) (xd : TypeDesc) (ht : P.underlying st = some (.slice e)) (hi : P.info? e = some i)
    (hx : P.underlying xt = some xd) (hni : isIntD xd = false) (x : Value) (news : Array Value)
    (hlen : (Builtin.lenOf x).run P w = .ok 0 w) (hnews : (Builtin.firstCells i.size 0 x).run P w = .ok news w) :
    (Builtin.append_ #[st, xt] ty #[.slice none 0 0, x]).run P w = .ok (.slice none 0 0) w := by
  simp [Builtin.append_, run_underlying ht, run_underlying hx, sizeOf, typeInfo, hi, hlen]
  cases xd <;> first | (simp [isIntD] at hni; done) | simp [hnews]

/-- Append in place where the tape gave room: the old name is dead, a new one stands for the same block. -/
theorem HRep.appendIn (hr : HRep ρ δ hs w) {n b o off kn size x need lo : Nat} {kcs : T AV} {elem : TypeId} {cur : Array Value} {ci : Nat} {old news : List AV} {us : List Value} {c : Nat} {H : T ABlk}
    (hg : hs.heap.get n = some (.cells kcs kn elem (.more ci size) true)) (hn : δ.at_ n = some (b, o)) (hcur : w.heap[b]? = some (.cells cur elem (0, 0)))
    (hk : ∀ i a, kcs.get i = some a → ∃ u, cur[o + i]? = some u ∧ VRel ρ δ a u) (hold : kcs.getL off (lo * size) = some old) (hnews : VRels ρ δ news us) (hone : oneAll news = true)
    (hnl : news.length + lo * size = need * size) (htot : o + kn + size * x ≤ cur.size) (hoff : off + (c - x) * size = kn) (hxc : x ≤ c) (hc : need ≤ c)
    (hH : H = (hs.heap.set n .dead).set hs.nx (.cells (T.ofList (old ++ news)) (need * size) elem (.more hs.nc size) true)) :
    ∃ δ' w', (Go.storeCells ⟨b, o + (off + lo * size), none⟩ us 0).run P w = .ok () w' ∧ HRep ρ δ' { heap := H, nx := hs.nx + 1, nc := hs.nc + 1 } w' ∧
      Evo δ hs w δ' { heap := H, nx := hs.nx + 1, nc := hs.nc + 1 } w' ∧ VRel ρ δ' (.slice hs.nx 0 ⟨need, none⟩ ⟨need, some hs.nc⟩) (.slice (some ⟨b, o + off, none⟩) need c) := by
  subst hH
  have hfn := hr.freshN hs.nx (Nat.le_refl _)
  have hfc := hr.freshC hs.nc (Nat.le_refl _)
  have hne : n ≠ hs.nx := fun e => by rw [e, hfn] at hn; cases hn
  have hbg : b ≠ gy := by
    obtain ⟨b', o', _, _, h1, _, _, h4, _⟩ := hr.blk _ _ hg
    rw [hn] at h1
    injection h1 with h1
    have h1 : b = b' := congrArg Prod.fst h1
    rw [h1]; exact (h4 rfl).2
  have hl := hnews.length
  obtain ⟨hol, hog⟩ := T.getL_some _ _ _ _ hold
  have hcs : c * size = (c - x) * size + x * size := by rw [← Nat.add_mul]; congr 1; omega
  have hns : need * size ≤ c * size := Nat.mul_le_mul_right _ hc
  have hxs : size * x = x * size := Nat.mul_comm _ _
  have hfit : o + (off + lo * size) + 0 + us.length ≤ cur.size := by omega
  have hst := run_storeCells_at P b (o + (off + lo * size)) elem us 0 cur w hcur hfit (oneAll_sound hone hnews)
  simp only [Nat.add_zero] at hst hfit
  have hle1 : δ.le (δ.bindC hs.nc (c - need)) := Dl.le_bindC hfc
  have hle2 : (δ.bindC hs.nc (c - need)).le ((δ.bindC hs.nc (c - need)).bind hs.nx (b, o + off)) := Dl.le_bind (δ := δ.bindC hs.nc (c - need)) hfn
  have hle := Dl.le_trans hle1 hle2
  have hcap : ((δ.bindC hs.nc (c - need)).bind hs.nx (b, o + off)).cap hs.nc = some (c - need) := by simp [Dl.bind, Dl.bindC]
  have hat : ∀ k, k ≠ hs.nx → ((δ.bindC hs.nc (c - need)).bind hs.nx (b, o + off)).at_ k = δ.at_ k := fun k hk => by rw [Dl.bind_other hk]; rfl
  have hget : ∀ k blk, ((hs.heap.set n .dead).set hs.nx (.cells (T.ofList (old ++ news)) (need * size) elem (.more hs.nc size) true)).get k = some blk →
      (k = hs.nx ∧ blk = .cells (T.ofList (old ++ news)) (need * size) elem (.more hs.nc size) true) ∨ (k ≠ hs.nx ∧ k = n ∧ blk = .dead) ∨ (k ≠ hs.nx ∧ k ≠ n ∧ hs.heap.get k = some blk) := by
    intro k blk hb
    rw [T.get_set, T.get_set] at hb
    by_cases e : k = hs.nx
    · rw [if_pos e] at hb; injection hb with hb; exact .inl ⟨e, hb.symm⟩
    · rw [if_neg e] at hb
      by_cases e' : k = n
      · rw [if_pos e'] at hb; injection hb with hb; exact .inr (.inl ⟨e, e', hb.symm⟩)
      · rw [if_neg e'] at hb; exact .inr (.inr ⟨e, e', hb⟩)
  have hw : ∀ y, y ≠ b → (w.setRow b (cur.toList.take (o + (off + lo * size)) ++ us ++ cur.toList.drop (o + (off + lo * size) + us.length)).toArray).heap[y]? = w.heap[y]? := fun y hy => setRow_other w b y _ hy
  refine ⟨(δ.bindC hs.nc (c - need)).bind hs.nx (b, o + off), _, hst, ⟨?_, ?_, ?_, ?_, ?_, ?_, by rw [size_setRow]; exact hr.pos⟩, ⟨hle, ?_, ?_, ?_, ?_, ?_, ?_, ?_, ?_, ?_⟩, ?_⟩
  · -- blocks
    intro k blk hb
    rcases hget k blk hb with ⟨rfl, rfl⟩ | ⟨_, rfl, rfl⟩ | ⟨h1, h2, h3⟩
    · refine ⟨b, o + off, _, (0, 0), Dl.bind_same, .mk (setRow_heap w b cur _ elem _ hcur), fun i a hi => ?_, fun _ => ⟨rfl, hbg⟩, ?_, c - need, hcap, ?_⟩
      · rw [T.get_ofList] at hi
        have hsp := splice_get cur.toList us (o + (off + lo * size)) (o + off + i) (by simpa using hfit)
        have hsp' : (cur.toList.take (o + (off + lo * size)) ++ us ++ cur.toList.drop (o + (off + lo * size) + us.length)).toArray[o + off + i]? = if o + (off + lo * size) ≤ o + off + i ∧ o + off + i < o + (off + lo * size) + us.length then us[o + off + i - (o + (off + lo * size))]? else cur[o + off + i]? := by
          simpa using hsp
        rw [hsp']
        by_cases hi2 : i < lo * size
        · rw [if_neg (by omega)]
          rw [List.getElem?_append_left (by omega)] at hi
          obtain ⟨u, hu1, hu2⟩ := hk _ _ (hog i a hi)
          exact ⟨u, by rw [Nat.add_assoc]; exact hu1, VRel.mono hle _ _ hu2⟩
        · rw [List.getElem?_append_right (by omega), hol] at hi
          obtain ⟨u, hu1, hu2⟩ := hnews.get hi
          have := (List.getElem?_eq_some_iff.1 hu1).1
          rw [if_pos (by omega)]
          exact ⟨u, by rw [← hu1]; congr 1; omega, VRel.mono hle _ _ hu2⟩
      · simp; omega
      · have hsize : (cur.toList.take (o + (off + lo * size)) ++ us ++ cur.toList.drop (o + (off + lo * size) + us.length)).toArray.size = cur.size := by simp; omega
        rw [hsize]
        have : size * (c - need) + need * size = c * size := by rw [Nat.mul_comm size, ← Nat.add_mul]; congr 1; omega
        omega
    · trivial
    · exact ((hr.blk k blk h3).mono_le hle).keep fun y o' ha hlv => hw y (by rw [hat k h1] at ha; exact Ne.symm (hr.sep n k _ blk b y o o' hg h3 (Ne.symm h2) rfl hlv hn ha hbg))
  · -- apart
    intro k l bk bl y z o1 o2 hk' hl' hkl hrw hlv hy hz hyg
    rcases hget k bk hk' with ⟨rfl, rfl⟩ | ⟨_, rfl, rfl⟩ | ⟨h1, h2, h3⟩
    · rw [Dl.bind_same] at hy
      injection hy with hy
      have hyb : b = y := congrArg Prod.fst hy
      subst hyb
      rcases hget l bl hl' with ⟨rfl, _⟩ | ⟨_, _, rfl⟩ | ⟨h4, h5, h6⟩
      · exact absurd rfl hkl
      · cases hlv
      · rw [hat l h4] at hz
        exact hr.sep n l _ bl b z o o2 hg h6 (Ne.symm h5) rfl hlv hn hz hbg
    · cases hrw
    · rw [hat k h1] at hy
      rcases hget l bl hl' with ⟨rfl, rfl⟩ | ⟨_, _, rfl⟩ | ⟨h4, h5, h6⟩
      · rw [Dl.bind_same] at hz
        injection hz with hz
        have hzb : b = z := congrArg Prod.fst hz
        subst hzb
        exact Ne.symm (hr.sep n k _ bk b y o o1 hg h3 (Ne.symm h2) rfl (ABlk.live_of_rw hrw) hn hy hbg)
      · cases hlv
      · rw [hat l h4] at hz
        exact hr.sep k l bk bl y z o1 o2 h3 h6 hkl hrw hlv hy hz hyg
  · intro k hk'
    have e : k ≠ hs.nx := by simp only at hk'; omega
    rw [hat k e]; exact hr.freshN k (by simp only at hk'; omega)
  · intro i hi
    have e : i ≠ hs.nc := by simp only at hi; omega
    simp only [Dl.bind, Dl.bindC, e, if_false]
    exact hr.freshC i (by simp only at hi; omega)
  · intro g hg'
    have e : g ≠ hs.nx := by have := hr.gb hfn; omega
    rw [hat g e]; exact hr.glob g hg'
  · exact Nat.le_trans hr.nx (Nat.le_succ _)
  · simp
  · intro y _ hn'
    exact hw y fun e => hn' (by rw [e]; exact hbg) n o _ hg rfl (by rw [e]; exact hn)
  · intro k blk y o' hb hlv hy _
    rcases hget k blk hb with ⟨rfl, rfl⟩ | ⟨_, rfl, rfl⟩ | ⟨h1, h2, h3⟩
    · rw [Dl.bind_same] at hy
      injection hy with hy
      have hyb : b = y := congrArg Prod.fst hy
      subst hyb
      exact .inr ⟨n, _, o, hg, rfl, fun _ => rfl, hn⟩
    · cases hlv
    · rw [hat k h1] at hy
      exact .inr ⟨k, blk, o', h3, hlv, id, hy⟩
  · exact Nat.le_succ _
  · exact Nat.le_succ _
  · intro k y hy
    by_cases e : k = hs.nx
    · subst e; exact .inr ⟨Nat.le_refl _, Nat.lt_succ_self _⟩
    · rw [hat k e] at hy; exact .inl hy
  · simp
  · simp
  · simp
  · simp only [VRel, NE.den]
    exact ⟨b, o + off, c, Dl.bind_same, ⟨c - need, hcap, by simp only; omega⟩, rfl⟩

theorem append_sound {st xt ty : TypeId} {s x v : AV} {us ux : Value} {hs' : HS} (hr : HRep ρ δ hs w) (hvs : VRel ρ δ s us) (hvx : VRel ρ δ x ux)
    (h : doAppend P st xt s x hs = .val v hs') : Comes1 ρ δ hs w ((Builtin.append_ #[st, xt] ty #[us, ux]).run P w) v hs' := by
  unfold doAppend at h
  split at h
  case h_2 => cases h
  rename_i elem ht
  split at h
  case h_2 => cases h
  rename_i i xd m hi hx hm
  split at h
  case h_2 => cases h
  rename_i hni hz hsz
  have hsz1 : 1 ≤ i.size := ble_le hsz
  obtain ⟨z, hz1, hz2⟩ : ∃ z, i.zero = some z ∧ z.cells.size = i.size := by
    split at hz
    · rename_i z hz'; exact ⟨z, hz', beq_eq hz⟩
    · cases hz
  split at h
  case h_2 => cases h
  rename_i news hnews
  obtain ⟨nus, hnl, hnr, hnf⟩ := src_sound hr.blk hvx hm hnews
  have hnlen : news.length = m * i.size := by rw [hnr.length]; simpa using hnl
  split at h
  case h_2 => cases h
  rename_i hone
  revert h
  cases s
  case nils =>
    intro h
    simp only at h
    simp only [VRel] at hvs
    subst hvs
    cases m with
    | zero =>
      simp only at h
      simp only [ER.val.injEq] at h
      obtain ⟨rfl, rfl⟩ := h
      have hn0 : nus.toList = [] := List.eq_nil_of_length_eq_zero (by simpa using hnl)
      refine ⟨δ, w, .slice none 0 0, ?_, hr, Evo.refl, by simp [VRel]⟩
      have h1 := (hnf w rfl).1
      have h2 := (hnf w rfl).2
      exact run_append_none (P := P) (w := w) st xt ty elem i xd ht hi hx hni ux nus h1 h2
    | succ m =>
      simp only at h
      split at h
      case h_2 => cases h
      rename_i hbig
      have hbig := ble_le hbig
      simp only [ER.val.injEq] at h
      obtain ⟨rfl, rfl⟩ := h
      have hbb : (m + 1) * i.bytes ≤ 1048576 := Nat.le_trans (Nat.mul_le_mul_left _ (Nat.le_succ _)) hbig
      have hmm : m + 1 ≤ 1048576 := Nat.le_trans (Nat.le_mul_of_pos_right _ (by omega)) hbig
      have hrun := run_append_new (P := P) (w := w) st xt ty elem i z xd ht hi hz1 hx hni none 0 0 ux (m + 1) #[] nus (fun w' e => (hnf w' e).1) (fun w' e => (hnf w' e).2)
        (fun w' _ => by simp [Builtin.firstCells]) (by omega) (by omega) (growslice_fits (by omega) (by simp only [Nat.zero_add]; omega))
      simp only [Nat.zero_add] at hrun
      obtain ⟨δ', h1, h2, h3⟩ := hr.appendNew (olds := #[]) (us := nus) (news := news) (z := z.cells) (elem := elem) (size := i.size) (need := m + 1) (c := grownCap w (m + 1) 0 elem)
        (w' := w.drew.alloc (.cells (#[] ++ nus ++ Builtin.zeroCells z.cells (grownCap w (m + 1) 0 elem - (m + 1))) elem))
        rfl rfl rfl rfl (by simpa using hnr) hnlen hz2 (grownCap_ge _ _ _ _) rfl
      rw [hnlen]
      exact ⟨δ', _, _, hrun, h1, h2, h3⟩
  case slice n off len cap =>
    intro h
    simp only at h
    have hvs' := hvs
    simp only [VRel] at hvs
    obtain ⟨b, o, c, hn, hc, rfl⟩ := hvs
    split at h
    · cases h
    · rename_i hla
      have hden : len.den ρ = len.n := by simp [NE.den, hla]
      rw [hden]
      have hcg := cap_ge hc
      split at h
      · -- there is room
        rename_i hroom
        have hroom := ble_le hroom
        split at h
        · -- nothing is appended
          simp only [ER.val.injEq] at h
          obtain ⟨rfl, rfl⟩ := h
          have hm0 : m = 0 := by
            have h9 : m * i.size = 0 := hnlen.symm
            rcases Nat.mul_eq_zero.1 h9 with h0 | h0
            · exact h0
            · omega
          subst hm0
          have hn0 : nus.toList = [] := List.eq_nil_of_length_eq_zero (by simpa using hnl)
          refine ⟨δ, w, _, run_append_in (P := P) st xt ty elem i xd ht hi hx hni ⟨b, o + off, none⟩ len.n c ux 0 nus w (hnf w rfl).1 (hnf w rfl).2 (by rw [hn0]; rfl) (by omega), hr, Evo.refl, ?_⟩
          simp only [VRel]
          exact ⟨b, o, c, hn, hc, by rw [hden, Nat.add_zero]⟩
        · split at h
          case h_2 => cases h
          rename_i H hst
          simp only [ER.val.injEq] at h
          obtain ⟨rfl, rfl⟩ := h
          obtain ⟨w', h1, h2, h3, _⟩ := storeCells_sound (P := P) hr hn hnr hst
          refine ⟨δ, w', _, run_append_in (P := P) st xt ty elem i xd ht hi hx hni ⟨b, o + off, none⟩ len.n c ux m nus w' (hnf w rfl).1 (hnf w rfl).2 (by rw [addr_add, Nat.add_assoc]; exact h1) (by omega), h2, h3, ?_⟩
          simp only [VRel, NE.den]
          exact ⟨b, o, c, hn, hc, rfl⟩
      · -- there may be none
        rename_i hroom
        have hroom : ¬ (len.n + m ≤ cap.n) := fun h0 => by rw [Nat.ble_eq_true_of_le h0] at hroom; cases hroom
        split at h
        case h_2 => cases h
        rename_i old hold hbig hlc
        have hbig := ble_le hbig
        have hlc := ble_le hlc
        have hbb : (len.n + m) * i.bytes ≤ 1048576 := Nat.le_trans (Nat.mul_le_mul_left _ (Nat.le_succ _)) hbig
        have hmm : len.n + m ≤ 1048576 := Nat.le_trans (Nat.le_mul_of_pos_right _ (by omega)) hbig
        obtain ⟨ous, hol, hor, hof⟩ := src_sound (m := len.n) hr.blk hvs' (by simp [lenOf, hla]) hold
        rw [hden] at hof
        have holen : old.length = len.n * i.size := by rw [hor.length]; simpa using hol
        have hboth : VRels ρ δ (old ++ news) (ous ++ nus).toList := by rw [Array.toList_append]; exact hor.append hnr
        have hblen : (old ++ news).length = (len.n + m) * i.size := by rw [List.length_append, holen, hnlen, Nat.add_mul]
        -- a new block
        have grow : c < len.n + m → ∀ H, H = hs.heap.set hs.nx (.cells (T.ofList (old ++ news)) ((len.n + m) * i.size) elem (.more hs.nc i.size) true) →
            Comes1 ρ δ hs w ((Builtin.append_ #[st, xt] ty #[.slice (some ⟨b, o + off, none⟩) len.n c, ux]).run P w) (.slice hs.nx 0 ⟨len.n + m, none⟩ ⟨len.n + m, some hs.nc⟩) { heap := H, nx := hs.nx + 1, nc := hs.nc + 1 } := by
          intro hlt H hH
          have hrun := run_append_new (P := P) (w := w) st xt ty elem i z xd ht hi hz1 hx hni (some ⟨b, o + off, none⟩) len.n c ux m ous nus (fun w' e => (hnf w' e).1) (fun w' e => (hnf w' e).2)
            (fun w' e => (hof w' e).2) hlt (by omega) (growslice_fits hlt (by omega))
          obtain ⟨δ', h1, h2, h3⟩ := hr.appendNew (olds := ous) (us := nus) (news := old ++ news) (z := z.cells) (elem := elem) (size := i.size) (need := len.n + m) (c := grownCap w (len.n + m) c elem) (H := H)
            (w' := w.drew.alloc (.cells (ous ++ nus ++ Builtin.zeroCells z.cells (grownCap w (len.n + m) c elem - (len.n + m))) elem))
            rfl rfl rfl rfl hboth hblen hz2 (grownCap_ge _ _ _ _) hH
          exact ⟨δ', _, _, hrun, h1, h2, h3⟩
        split at h
        · -- the capacity is known
          rename_i hca
          simp only [ER.val.injEq] at h
          obtain ⟨rfl, rfl⟩ := h
          have hcc : c = cap.n := by simpa [CRel, hca] using hc
          exact grow (by omega) _ rfl
        · rename_i ci hca
          split at h
          case h_2 => cases h
          rename_i kcs kn kelem cj csz hg
          split at h
          case h_2 => cases h
          rename_i e1 e2 e3 e4 e5
          have e1 := beq_eq e1; have e2 := beq_eq e2; have e3 := beq_eq e3; have e4 := beq_eq e4
          subst e1 e2 e4
          simp only [ER.val.injEq] at h
          obtain ⟨rfl, rfl⟩ := h
          obtain ⟨x, hx1, hx2⟩ : ∃ x, δ.cap ci = some x ∧ c = cap.n + x := by simpa [CRel, hca] using hc
          obtain ⟨b', o', cur, fr, k1, ⟨el, k2, hel⟩, k3, k4, k5, k6⟩ := hr.blk _ _ hg
          rw [hel rfl] at k2
          rw [hn] at k1
          simp only [Option.some.injEq, Prod.mk.injEq] at k1
          obtain ⟨rfl, rfl⟩ := k1
          obtain ⟨x', hx3, hx4⟩ := k6
          rw [hx1] at hx3
          injection hx3 with hx3
          subst hx3
          obtain ⟨hfr, hbg⟩ := k4 rfl
          subst hfr
          by_cases hin : len.n + m ≤ c
          · have hold' : kcs.getL off (len.n * i.size) = some old := by
              simp only [srcCells, hg] at hold; exact hold
            obtain ⟨δ', w', h1, h2, h3, h4⟩ := hr.appendIn (P := P) (off := off) (x := x) (need := len.n + m) (lo := len.n) (c := c) (news := news) (us := nus.toList) hg hn k2 k3 hold' hnr hone
              (by rw [hnlen, Nat.add_mul]; omega) hx4 (by rw [hx2, Nat.add_sub_cancel]; exact e3) (by omega) hin rfl
            refine ⟨δ', w', _, run_append_in (P := P) st xt ty kelem i xd ht hi hx hni ⟨b, o + off, none⟩ len.n c ux m nus w' (hnf w rfl).1 (hnf w rfl).2 (by rw [addr_add, Nat.add_assoc]; exact h1) hin, h2, h3, h4⟩
          · obtain ⟨δ', w', u, h1, h2, h3, h4⟩ := grow (by omega) _ rfl
            have hnx : n ≠ hs.nx := fun e => by rw [e, hr.freshN hs.nx (Nat.le_refl _)] at hn; cases hn
            refine ⟨δ', w', u, h1, ⟨?_, ?_, h2.freshN, h2.freshC, h2.glob, h2.nx, h2.pos⟩, ⟨h3.le, h3.size, h3.unch, ?_, h3.nx, h3.nc, h3.new, h3.os, h3.tape, h3.output⟩, h4⟩
            · intro k blk hb
              simp only at hb
              rw [T.get_set, T.get_set] at hb
              by_cases e : k = hs.nx
              · rw [if_pos e] at hb
                exact h2.blk k blk (by simp only; rw [T.get_set, if_pos e]; exact hb)
              · rw [if_neg e] at hb
                by_cases e' : k = n
                · rw [if_pos e'] at hb; injection hb with hb; subst hb; trivial
                · rw [if_neg e'] at hb
                  exact h2.blk k blk (by simp only; rw [T.get_set, if_neg e]; exact hb)
            · have sub : ∀ k blk, ((hs.heap.set n .dead).set hs.nx (.cells (T.ofList (old ++ news)) ((len.n + m) * i.size) kelem (.more hs.nc i.size) true)).get k = some blk → blk.live = true →
                  (hs.heap.set hs.nx (.cells (T.ofList (old ++ news)) ((len.n + m) * i.size) kelem (.more hs.nc i.size) true)).get k = some blk := by
                intro k blk hb hlv
                rw [T.get_set, T.get_set] at hb
                rw [T.get_set]
                by_cases e : k = hs.nx
                · rw [if_pos e] at hb ⊢; exact hb
                · rw [if_neg e] at hb ⊢
                  by_cases e' : k = n
                  · rw [if_pos e'] at hb; injection hb with hb; subst hb; cases hlv
                  · rw [if_neg e'] at hb; exact hb
              intro k l bk bl y z o1 o2 hk hl hkl hrw hlv
              exact h2.sep k l bk bl y z o1 o2 (sub k bk hk (ABlk.live_of_rw hrw)) (sub l bl hl hlv) hkl hrw hlv
            · intro k blk y o1 hb hlv hy
              simp only at hb
              rw [T.get_set, T.get_set] at hb
              by_cases e : k = hs.nx
              · rw [if_pos e] at hb
                exact h3.live k blk y o1 (by simp only; rw [T.get_set, if_pos e]; exact hb) hlv hy
              · rw [if_neg e] at hb
                by_cases e' : k = n
                · rw [if_pos e'] at hb; injection hb with hb; subst hb; cases hlv
                · rw [if_neg e'] at hb
                  exact h3.live k blk y o1 (by simp only; rw [T.get_set, if_neg e]; exact hb) hlv hy
  all_goals (intro h; cases h)
end
end Go.Sx
