/- An executor for the model's Go code over an abstract state: what stands fixed of a region whose order is drawn. -/
import Derived.Test.YtkgmobbbcigcjaaGreatDoorSx12
namespace Go.Sx
set_option linter.unusedVariables false

theorem has_lor (a b j : Nat) : has (Nat.lor a b) j = (has a j || has b j) := Nat.testBit_or a b j
theorem has_pow (n j : Nat) : has (Nat.pow 2 n) j = decide (n = j) := Nat.testBit_two_pow
theorem has_zero (j : Nat) : has 0 j = false := Nat.zero_testBit j
theorem has_land {a b : Nat} (h : Nat.beq (Nat.land a b) a = true) {j : Nat} (hj : has a j = true) : has b j = true := by
  have e := beq_eq h
  have h1 : has (Nat.land a b) j = (has a j && has b j) := Nat.testBit_and a b j
  rw [e, hj] at h1
  simpa using h1.symm

def bstep (acc : List Nat) (b : Nat) (e : Edge) : Nat := match Region.binds .any e with
  | true => Nat.lor (Nat.lor b (Nat.pow 2 e.on)) (acc.getD e.on 0)
  | false => b

theorem fold_bit (acc : List Nat) (j : Nat) : ∀ (l : List Edge) (b0 : Nat), has (l.foldl (bstep acc) b0) j = true ↔
    has b0 j = true ∨ ∃ e ∈ l, Region.binds .any e = true ∧ (e.on = j ∨ has (acc.getD e.on 0) j = true)
  | [], b0 => by simp
  | e :: l, b0 => by
    simp only [List.foldl_cons]
    rw [fold_bit acc j l]
    have hb : has (bstep acc b0 e) j = true ↔ has b0 j = true ∨ (Region.binds .any e = true ∧ (e.on = j ∨ has (acc.getD e.on 0) j = true)) := by
      unfold bstep
      split
      · rename_i hbd
        rw [has_lor, has_lor, has_pow]
        simp [hbd, or_assoc]
      · rename_i hbd
        simp [hbd]
    rw [hb]
    constructor
    · rintro ((h | h) | ⟨e', h1, h2⟩)
      · exact .inl h
      · exact .inr ⟨e, List.mem_cons_self, h⟩
      · exact .inr ⟨e', List.mem_cons_of_mem _ h1, h2⟩
    · rintro (h | ⟨e', h1, h2⟩)
      · exact .inl (.inl h)
      · rcases List.mem_cons.1 h1 with rfl | h1
        · exact .inl (.inr h2)
        · exact .inr ⟨e', h1, h2⟩

theorem bitsGo_spec : ∀ (os : List Oper) (acc : List Nat), (bitsGo acc os).length = acc.length + os.length ∧ (∀ i, i < acc.length → (bitsGo acc os).getD i 0 = acc.getD i 0) ∧
    ∀ (i : Nat) (o : Oper), os[i]? = some o → (bitsGo acc os).getD (acc.length + i) 0 = o.after.toList.foldl (bstep ((bitsGo acc os).take (acc.length + i))) 0
  | [], acc => by simp [bitsGo]
  | o :: os, acc => by
    have ih := bitsGo_spec os (acc ++ [o.after.toList.foldl (bstep acc) 0])
    have hdef : bitsGo acc (o :: os) = bitsGo (acc ++ [o.after.toList.foldl (bstep acc) 0]) os := rfl
    rw [hdef]
    obtain ⟨h1, h2, h3⟩ := ih
    refine ⟨by rw [h1]; simp; omega, fun i hi => ?_, fun i p hp => ?_⟩
    · rw [h2 i (by simp; omega)]
      rw [List.getD_eq_getElem?_getD, List.getD_eq_getElem?_getD, List.getElem?_append_left hi]
    · cases i with
      | zero =>
        simp only [List.getElem?_cons_zero, Option.some.injEq] at hp
        subst hp
        rw [Nat.add_zero, h2 acc.length (by simp)]
        have htk : (bitsGo (acc ++ [o.after.toList.foldl (bstep acc) 0]) os).take acc.length = acc := by
          apply List.ext_getElem?
          intro j
          by_cases hj : j < acc.length
          · rw [List.getElem?_take_of_lt hj]
            have := h2 j (by simp; omega)
            rw [List.getD_eq_getElem?_getD, List.getD_eq_getElem?_getD, List.getElem?_append_left hj] at this
            have hl1 : j < (bitsGo (acc ++ [o.after.toList.foldl (bstep acc) 0]) os).length := by rw [h1]; simp; omega
            rw [List.getElem?_eq_getElem hl1, List.getElem?_eq_getElem hj] at this ⊢
            simpa using this
          · rw [List.getElem?_eq_none (by simp; omega), List.getElem?_eq_none (by omega)]
        rw [htk]
        simp
      | succ i =>
        have := h3 i p (by simpa using hp)
        simp only [List.length_append, List.length_cons, List.length_nil] at this
        rw [show acc.length + (i + 1) = acc.length + (0 + 1) + i by omega]
        exact this

section
variable {ops : Array Oper}

structure Fixed (ops : Array Oper) (bits : List Nat) : Prop where
  len : bits.length = ops.size
  edge : ∀ (i : Nat) (o : Oper), ops[i]? = some o → ∀ e ∈ o.after, Region.binds .any e = true → e.on < i
  bit : ∀ (i : Nat) (o : Oper), ops[i]? = some o → ∀ j, has (bits.getD i 0) j = true ↔ ∃ e ∈ o.after, Region.binds .any e = true ∧ (e.on = j ∨ has (bits.getD e.on 0) j = true)
  uniq : ∀ (i j : Nat) (o p : Oper) (d : Tmp), ops[i]? = some o → ops[j]? = some p → i ≠ j → p.dst = some d → o.dst ≠ some d
  order : ∀ (i j : Nat) (o p : Oper) (d : Tmp), ops[i]? = some o → ops[j]? = some p → i ≠ j → p.dst = some d → d ∈ o.looksAt ops → has (bits.getD i 0) j = true ∨ has (bits.getD j 0) i = true

theorem fixed_of (h : dOK ops (bitsOf ops) = true) : Fixed ops (bitsOf ops) := by
  have hall : ∀ (i : Nat) (o : Oper), ops[i]? = some o → (o.after.toList.all fun e => match Region.binds .any e with | true => Nat.blt e.on i | false => true) = true ∧
      ∀ (j : Nat) (p : Oper), ops[j]? = some p → (match Nat.beq i j with
        | true => true
        | false => match p.dst with
          | none => true
          | some d => (match o.dst with | some d' => !(Nat.beq d d') | none => true) &&
            (!((looks ops o).any fun t => Nat.beq t d) || has ((bitsOf ops).getD i 0) j || has ((bitsOf ops).getD j 0) i)) = true := by
    intro i o ho
    unfold dOK at h
    rw [List.all_eq_true] at h
    have hm : (o, i) ∈ ops.toList.zipIdx := by
      rw [List.mem_zipIdx_iff_getElem?]
      simpa using ho
    have h1 := h (o, i) hm
    simp only [Bool.and_eq_true] at h1
    refine ⟨h1.1, fun j p hp => ?_⟩
    have h2 := h1.2
    rw [List.all_eq_true] at h2
    have hm' : (p, j) ∈ ops.toList.zipIdx := by
      rw [List.mem_zipIdx_iff_getElem?]
      simpa using hp
    exact h2 (p, j) hm'
  have hedge : ∀ (i : Nat) (o : Oper), ops[i]? = some o → ∀ e ∈ o.after, Region.binds .any e = true → e.on < i := by
    intro i o ho e he hb
    have h1 := (hall i o ho).1
    rw [List.all_eq_true] at h1
    have h2 := h1 e (by simpa using he)
    rw [hb] at h2
    exact blt_lt h2
  obtain ⟨s1, s2, s3⟩ := bitsGo_spec ops.toList []
  have hlen : (bitsOf ops).length = ops.size := by unfold bitsOf; rw [s1]; simp
  refine ⟨hlen, hedge, ?_, ?_, ?_⟩
  · intro i o ho j
    have hi : i < ops.size := (Array.getElem?_eq_some_iff.1 ho).1
    have h3 := s3 i o (by simpa using ho)
    simp only [List.length_nil, Nat.zero_add] at h3
    have h3' : (bitsOf ops).getD i 0 = o.after.toList.foldl (bstep ((bitsOf ops).take i)) 0 := h3
    rw [h3', fold_bit]
    simp only [has_zero, Bool.false_eq_true, false_or]
    constructor
    · rintro ⟨e, he, hb, hx⟩
      refine ⟨e, by simpa using he, hb, ?_⟩
      have hlt := hedge i o ho e (by simpa using he) hb
      rcases hx with hx | hx
      · exact .inl hx
      · right
        rw [List.getD_eq_getElem?_getD, List.getElem?_take_of_lt hlt, ← List.getD_eq_getElem?_getD] at hx
        exact hx
    · rintro ⟨e, he, hb, hx⟩
      refine ⟨e, by simpa using he, hb, ?_⟩
      have hlt := hedge i o ho e he hb
      rcases hx with hx | hx
      · exact .inl hx
      · right
        rw [List.getD_eq_getElem?_getD, List.getElem?_take_of_lt hlt, ← List.getD_eq_getElem?_getD]
        exact hx
  · intro i j o p d ho hp hne hd
    have h1 := (hall i o ho).2 j p hp
    have hb : Nat.beq i j = false := by
      cases hb : Nat.beq i j with
      | true => exact absurd (beq_eq hb) hne
      | false => rfl
    rw [hb] at h1
    simp only [hd, Bool.and_eq_true] at h1
    intro he
    rw [he] at h1
    have h2 := h1.1
    simp at h2
  · intro i j o p d ho hp hne hd hl
    have h1 := (hall i o ho).2 j p hp
    have hb : Nat.beq i j = false := by
      cases hb : Nat.beq i j with
      | true => exact absurd (beq_eq hb) hne
      | false => rfl
    rw [hb] at h1
    simp only [hd, Bool.and_eq_true, Bool.or_eq_true] at h1
    have h2 := h1.2
    have hany : ((looks ops o).any fun t => Nat.beq t d) = true := by
      rw [List.any_eq_true]
      exact ⟨d, hl, by simp⟩
    rw [hany] at h2
    rcases h2 with (h2 | h2) | h2
    · cases h2
    · exact .inl h2
    · exact .inr h2

/-- Who is listed has all before it listed. -/
def Closed (ops : Array Oper) (listed : Array Bool) : Prop :=
  ∀ (i : Nat) (o : Oper), ops[i]? = some o → listed.getD i false = true → ∀ e ∈ o.after, Region.binds .any e = true → listed.getD e.on false = true

theorem Fixed.before {bits : List Nat} (hf : Fixed ops bits) {listed : Array Bool} (hc : Closed ops listed) : ∀ (i : Nat) (o : Oper), ops[i]? = some o →
    (∀ e ∈ o.after, Region.binds .any e = true → listed.getD e.on false = true) → ∀ j, has (bits.getD i 0) j = true → listed.getD j false = true := by
  intro i
  induction i using Nat.strongRecOn with
  | _ i ih =>
    intro o ho hall j hj
    obtain ⟨e, he, hb, hx⟩ := (hf.bit i o ho j).1 hj
    rcases hx with rfl | hx
    · exact hall e he hb
    · have hlt := hf.edge i o ho e he hb
      have hi : i < ops.size := (Array.getElem?_eq_some_iff.1 ho).1
      have hp : ops[e.on]? = some ops[e.on] := Array.getElem?_eq_getElem (by omega)
      exact ih e.on hlt ops[e.on] hp (hc e.on _ hp (hall e he hb)) j hx

theorem Fixed.beforeD {bits : List Nat} (hf : Fixed ops bits) {listed : Array Bool} (hc : Closed ops listed) {i : Nat} {o : Oper} (ho : ops[i]? = some o) (hl : listed.getD i false = true)
    {j : Nat} (hj : has (bits.getD i 0) j = true) : listed.getD j false = true := hf.before hc i o ho (hc i o ho hl) j hj

theorem ready_exists {bits : List Nat} (hf : Fixed ops bits) {listed : Array Bool} (hsz : listed.size = ops.size) : ∀ i, i < ops.size → listed.getD i false = false → Region.ready .any ops listed ≠ [] := by
  intro i
  induction i using Nat.strongRecOn with
  | _ i ih =>
    intro hi hl
    have ho : ops[i]? = some ops[i] := Array.getElem?_eq_getElem hi
    by_cases hall : ∀ e ∈ ops[i].after, Region.binds .any e = true → listed.getD e.on false = true
    · intro hr
      have : i ∈ Region.ready .any ops listed := mem_ready.2 ⟨by
        have hlt : i < listed.size := by omega
        simp [hlt] at hl ⊢
        exact hl, ops[i], ho, hall⟩
      rw [hr] at this
      cases this
    · simp only [Classical.not_forall] at hall
      obtain ⟨e, he, hb, hx⟩ := hall
      have hlt := hf.edge i _ ho e he hb
      exact ih e.on hlt (by omega) (by simpa using hx)
end
end Go.Sx
