/- WholeLabels: loops and functions do what is said. -/
import Derived.Test.YtkgmobbbcigcjaaGreatDoorLMain2
import Derived.Test.YtkgmobbbcigcjaaGreatDoorLLeaf1
namespace Go.Sx.L
set_option linter.unusedVariables false
open Go Go.Sx

theorem enter : ∀ f fn', P.funcs[f]? = some fn' → fn'.body.isSome = true → ∀ args w, (callFunc f args).run P w = .ok (.enter f args) w := enter_ok names_ok

theorem spec_inv {b : Nat} (hb : b < 64) : ∀ vs, (false = true) ∨ (fn b vs).i ≠ 0 → (does b).Inv vs := fun vs h => by
  rcases h with h | h
  · cases h
  · exact (fn_inv hb vs).1 h

theorem call0 {ρ : Rho} {Ψ : Leaf → Prop} (d : Nat) : CallSound ρ P Ψ (call P ck0 tab0 id d) :=
  call_sound follows enter (bad_sound 77) id_sound (fun _ _ _ _ _ _ _ _ _ h => (by cases h)) d

section
variable {S : LoopSpec} {f key nt : Nat} {Inv : List SV → Prop} {R : List SV → Nat × (Nat → SV)} {T : Tr Leaf}
/-- A loop without loops and functions that are known. -/
theorem lone (fu d : Nat) (μ : List SV → Nat) (hbd : boundH S = true) (hop : opqOK S = true)
    (htree : exec P (call P ck0 tab0 id d) (tab0 f) nt fu (bodyAt P f key) S.H.tmv S.H.hs [] (leafS S) = T)
    (hT : ∀ ρ : Rho, ρ.fn = fn → Inv (S.vals ρ) → T.holds ρ (LeafOK S Inv R μ ρ))
    (hinv : ∀ vs, S.free = true ∨ (fn S.inv vs).i ≠ 0 → Inv vs) (hkind : ∀ vs j, (fn (S.kind j) vs).i ≠ 0 ↔ (R vs).1 = j) (houts : ∀ vs j i, (R vs).1 = j → fn (S.outs j i) vs = (R vs).2 i) :
    LoopOK P nt (bodyAt P f key) S fn Inv R :=
  loop_ok (ck := call P ck0 tab0 id d) (lt := tab0 f) (findH := findP S.H) (findX := exitP S) (exitNo := exitNo S) μ fu follows hbd hop (fun ρ hf hI => ⟨by
    have := hT ρ hf hI
    rw [← htree] at this
    exact this, call0 d, fun _ _ _ _ h => (by cases h)⟩) hinv hkind houts
end

theorem eq_ok : LoopOK P 26 (bodyAt P 16 5) eqS fn eqInv eqR :=
  lone 1000 20 eqMu rfl rfl eq_tree (fun ρ _ hI => eq_leaves ρ hI) (spec_inv (b := 0) (by omega)) (fun vs j => fn_kind (b := 0) (by omega) j vs) (fun vs _ i _ => fn_outs (b := 0) (by omega) i vs)
theorem join_ok : LoopOK P 29 (bodyAt P 24 4) joinS fn foldInv (foldR .or) :=
  lone 1000 20 foldMu rfl rfl join_tree (fun ρ _ hI => join_leaves ρ hI) (spec_inv (b := 1) (by omega)) (fun vs j => fn_kind (b := 1) (by omega) j vs) (fun vs _ i _ => fn_outs (b := 1) (by omega) i vs)
theorem meet_ok : LoopOK P 29 (bodyAt P 24 4) meetS fn foldInv (foldR .and) :=
  lone 1000 20 foldMu rfl rfl meet_tree (fun ρ _ hI => meet_leaves ρ hI) (spec_inv (b := 2) (by omega)) (fun vs j => fn_kind (b := 2) (by omega) j vs) (fun vs _ i _ => fn_outs (b := 2) (by omega) i vs)
theorem under_ok : LoopOK P 23 (bodyAt P 17 5) underS fn underInv underR :=
  lone 1000 20 underMu rfl rfl under_tree (fun ρ _ hI => under_leaves ρ hI) (spec_inv (b := 3) (by omega)) (fun vs j => fn_kind (b := 3) (by omega) j vs) (fun vs _ i _ => fn_outs (b := 3) (by omega) i vs)
theorem low_ok : LoopOK P 250 (bodyAt P 3 41) lowS fn lowInv lowR :=
  lone 1000 20 lowMu rfl rfl low_tree (fun ρ _ hI => low_leaves ρ hI) (spec_inv (b := 4) (by omega)) (fun vs j => fn_kind (b := 4) (by omega) j vs) (fun vs _ i _ => fn_outs (b := 4) (by omega) i vs)
theorem let_ok : LoopOK P 22 (bodyAt P 8 4) letS fn letInv letR :=
  lone 1000 20 letMu rfl rfl let_tree (fun ρ _ hI => let_leaves ρ hI) (spec_inv (b := 6) (by omega)) (fun vs j => fn_kind (b := 6) (by omega) j vs) (fun vs _ i _ => fn_outs (b := 6) (by omega) i vs)
theorem byt_ok : LoopOK P 21 (bodyAt P 22 4) bytS fn bytInv bytR :=
  lone 1000 20 bytMu rfl rfl byt_tree (fun ρ _ hI => byt_leaves ρ hI) (spec_inv (b := 7) (by omega)) (fun vs j => fn_kind (b := 7) (by omega) j vs) (fun vs _ i _ => fn_outs (b := 7) (by omega) i vs)
theorem par_ok : LoopOK P 39 (bodyAt P 7 6) parS fn parInv parR :=
  lone 1000 20 parMu rfl rfl par_tree (fun ρ _ hI => par_leaves ρ hI) (spec_inv (b := 8) (by omega)) (fun vs j => fn_kind (b := 8) (by omega) j vs) (fun vs _ i _ => fn_outs (b := 8) (by omega) i vs)
theorem cnt_ok : LoopOK P 16 (bodyAt P 10 5) cntS fn cntInv cntR :=
  lone 1000 20 cntMu rfl rfl cnt_tree (fun ρ _ hI => cnt_leaves ρ hI) (spec_inv (b := 9) (by omega)) (fun vs j => fn_kind (b := 9) (by omega) j vs) (fun vs _ i _ => fn_outs (b := 9) (by omega) i vs)

/-! ### Where they stand -/
def ntOf (P : Program) (f : Nat) : Nat := match P.funcs[f]? with
  | some fn => fn.ntmps
  | none => 0
theorem ntOf_eq {P : Program} {f : Nat} {fn' : Func} (h : P.funcs[f]? = some fn') : fn'.ntmps = ntOf P f := by unfold ntOf; rw [h]

theorem one_8 : isOne P 8 4 = true := by kernel_rfl
theorem one_22 : isOne P 22 4 = true := by kernel_rfl
theorem one_7 : isOne P 7 6 = true := by kernel_rfl
theorem one_10 : isOne P 10 5 = true := by kernel_rfl
theorem one_16 : isOne P 16 5 = true := by kernel_rfl
theorem one_24 : isOne P 24 4 = true := by kernel_rfl
theorem one_17 : isOne P 17 5 = true := by kernel_rfl
theorem one_3a : isOne P 3 41 = true := by kernel_rfl
theorem one_3b : isOne P 3 8 = true := by kernel_rfl
theorem nt_8 : ntOf P 8 = 22 := by kernel_rfl
theorem nt_22 : ntOf P 22 = 21 := by kernel_rfl
theorem nt_7 : ntOf P 7 = 39 := by kernel_rfl
theorem nt_10 : ntOf P 10 = 16 := by kernel_rfl
theorem nt_16 : ntOf P 16 = 26 := by kernel_rfl
theorem nt_24 : ntOf P 24 = 29 := by kernel_rfl
theorem nt_17 : ntOf P 17 = 23 := by kernel_rfl
theorem nt_3 : ntOf P 3 = 250 := by kernel_rfl

theorem here {ρ : Rho} {α : Type} {Ψ : α → Prop} {f key nt : Nat} {F : LoopFn α} {fn' : Func} {c b : Code} (hone : isOne P f key = true) (hnt : ntOf P f = nt) (hf : P.funcs[f]? = some fn') (hc : fn'.body = some c) (hb : b ∈ loopsOf c) (hk : loopKey b = key)
    (h : LoopSound ρ P nt Ψ (bodyAt P f key) F) : LoopSound ρ P fn'.ntmps Ψ b F := by
  rw [ntOf_eq hf, hnt, bodyAt_eq hone hf hc hb hk]
  exact h

theorem tab1_ok {ρ : Rho} {Ψ : Leaf → Prop} (hf : ρ.fn = fn) : ∀ f fn' c, P.funcs[f]? = some fn' → fn'.body = some c → ∀ b ∈ loopsOf c, ∀ tm0 F, tab1 f (loopKey b) tm0 = some F → LoopSound ρ P fn'.ntmps Ψ b F := by
  intro f fn' c hfn hc b hb tm0 F hF
  unfold tab1 at hF
  split at hF
  · rename_i hk
    injection hF with hF; subst hF
    exact here one_8 nt_8 hfn hc hb hk (loopK_sound (hf ▸ let_ok))
  · rename_i hk
    injection hF with hF; subst hF
    exact here one_22 nt_22 hfn hc hb hk (coeK_sound _ (loopK_sound (hf ▸ byt_ok)))
  · rename_i hk
    injection hF with hF; subst hF
    exact here one_7 nt_7 hfn hc hb hk (loopK_sound (hf ▸ par_ok))
  · rename_i hk
    injection hF with hF; subst hF
    exact here one_10 nt_10 hfn hc hb hk (loopK_sound (hf ▸ cnt_ok))
  · cases hF

theorem call1 {ρ : Rho} {Ψ : Leaf → Prop} (hf : ρ.fn = fn) (d : Nat) : CallSound ρ P Ψ (call P ck0 tab1 id d) :=
  call_sound follows enter (bad_sound 77) id_sound (tab1_ok hf) d

section
variable {S : LoopSpec} {f ar : Nat} {Inv : List SV → Prop} {R : List SV → Nat × (Nat → SV)} {T : Tr Leaf} {args : List AV}
theorem func (d : Nat) (hargs : S.H.tmv.getL 0 ar = some args) (hbd : boundH S = true) (hop : noVal S = true)
    (htree : call P ck0 tab1 id d f args S.H.hs [] (leafF S (exitP S) (fun _ _ => 0)) = T)
    (hT : ∀ ρ : Rho, ρ.fn = fn → Inv (S.vals ρ) → T.holds ρ (LeafOK S Inv R foldMu ρ))
    (hinv : ∀ vs, S.free = true ∨ (fn S.inv vs).i ≠ 0 → Inv vs) (hkind : ∀ vs j, (fn (S.kind j) vs).i ≠ 0 ↔ (R vs).1 = j) (houts : ∀ vs j i, (R vs).1 = j → fn (S.outs j i) vs = (R vs).2 i) :
    FnOK P f ar S fn Inv R :=
  fn_ok (ck := call P ck0 tab1 id d) (findX := exitP S) (exitNo := fun _ _ => 0) foldMu hargs hbd hop (fun ρ hf hI => ⟨by
    have := hT ρ hf hI
    rw [← htree] at this
    exact this, call1 hf d⟩) hinv hkind houts
end
theorem txt_ok : FnOK P 6 1 txtS fn txtInv txtR :=
  func 20 rfl rfl rfl txt_tree txt_leaves (spec_inv (b := 10) (by omega)) (fun vs j => fn_kind (b := 10) (by omega) j vs) (fun vs _ i _ => fn_outs (b := 10) (by omega) i vs)
theorem law_ok : FnOK P 8 1 lawS fn txtInv txtR :=
  func 20 rfl rfl rfl law_tree law_leaves (spec_inv (b := 10) (by omega)) (fun vs j => fn_kind (b := 10) (by omega) j vs) (fun vs _ i _ => fn_outs (b := 10) (by omega) i vs)
theorem ps_ok : FnOK P 7 1 psS fn psInv psR :=
  func 20 rfl rfl rfl ps_tree ps_leaves (spec_inv (b := 11) (by omega)) (fun vs j => fn_kind (b := 11) (by omega) j vs) (fun vs _ i _ => fn_outs (b := 11) (by omega) i vs)
theorem ct_ok : FnOK P 10 1 ctS fn (fun _ => True) ctR :=
  func 20 rfl rfl rfl ct_tree (fun ρ hf _ => ct_leaves ρ hf) (fun _ _ => trivial) (fun vs j => fn_kind (b := 12) (by omega) j vs) (fun vs _ i _ => fn_outs (b := 12) (by omega) i vs)

theorem wrap_ok {ρ : Rho} {α : Type} {Ψ : α → Prop} (hf : ρ.fn = fn) : ∀ ck : CallK α, CallSound ρ P Ψ ck → CallSound ρ P Ψ (wrap ck) := by
  intro ck hck f args hs pc k δ w us R hp hr hv h hk
  unfold wrap at h
  split at h
  · split at h
    · exact fnK_sound (hf ▸ txt_ok) hp hr hv h hk
    · exact hck _ args hs pc k δ w us R hp hr hv h hk
  · split at h
    · exact fnK_sound (hf ▸ law_ok) hp hr hv h hk
    · exact hck _ args hs pc k δ w us R hp hr hv h hk
  · split at h
    · exact hck _ _ hs pc k δ w us R hp hr hv h hk
    · exact fnK_sound (hf ▸ ps_ok) hp hr hv h hk
  · exact fnK_sound (hf ▸ ct_ok) hp hr hv h hk
  · exact hck _ args hs pc k δ w us R hp hr hv h hk

theorem callM {ρ : Rho} {Ψ : Leaf → Prop} (hf : ρ.fn = fn) (d : Nat) : CallSound ρ P Ψ (call P ck0 tab0 wrap d) :=
  call_sound follows enter (bad_sound 77) (wrap_ok hf) (fun _ _ _ _ _ _ _ _ _ h => (by cases h)) d
theorem main_of (fu d : Nat) (htree : exec P (call P ck0 tab0 wrap d) (tab0 3) 250 fu (bodyAt P 3 8) mainS.H.tmv mainS.H.hs [] (leafS mainS) = mainT) : LoopOK P 250 (bodyAt P 3 8) mainS fn mainInv mainR :=
  loop_ok (ck := call P ck0 tab0 wrap d) (lt := tab0 3) (findH := findP mainS.H) (findX := exitP mainS) (exitNo := exitNo mainS) mainMu fu follows rfl rfl (fun ρ hf hI => ⟨by
    have := main_leaves ρ hf hI
    rw [← htree] at this
    exact this, callM hf d, fun _ _ _ _ h => (by cases h)⟩)
    (spec_inv (b := 5) (by omega)) (fun vs j => fn_kind (b := 5) (by omega) j vs) (fun vs _ i _ => fn_outs (b := 5) (by omega) i vs)
theorem main_ok : LoopOK P 250 (bodyAt P 3 8) mainS fn mainInv mainR := main_of 1000 20 main_tree
end Go.Sx.L
