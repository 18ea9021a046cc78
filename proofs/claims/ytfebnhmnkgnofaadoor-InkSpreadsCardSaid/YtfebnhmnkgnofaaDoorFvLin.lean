/-
  Operations whose result is fixed by the state.
-/
import Derived.Test.YtfebnhmnkgnofaaDoorFvLex
namespace Go.Fv
open Go.RowKit
set_option linter.unusedVariables false
set_option linter.unusedSimpArgs false
set_option linter.unnecessarySimpa false

def Lin (F : (AV → S → Prop) → Prop) : Prop := ∀ K, F K → ∃ v s', K v s' ∧ ∀ K' : AV → S → Prop, K' v s' → F K'
theorem Lin.pure (v : AV) (s : S) : Lin (fun K => K v s) := fun K h => ⟨v, s, h, fun _ h => h⟩
theorem Lin.no : Lin (fun _ => False) := fun _ h => h.elim
theorem Lin.chk {p : Prop} {F : (AV → S → Prop) → Prop} (h : Lin F) : Lin (fun K => Chk p (F K)) := fun K hk => by
  obtain ⟨v, s, h1, h2⟩ := h K hk.2
  exact ⟨v, s, h1, fun K' hk' => ⟨hk.1, h2 K' hk'⟩⟩
theorem Lin.letw {k : IntKind} {e : Int} (s : S) : Lin (fun K => LetW k e (fun n => K (.int k n) s)) := fun K h =>
  ⟨.int k (k.wrap e), s, h _ rfl (InK_wrap _ _), fun K' hk' n hn _ => by subst hn; exact hk'⟩

section
variable {P : Program} {w0 : World} {T0 : Nat → Prop} {s : S}
theorem lin_box (e : TypeId) (x : Operand) : Lin (vcBox e x s) := by
  intro K h
  unfold vcBox at h ⊢
  cases hb : boxable (s.ev x) with
  | none => rw [hb] at h; exact h.elim
  | some cs => rw [hb] at h; exact (Lin.pure _ _).chk K h
theorem lin_alloc (e : TypeId) : Lin (vcAlloc P e s) := by
  intro K h
  unfold vcAlloc at h ⊢
  cases hb : zeroOf P e with
  | none => rw [hb] at h; exact h.elim
  | some z => rw [hb] at h; exact (Lin.pure _ _).chk K h
theorem lin_store (t : TypeId) (x v : Operand) : Lin (vcStore P t x v s) := by
  intro K h
  unfold vcStore at h ⊢
  cases hb : boxable (s.ev v) with
  | none => rw [hb] at h; exact h.elim
  | some cs =>
    rw [hb] at h
    refine (Lin.chk ?_) K h
    intro K h
    cases hx : s.ev x <;> rw [hx] at h <;> try (exact h.elim)
    · rename_i i off
      dsimp only at h ⊢
      cases hl : lk s.rows i with
      | none => rw [hl] at h; exact h.elim
      | some it => cases it with
        | row e r => rw [hl] at h; exact h.elim
        | box e bs => rw [hl] at h; exact (Lin.pure _ _).chk K h
    · rename_i i sz idx off
      dsimp only at h ⊢
      cases hl : lk s.rows i with
      | none => rw [hl] at h; exact h.elim
      | some it => cases it with
        | box e bs => rw [hl] at h; exact h.elim
        | row e r =>
          rw [hl] at h
          refine (Lin.chk ?_) K h
          intro K h
          cases hq : setElem r idx off cs with
          | none => rw [hq] at h; exact h.elim
          | some r' => rw [hq] at h; exact (Lin.pure _ _) K h
theorem lin_make (t : TypeId) (l c : Operand) : Lin (vcMake P t l c s) := by
  intro K h
  unfold vcMake at h ⊢
  split at h
  · rename_i e k n k2 n2 h1 h2 h3
    cases hz : zeroOf P e with
    | none => rw [hz] at h; exact h.elim
    | some z => rw [hz] at h; exact (Lin.pure _ _).chk.chk K h
  · exact h.elim
theorem lin_buildSlice (t : TypeId) (len : Nat) (parts : Array (Nat × Operand)) : Lin (vcBuildSlice P t len parts s) := by
  intro K h
  unfold vcBuildSlice at h ⊢
  split at h
  · rename_i e h1
    cases hz : zeroOf P e with
    | none => rw [hz] at h; exact h.elim
    | some z =>
      rw [hz] at h
      refine (Lin.chk (Lin.chk ?_)) K h
      intro K h
      split at h
      · rename_i r hr; exact Lin.pure _ _ K h
      · exact h.elim
  · exact h.elim
theorem lin_build (t : TypeId) (parts : Array (Nat × Operand)) : Lin (vcBuild P t parts s) := by
  intro K h
  unfold vcBuild at h ⊢
  split at h
  · rename_i d z h1 h2
    refine (Lin.chk (Lin.chk ?_)) K h
    intro K h
    split at h
    · rename_i r hr; exact Lin.pure _ _ K h
    · exact h.elim
  · exact h.elim
theorem lin_makeFunc (fn : Fn) (first caps : Array Operand) : Lin (vcMakeFunc fn first caps s) := by
  intro K h
  unfold vcMakeFunc at h ⊢
  split at h
  · exact (Lin.pure _ _).chk K h
  · exact h.elim
theorem lin_append (t t2 : TypeId) (x y : Operand) : Lin (vcAppend P t t2 x y s) := by
  intro K h
  unfold vcAppend at h ⊢
  split at h
  · rename_i e i h1 h2
    split at h
    · rename_i e' r h3
      split at h
      · rename_i r2 h4
        split at h
        · rename_i r3 h5
          split at h
          · rename_i z h6
            exact (Lin.pure _ _).chk.chk.chk K h
          · exact h.elim
        · exact h.elim
      · exact h.elim
    · exact h.elim
  · exact h.elim
theorem lin_nil (x : Operand) : Lin (vcNil x s) := by
  intro K h
  unfold vcNil at h ⊢
  split at h
  all_goals first | exact h.elim | (rename_i hx; exact Lin.pure _ _ K h)
theorem lin_extract (x : Operand) (i : Nat) : Lin (vcExtract x i s) := by
  intro K h
  unfold vcExtract at h ⊢
  split at h
  · rename_i l hx
    split at h
    · rename_i v hv; exact Lin.pure _ _ K h
    · exact h.elim
  · exact h.elim
theorem lin_un (op : UnOp) (x : Operand) : Lin (vcUn op x s) := by
  intro K h
  unfold vcUn at h ⊢
  cases hx : s.ev x <;> rw [hx] at h <;> try (exact h.elim)
  · cases op <;> first | exact h.elim | exact Lin.pure _ _ K h
  · cases op <;> first | exact h.elim | exact Lin.letw _ K h
theorem lin_conv (a b : TypeId) (x : Operand) : Lin (vcConv P a b x s) := by
  intro K h
  unfold vcConv at h ⊢
  split at h
  · rename_i d1 d2 h1 h2
    cases d2 <;> try (exact h.elim)
    · cases hx : s.ev x <;> rw [hx] at h <;> try (exact h.elim)
      exact Lin.letw _ K h
    · cases hx : s.ev x <;> rw [hx] at h <;> try (exact h.elim)
      · exact Lin.pure _ _ K h
      · rename_i r
        cases r <;> try (exact h.elim)
        rename_i k l
        cases k <;> try (exact h.elim)
        cases d1 <;> try (exact h.elim)
        exact (Lin.pure _ _).chk K h
      · rename_i i
        dsimp only at h ⊢
        split at h
        · rename_i l e h3 ; exact (Lin.pure _ _).chk K h
        · exact h.elim
  · exact h.elim
theorem lin_mm (m : Bool) (xs : List AV) : Lin (fun K => vcMM m xs (fun r => K r s)) := by
  intro K h
  unfold vcMM at h ⊢
  split at h
  · exact (Lin.pure _ s).chk K h
  · exact (Lin.pure _ s).chk K h
  · exact h.elim
theorem lin_move (t : TypeId) (x : Operand) : Lin (vcMove P t x s) := by
  intro K h
  unfold vcMove at h ⊢
  split at h
  · split at h
    · rename_i e h1
      split at h
      · rename_i z h2; exact (Lin.pure _ _).chk K h
      · exact h.elim
    · exact h.elim
  · exact (Lin.pure _ _).chk K h
  · rename_i h1 h2
    exact (Lin.pure _ _).chk K h

theorem lin_op {o : Oper} (hl : isLin o.op = true) : Lin (vcOp P w0 T0 o s) := by
  intro K h
  unfold vcOp at h ⊢
  cases ho : o.op <;> rw [ho] at h hl <;> try (cases hl; done)
  case move x => exact lin_move _ _ K h
  case assign x => exact lin_move _ _ K h
  case extract x i => exact (lin_extract x i).chk K h
  case makeFunc fn first caps => exact lin_makeFunc _ _ _ K h
  case box e x => exact lin_box _ _ K h
  case alloc e => exact lin_alloc _ K h
  case store t x v => exact (lin_store t x v).chk K h
  case nilCheck x => exact (lin_nil x).chk K h
  case makeSlice t l c => exact (lin_make t l c).chk K h
  case unOp op t x => exact (lin_un op x).chk K h
  case convert t t' x => exact (lin_conv t t' x).chk K h
  case buildSlice t len parts => exact lin_buildSlice _ _ _ K h
  case build t parts => exact lin_build _ _ K h
  case call c =>
    obtain ⟨callee, args, argTypes⟩ := c
    dsimp only [isLin] at hl
    dsimp only [vcCallOp] at h ⊢
    cases callee with
    | builtin b =>
      cases b <;> try (cases hl; done)
      case append =>
        dsimp only at h ⊢
        split at h
        · rename_i x y t t2 h1 h2
          exact (lin_append t t2 x y).chk K h
        · exact h.elim
      case min => exact (lin_mm false _).chk K h
      case max => exact (lin_mm true _).chk K h
    | _ => cases hl
end
end Go.Fv
