/-
  What a function value has captured, where nothing of it is the caller's own memory.
-/
import Derived.Test.YtfebnhmnkgnofaaDoorFvAuto
import Derived.Test.YtfebnhmnkgnofaaDoorFvCalls
namespace Go.Fv
open Go.RowKit
set_option linter.unusedVariables false

def lendB : Nat → AV → Bool
  | 0, _ => false
  | n + 1, x => match x with
    | .agg cs => cs.all (lendB n)
    | .fn _ cs => cs.all (lendB n)
    | .ro _ => true
    | .bool _ => true
    | .int _ _ => true
    | .str _ => true
    | .raw _ => true
    | .cell _ => true
    | .nilS => true
    | _ => false

theorem noIdL_all : ∀ {l : List AV}, (∀ x, x ∈ l → noId x = true) → noIdL l = true
  | [], _ => rfl
  | x :: l, h => by simp only [noIdL, Bool.and_eq_true]; exact ⟨h x (.head _), noIdL_all fun y hy => h y (.tail _ hy)⟩
theorem lendB_noId : ∀ (n : Nat) (x : AV), lendB n x = true → noId x = true
  | 0, x, h => by simp [lendB] at h
  | n + 1, x, h => by
    cases x <;> simp only [lendB] at h <;> first | rfl | (cases h; done) | skip
    · simp only [noId]; exact noIdL_all fun y hy => lendB_noId n y (List.all_eq_true.1 h y hy)
    · simp only [noId]; exact noIdL_all fun y hy => lendB_noId n y (List.all_eq_true.1 h y hy)
theorem allOk_same {R : AV → AV → Prop} : ∀ {l : List AV}, (∀ x, x ∈ l → R x x) → allOk R l l
  | [], _ => rfl
  | x :: l, h => ⟨x, l, h x (.head _), allOk_same fun y hy => h y (.tail _ hy), rfl⟩
theorem lendB_ok (rows : List (Nat × Item)) : ∀ (n : Nat) (x : AV), lendB n x = true → argOkN rows n x x
  | 0, x, h => by simp [lendB] at h
  | n + 1, x, h => by
    cases x <;> simp only [lendB] at h <;> first | (cases h; done) | skip
    all_goals first | (simp only [argOkN]; done) | (simp only [argOkN]; exact .inl trivial) | (simp only [argOkN]; exact ⟨_, allOk_same fun y hy => lendB_ok rows n y (List.all_eq_true.1 h y hy), rfl⟩) | skip

class CapsOk (caps : List AV) : Prop where
  ok : caps.all (lendB 5) = true
section
variable {caps : List AV} [h : CapsOk caps]
theorem caps_noId : noIdL caps = true := noIdL_all fun x hx => lendB_noId 5 x (List.all_eq_true.1 h.ok x hx)
theorem lendB_up : ∀ (n : Nat) (x : AV), lendB n x = true → lendB (n + 1) x = true
  | 0, x, h => by simp [lendB] at h
  | n + 1, x, h => by
    cases x <;> simp only [lendB] at h ⊢ <;> first | (cases h; done) | rfl | skip
    · exact List.all_eq_true.2 fun y hy => lendB_up n y (List.all_eq_true.1 h y hy)
    · exact List.all_eq_true.2 fun y hy => lendB_up n y (List.all_eq_true.1 h y hy)
theorem renL_caps (p : Nat → Nat) : renL p caps = caps := noIdL_ren p caps caps_noId
theorem belowL_caps (n : Nat) : belowL n caps = true := noIdL_below n caps caps_noId
theorem allOk_caps (rows : List (Nat × Item)) : allOk (argOkN rows 6) caps caps := allOk_same fun x hx => lendB_ok rows 6 x (lendB_up 5 x (List.all_eq_true.1 h.ok x hx))
theorem allOk_caps5 (rows : List (Nat × Item)) : allOk (argOkN rows 5) caps caps := allOk_same fun x hx => lendB_ok rows 5 x (List.all_eq_true.1 h.ok x hx)
end
mutual
theorem mkV_noId : ∀ (x y : AV), noId x = true → mkV x y = []
  | .own _, _, h => by simp [noId] at h
  | .ptr _ _, _, h => by simp [noId] at h
  | .elt _ _ _ _, _, h => by simp [noId] at h
  | .agg l, y, h => by simp only [mkV]; split <;> first | exact mkL_noId l _ (by simpa [noId] using h) | rfl
  | .tup l, y, h => by simp only [mkV]; split <;> first | exact mkL_noId l _ (by simpa [noId] using h) | rfl
  | .fn _ l, y, h => by simp only [mkV]; split <;> first | exact mkL_noId l _ (by simpa [noId] using h) | rfl
  | .dead, _, _ => rfl
  | .nilS, _, _ => rfl
  | .bool _, _, _ => rfl
  | .int _ _, _, _ => rfl
  | .str _, _, _ => rfl
  | .ro _, _, _ => rfl
  | .cell _, _, _ => rfl
  | .raw _, _, _ => rfl
  | .opt _ x, y, h => by simp only [mkV]; split <;> first | exact mkV_noId x _ (by simpa [noId] using h) | rfl
theorem mkL_noId : ∀ (x y : List AV), noIdL x = true → mkL x y = []
  | [], _, _ => rfl
  | x :: l, y, h => by
    simp only [noIdL, Bool.and_eq_true] at h
    simp only [mkL]; split
    · rw [mkV_noId x _ h.1, mkL_noId l _ h.2]; rfl
    · rfl
end
theorem mkL_caps {caps : List AV} [h : CapsOk caps] (y : List AV) : mkL caps y = [] := mkL_noId caps y caps_noId
end Go.Fv
