/-
  A part of the proof of the claim: walks over the program's functions and the plain laws that these need. No condition of its own.
-/
import Derived.Test.YtingcghleidhmaaDoorPOrdersMatchCardPart1
import Derived.Test.YtingcghleidhmaaDoorFvPart9
/- What is right of boxes, and how far they are apart: the walk. -/
namespace Go.Fv.P
open Go Go.Proofs
set_option linter.unusedSimpArgs false
set_option linter.unusedVariables false
set_option linter.unnecessarySimpa false
set_option maxRecDepth 8000

theorem boxErr_bad {b : Bx} (h : ¬ BxOk b) : boxErr b = 3 := (boxErr_cases b).resolve_left fun e => h (boxErr_zero.1 e)
theorem place_ok (n : Int) : FnOk Tryd.prog 127 [.int .i64 n] (.bool (decide (-1048576 ≤ n ∧ n ≤ 1048576))) [] := by
  refine FnOk.of_vc Tryd.func127 rfl (by decide) (by simp [Tryd.f127]) [.tmp 2] rfl fun w0 T0 _ => ?_
  simp only [Tryd.f127, argEnv]
  (repeat' first | with_reducible (first | intro _ | refine rc ?_ | refine rl ?_ | refine rh ?_ | refine rt ?_ | refine rf ?_ | refine rs ?_ | refine And.intro ?_ ?_) | omega | simp (maxSteps := 1000000) only [go_sem, simprocAttr, ↓reduceIte])
  refine Ret.auto 0 ?_ rfl ?_ <;> simp only [go_sem, reduceCtorEq, reduceIte, Nat.reduceEqDiff, Nat.reduceLT, Nat.reduceLeDiff, Int.natCast_succ, Post]
theorem side_ok (n : Int) : FnOk Tryd.prog 128 [.int .i64 n] (.bool (decide (1 ≤ n ∧ n ≤ 1048576))) [] := by
  refine FnOk.of_vc Tryd.func128 rfl (by decide) (by simp [Tryd.f128]) [.tmp 2] rfl fun w0 T0 _ => ?_
  simp only [Tryd.f128, argEnv]
  (repeat' first | with_reducible (first | intro _ | refine rc ?_ | refine rl ?_ | refine rh ?_ | refine rt ?_ | refine rf ?_ | refine rs ?_ | refine And.intro ?_ ?_) | omega | simp (maxSteps := 1000000) only [go_sem, simprocAttr, ↓reduceIte])
  refine Ret.auto 0 ?_ rfl ?_ <;> simp only [go_sem, reduceCtorEq, reduceIte, Nat.reduceEqDiff, Nat.reduceLT, Nat.reduceLeDiff, Int.natCast_succ, Post]
theorem far_ok (n lo : Int) : FnOk Tryd.prog 110 [.int .i64 n, .int .i64 lo] (.bool (decide (n < lo ∨ 1048576 < n))) [] := by
  refine FnOk.of_vc Tryd.func110 rfl (by decide) (by simp [Tryd.f110]) [.tmp 4] rfl fun w0 T0 _ => ?_
  simp only [Tryd.f110, argEnv]
  (repeat' first | with_reducible (first | intro _ | refine rc ?_ | refine rl ?_ | refine rh ?_ | refine rt ?_ | refine rf ?_ | refine rs ?_ | refine And.intro ?_ ?_) | omega | simp (maxSteps := 1000000) only [go_sem, simprocAttr, ↓reduceIte])
  refine Ret.auto 0 ?_ rfl ?_ <;> simp only [go_sem, reduceCtorEq, reduceIte, Nat.reduceEqDiff, Nat.reduceLT, Nat.reduceLeDiff, Int.natCast_succ, Post]
set_option maxHeartbeats 4000000 in
theorem checkBox_ok (b : Bx) : FnOk Tryd.prog 106 [.agg b.av] (.int .i64 (boxErr b)) [] := by
  obtain ⟨x, y, w, h⟩ := b
  have k0 := place_ok x
  have k1 := place_ok y
  have k2 := side_ok w
  have k3 := side_ok h
  unfold Bx.av
  by_cases h0 : -1048576 ≤ x ∧ x ≤ 1048576
  case neg =>
    rw [boxErr_bad (show ¬ BxOk ⟨x, y, w, h⟩ from fun q => h0 q.1)]
    rw [decide_eq_false h0] at k0
    refine FnOk.of_vc Tryd.func106 rfl (by decide) (by simp [Tryd.f106]) [.tmp 2] rfl fun w0 T0 _ => ?_
    simp only [Tryd.f106, argEnv]
    (repeat' first | with_reducible (first | intro _ | refine rc ?_ | refine rl ?_ | refine rh ?_ | refine rt ?_ | refine rf ?_ | refine rs ?_ | refine And.intro ?_ ?_) | omega | simp (maxSteps := 1000000) only [go_sem, simprocAttr, ↓reduceIte])
    refine VcCall.k (k0) ?_
    (repeat' first | with_reducible (first | intro _ | refine rc ?_ | refine rl ?_ | refine rh ?_ | refine rt ?_ | refine rf ?_ | refine rs ?_ | refine And.intro ?_ ?_) | omega | simp (maxSteps := 1000000) only [go_sem, simprocAttr, ↓reduceIte])
    refine Ret.auto 0 ?_ rfl ?_ <;> simp only [go_sem, reduceCtorEq, reduceIte, Nat.reduceEqDiff, Nat.reduceLT, Nat.reduceLeDiff, Int.natCast_succ, Post]
  by_cases h1 : -1048576 ≤ y ∧ y ≤ 1048576
  case neg =>
    rw [boxErr_bad (show ¬ BxOk ⟨x, y, w, h⟩ from fun q => h1 q.2.1)]
    rw [decide_eq_true h0] at k0
    rw [decide_eq_false h1] at k1
    refine FnOk.of_vc Tryd.func106 rfl (by decide) (by simp [Tryd.f106]) [.tmp 2] rfl fun w0 T0 _ => ?_
    simp only [Tryd.f106, argEnv]
    (repeat' first | with_reducible (first | intro _ | refine rc ?_ | refine rl ?_ | refine rh ?_ | refine rt ?_ | refine rf ?_ | refine rs ?_ | refine And.intro ?_ ?_) | omega | simp (maxSteps := 1000000) only [go_sem, simprocAttr, ↓reduceIte])
    refine VcCall.k (k0) ?_
    (repeat' first | with_reducible (first | intro _ | refine rc ?_ | refine rl ?_ | refine rh ?_ | refine rt ?_ | refine rf ?_ | refine rs ?_ | refine And.intro ?_ ?_) | omega | simp (maxSteps := 1000000) only [go_sem, simprocAttr, ↓reduceIte])
    refine VcCall.k (k1) ?_
    (repeat' first | with_reducible (first | intro _ | refine rc ?_ | refine rl ?_ | refine rh ?_ | refine rt ?_ | refine rf ?_ | refine rs ?_ | refine And.intro ?_ ?_) | omega | simp (maxSteps := 1000000) only [go_sem, simprocAttr, ↓reduceIte])
    refine Ret.auto 0 ?_ rfl ?_ <;> simp only [go_sem, reduceCtorEq, reduceIte, Nat.reduceEqDiff, Nat.reduceLT, Nat.reduceLeDiff, Int.natCast_succ, Post]
  by_cases h2 : 1 ≤ w ∧ w ≤ 1048576
  case neg =>
    rw [boxErr_bad (show ¬ BxOk ⟨x, y, w, h⟩ from fun q => h2 q.2.2.1)]
    rw [decide_eq_true h0] at k0
    rw [decide_eq_true h1] at k1
    rw [decide_eq_false h2] at k2
    refine FnOk.of_vc Tryd.func106 rfl (by decide) (by simp [Tryd.f106]) [.tmp 2] rfl fun w0 T0 _ => ?_
    simp only [Tryd.f106, argEnv]
    (repeat' first | with_reducible (first | intro _ | refine rc ?_ | refine rl ?_ | refine rh ?_ | refine rt ?_ | refine rf ?_ | refine rs ?_ | refine And.intro ?_ ?_) | omega | simp (maxSteps := 1000000) only [go_sem, simprocAttr, ↓reduceIte])
    refine VcCall.k (k0) ?_
    (repeat' first | with_reducible (first | intro _ | refine rc ?_ | refine rl ?_ | refine rh ?_ | refine rt ?_ | refine rf ?_ | refine rs ?_ | refine And.intro ?_ ?_) | omega | simp (maxSteps := 1000000) only [go_sem, simprocAttr, ↓reduceIte])
    refine VcCall.k (k1) ?_
    (repeat' first | with_reducible (first | intro _ | refine rc ?_ | refine rl ?_ | refine rh ?_ | refine rt ?_ | refine rf ?_ | refine rs ?_ | refine And.intro ?_ ?_) | omega | simp (maxSteps := 1000000) only [go_sem, simprocAttr, ↓reduceIte])
    refine VcCall.k (k2) ?_
    (repeat' first | with_reducible (first | intro _ | refine rc ?_ | refine rl ?_ | refine rh ?_ | refine rt ?_ | refine rf ?_ | refine rs ?_ | refine And.intro ?_ ?_) | omega | simp (maxSteps := 1000000) only [go_sem, simprocAttr, ↓reduceIte])
    refine Ret.auto 0 ?_ rfl ?_ <;> simp only [go_sem, reduceCtorEq, reduceIte, Nat.reduceEqDiff, Nat.reduceLT, Nat.reduceLeDiff, Int.natCast_succ, Post]
  by_cases h3 : 1 ≤ h ∧ h ≤ 1048576
  case neg =>
    rw [boxErr_bad (show ¬ BxOk ⟨x, y, w, h⟩ from fun q => h3 q.2.2.2)]
    rw [decide_eq_true h0] at k0
    rw [decide_eq_true h1] at k1
    rw [decide_eq_true h2] at k2
    rw [decide_eq_false h3] at k3
    refine FnOk.of_vc Tryd.func106 rfl (by decide) (by simp [Tryd.f106]) [.tmp 2] rfl fun w0 T0 _ => ?_
    simp only [Tryd.f106, argEnv]
    (repeat' first | with_reducible (first | intro _ | refine rc ?_ | refine rl ?_ | refine rh ?_ | refine rt ?_ | refine rf ?_ | refine rs ?_ | refine And.intro ?_ ?_) | omega | simp (maxSteps := 1000000) only [go_sem, simprocAttr, ↓reduceIte])
    refine VcCall.k (k0) ?_
    (repeat' first | with_reducible (first | intro _ | refine rc ?_ | refine rl ?_ | refine rh ?_ | refine rt ?_ | refine rf ?_ | refine rs ?_ | refine And.intro ?_ ?_) | omega | simp (maxSteps := 1000000) only [go_sem, simprocAttr, ↓reduceIte])
    refine VcCall.k (k1) ?_
    (repeat' first | with_reducible (first | intro _ | refine rc ?_ | refine rl ?_ | refine rh ?_ | refine rt ?_ | refine rf ?_ | refine rs ?_ | refine And.intro ?_ ?_) | omega | simp (maxSteps := 1000000) only [go_sem, simprocAttr, ↓reduceIte])
    refine VcCall.k (k2) ?_
    (repeat' first | with_reducible (first | intro _ | refine rc ?_ | refine rl ?_ | refine rh ?_ | refine rt ?_ | refine rf ?_ | refine rs ?_ | refine And.intro ?_ ?_) | omega | simp (maxSteps := 1000000) only [go_sem, simprocAttr, ↓reduceIte])
    refine VcCall.k (k3) ?_
    (repeat' first | with_reducible (first | intro _ | refine rc ?_ | refine rl ?_ | refine rh ?_ | refine rt ?_ | refine rf ?_ | refine rs ?_ | refine And.intro ?_ ?_) | omega | simp (maxSteps := 1000000) only [go_sem, simprocAttr, ↓reduceIte])
    refine Ret.auto 0 ?_ rfl ?_ <;> simp only [go_sem, reduceCtorEq, reduceIte, Nat.reduceEqDiff, Nat.reduceLT, Nat.reduceLeDiff, Int.natCast_succ, Post]
  rw [boxErr_zero.2 (show BxOk ⟨x, y, w, h⟩ from ⟨h0, h1, h2, h3⟩)]
  rw [decide_eq_true h0] at k0
  rw [decide_eq_true h1] at k1
  rw [decide_eq_true h2] at k2
  rw [decide_eq_true h3] at k3
  refine FnOk.of_vc Tryd.func106 rfl (by decide) (by simp [Tryd.f106]) [.tmp 2] rfl fun w0 T0 _ => ?_
  simp only [Tryd.f106, argEnv]
  (repeat' first | with_reducible (first | intro _ | refine rc ?_ | refine rl ?_ | refine rh ?_ | refine rt ?_ | refine rf ?_ | refine rs ?_ | refine And.intro ?_ ?_) | omega | simp (maxSteps := 1000000) only [go_sem, simprocAttr, ↓reduceIte])
  refine VcCall.k (k0) ?_
  (repeat' first | with_reducible (first | intro _ | refine rc ?_ | refine rl ?_ | refine rh ?_ | refine rt ?_ | refine rf ?_ | refine rs ?_ | refine And.intro ?_ ?_) | omega | simp (maxSteps := 1000000) only [go_sem, simprocAttr, ↓reduceIte])
  refine VcCall.k (k1) ?_
  (repeat' first | with_reducible (first | intro _ | refine rc ?_ | refine rl ?_ | refine rh ?_ | refine rt ?_ | refine rf ?_ | refine rs ?_ | refine And.intro ?_ ?_) | omega | simp (maxSteps := 1000000) only [go_sem, simprocAttr, ↓reduceIte])
  refine VcCall.k (k2) ?_
  (repeat' first | with_reducible (first | intro _ | refine rc ?_ | refine rl ?_ | refine rh ?_ | refine rt ?_ | refine rf ?_ | refine rs ?_ | refine And.intro ?_ ?_) | omega | simp (maxSteps := 1000000) only [go_sem, simprocAttr, ↓reduceIte])
  refine VcCall.k (k3) ?_
  (repeat' first | with_reducible (first | intro _ | refine rc ?_ | refine rl ?_ | refine rh ?_ | refine rt ?_ | refine rf ?_ | refine rs ?_ | refine And.intro ?_ ?_) | omega | simp (maxSteps := 1000000) only [go_sem, simprocAttr, ↓reduceIte])
  refine Ret.auto 0 ?_ rfl ?_ <;> simp only [go_sem, reduceCtorEq, reduceIte, Nat.reduceEqDiff, Nat.reduceLT, Nat.reduceLeDiff, Int.natCast_succ, Post]
set_option maxHeartbeats 4000000 in
theorem boxError_ok (b : Bx) : FnOk Tryd.prog 78 [.agg b.av] (.int .i64 (boxErr b)) [] := by
  obtain ⟨x, y, w, h⟩ := b
  have k0 := far_ok x (-1048576)
  have k1 := far_ok y (-1048576)
  have k2 := far_ok w 1
  have k3 := far_ok h 1
  unfold Bx.av
  by_cases h0 : -1048576 ≤ x ∧ x ≤ 1048576
  case neg =>
    rw [boxErr_bad (show ¬ BxOk ⟨x, y, w, h⟩ from fun q => h0 q.1)]
    rw [decide_eq_true (by omega)] at k0
    refine FnOk.of_vc Tryd.func78 rfl (by decide) (by simp [Tryd.f78]) [.tmp 2] rfl fun w0 T0 _ => ?_
    simp only [Tryd.f78, argEnv]
    (repeat' first | with_reducible (first | intro _ | refine rc ?_ | refine rl ?_ | refine rh ?_ | refine rt ?_ | refine rf ?_ | refine rs ?_ | refine And.intro ?_ ?_) | omega | simp (maxSteps := 1000000) only [go_sem, simprocAttr, ↓reduceIte])
    refine VcCall.k (k0) ?_
    (repeat' first | with_reducible (first | intro _ | refine rc ?_ | refine rl ?_ | refine rh ?_ | refine rt ?_ | refine rf ?_ | refine rs ?_ | refine And.intro ?_ ?_) | omega | simp (maxSteps := 1000000) only [go_sem, simprocAttr, ↓reduceIte])
    refine VcCall.k (when_ok true 3) ?_
    (repeat' first | with_reducible (first | intro _ | refine rc ?_ | refine rl ?_ | refine rh ?_ | refine rt ?_ | refine rf ?_ | refine rs ?_ | refine And.intro ?_ ?_) | omega | simp (maxSteps := 1000000) only [go_sem, simprocAttr, ↓reduceIte])
    refine Ret.auto 0 ?_ rfl ?_ <;> simp only [go_sem, reduceCtorEq, reduceIte, Nat.reduceEqDiff, Nat.reduceLT, Nat.reduceLeDiff, Int.natCast_succ, Post]
  by_cases h1 : -1048576 ≤ y ∧ y ≤ 1048576
  case neg =>
    rw [boxErr_bad (show ¬ BxOk ⟨x, y, w, h⟩ from fun q => h1 q.2.1)]
    rw [decide_eq_false (by omega)] at k0
    rw [decide_eq_true (by omega)] at k1
    refine FnOk.of_vc Tryd.func78 rfl (by decide) (by simp [Tryd.f78]) [.tmp 2] rfl fun w0 T0 _ => ?_
    simp only [Tryd.f78, argEnv]
    (repeat' first | with_reducible (first | intro _ | refine rc ?_ | refine rl ?_ | refine rh ?_ | refine rt ?_ | refine rf ?_ | refine rs ?_ | refine And.intro ?_ ?_) | omega | simp (maxSteps := 1000000) only [go_sem, simprocAttr, ↓reduceIte])
    refine VcCall.k (k0) ?_
    (repeat' first | with_reducible (first | intro _ | refine rc ?_ | refine rl ?_ | refine rh ?_ | refine rt ?_ | refine rf ?_ | refine rs ?_ | refine And.intro ?_ ?_) | omega | simp (maxSteps := 1000000) only [go_sem, simprocAttr, ↓reduceIte])
    refine VcCall.k (k1) ?_
    (repeat' first | with_reducible (first | intro _ | refine rc ?_ | refine rl ?_ | refine rh ?_ | refine rt ?_ | refine rf ?_ | refine rs ?_ | refine And.intro ?_ ?_) | omega | simp (maxSteps := 1000000) only [go_sem, simprocAttr, ↓reduceIte])
    refine VcCall.k (when_ok true 3) ?_
    (repeat' first | with_reducible (first | intro _ | refine rc ?_ | refine rl ?_ | refine rh ?_ | refine rt ?_ | refine rf ?_ | refine rs ?_ | refine And.intro ?_ ?_) | omega | simp (maxSteps := 1000000) only [go_sem, simprocAttr, ↓reduceIte])
    refine Ret.auto 0 ?_ rfl ?_ <;> simp only [go_sem, reduceCtorEq, reduceIte, Nat.reduceEqDiff, Nat.reduceLT, Nat.reduceLeDiff, Int.natCast_succ, Post]
  by_cases h2 : 1 ≤ w ∧ w ≤ 1048576
  case neg =>
    rw [boxErr_bad (show ¬ BxOk ⟨x, y, w, h⟩ from fun q => h2 q.2.2.1)]
    rw [decide_eq_false (by omega)] at k0
    rw [decide_eq_false (by omega)] at k1
    rw [decide_eq_true (by omega)] at k2
    refine FnOk.of_vc Tryd.func78 rfl (by decide) (by simp [Tryd.f78]) [.tmp 2] rfl fun w0 T0 _ => ?_
    simp only [Tryd.f78, argEnv]
    (repeat' first | with_reducible (first | intro _ | refine rc ?_ | refine rl ?_ | refine rh ?_ | refine rt ?_ | refine rf ?_ | refine rs ?_ | refine And.intro ?_ ?_) | omega | simp (maxSteps := 1000000) only [go_sem, simprocAttr, ↓reduceIte])
    refine VcCall.k (k0) ?_
    (repeat' first | with_reducible (first | intro _ | refine rc ?_ | refine rl ?_ | refine rh ?_ | refine rt ?_ | refine rf ?_ | refine rs ?_ | refine And.intro ?_ ?_) | omega | simp (maxSteps := 1000000) only [go_sem, simprocAttr, ↓reduceIte])
    refine VcCall.k (k1) ?_
    (repeat' first | with_reducible (first | intro _ | refine rc ?_ | refine rl ?_ | refine rh ?_ | refine rt ?_ | refine rf ?_ | refine rs ?_ | refine And.intro ?_ ?_) | omega | simp (maxSteps := 1000000) only [go_sem, simprocAttr, ↓reduceIte])
    refine VcCall.k (k2) ?_
    (repeat' first | with_reducible (first | intro _ | refine rc ?_ | refine rl ?_ | refine rh ?_ | refine rt ?_ | refine rf ?_ | refine rs ?_ | refine And.intro ?_ ?_) | omega | simp (maxSteps := 1000000) only [go_sem, simprocAttr, ↓reduceIte])
    refine VcCall.k (when_ok true 3) ?_
    (repeat' first | with_reducible (first | intro _ | refine rc ?_ | refine rl ?_ | refine rh ?_ | refine rt ?_ | refine rf ?_ | refine rs ?_ | refine And.intro ?_ ?_) | omega | simp (maxSteps := 1000000) only [go_sem, simprocAttr, ↓reduceIte])
    refine Ret.auto 0 ?_ rfl ?_ <;> simp only [go_sem, reduceCtorEq, reduceIte, Nat.reduceEqDiff, Nat.reduceLT, Nat.reduceLeDiff, Int.natCast_succ, Post]
  by_cases h3 : 1 ≤ h ∧ h ≤ 1048576
  case neg =>
    rw [boxErr_bad (show ¬ BxOk ⟨x, y, w, h⟩ from fun q => h3 q.2.2.2)]
    rw [decide_eq_false (by omega)] at k0
    rw [decide_eq_false (by omega)] at k1
    rw [decide_eq_false (by omega)] at k2
    rw [decide_eq_true (by omega)] at k3
    refine FnOk.of_vc Tryd.func78 rfl (by decide) (by simp [Tryd.f78]) [.tmp 2] rfl fun w0 T0 _ => ?_
    simp only [Tryd.f78, argEnv]
    (repeat' first | with_reducible (first | intro _ | refine rc ?_ | refine rl ?_ | refine rh ?_ | refine rt ?_ | refine rf ?_ | refine rs ?_ | refine And.intro ?_ ?_) | omega | simp (maxSteps := 1000000) only [go_sem, simprocAttr, ↓reduceIte])
    refine VcCall.k (k0) ?_
    (repeat' first | with_reducible (first | intro _ | refine rc ?_ | refine rl ?_ | refine rh ?_ | refine rt ?_ | refine rf ?_ | refine rs ?_ | refine And.intro ?_ ?_) | omega | simp (maxSteps := 1000000) only [go_sem, simprocAttr, ↓reduceIte])
    refine VcCall.k (k1) ?_
    (repeat' first | with_reducible (first | intro _ | refine rc ?_ | refine rl ?_ | refine rh ?_ | refine rt ?_ | refine rf ?_ | refine rs ?_ | refine And.intro ?_ ?_) | omega | simp (maxSteps := 1000000) only [go_sem, simprocAttr, ↓reduceIte])
    refine VcCall.k (k2) ?_
    (repeat' first | with_reducible (first | intro _ | refine rc ?_ | refine rl ?_ | refine rh ?_ | refine rt ?_ | refine rf ?_ | refine rs ?_ | refine And.intro ?_ ?_) | omega | simp (maxSteps := 1000000) only [go_sem, simprocAttr, ↓reduceIte])
    refine VcCall.k (k3) ?_
    (repeat' first | with_reducible (first | intro _ | refine rc ?_ | refine rl ?_ | refine rh ?_ | refine rt ?_ | refine rf ?_ | refine rs ?_ | refine And.intro ?_ ?_) | omega | simp (maxSteps := 1000000) only [go_sem, simprocAttr, ↓reduceIte])
    refine VcCall.k (when_ok true 3) ?_
    (repeat' first | with_reducible (first | intro _ | refine rc ?_ | refine rl ?_ | refine rh ?_ | refine rt ?_ | refine rf ?_ | refine rs ?_ | refine And.intro ?_ ?_) | omega | simp (maxSteps := 1000000) only [go_sem, simprocAttr, ↓reduceIte])
    refine Ret.auto 0 ?_ rfl ?_ <;> simp only [go_sem, reduceCtorEq, reduceIte, Nat.reduceEqDiff, Nat.reduceLT, Nat.reduceLeDiff, Int.natCast_succ, Post]
  rw [boxErr_zero.2 (show BxOk ⟨x, y, w, h⟩ from ⟨h0, h1, h2, h3⟩)]
  rw [decide_eq_false (by omega)] at k0
  rw [decide_eq_false (by omega)] at k1
  rw [decide_eq_false (by omega)] at k2
  rw [decide_eq_false (by omega)] at k3
  refine FnOk.of_vc Tryd.func78 rfl (by decide) (by simp [Tryd.f78]) [.tmp 2] rfl fun w0 T0 _ => ?_
  simp only [Tryd.f78, argEnv]
  (repeat' first | with_reducible (first | intro _ | refine rc ?_ | refine rl ?_ | refine rh ?_ | refine rt ?_ | refine rf ?_ | refine rs ?_ | refine And.intro ?_ ?_) | omega | simp (maxSteps := 1000000) only [go_sem, simprocAttr, ↓reduceIte])
  refine VcCall.k (k0) ?_
  (repeat' first | with_reducible (first | intro _ | refine rc ?_ | refine rl ?_ | refine rh ?_ | refine rt ?_ | refine rf ?_ | refine rs ?_ | refine And.intro ?_ ?_) | omega | simp (maxSteps := 1000000) only [go_sem, simprocAttr, ↓reduceIte])
  refine VcCall.k (k1) ?_
  (repeat' first | with_reducible (first | intro _ | refine rc ?_ | refine rl ?_ | refine rh ?_ | refine rt ?_ | refine rf ?_ | refine rs ?_ | refine And.intro ?_ ?_) | omega | simp (maxSteps := 1000000) only [go_sem, simprocAttr, ↓reduceIte])
  refine VcCall.k (k2) ?_
  (repeat' first | with_reducible (first | intro _ | refine rc ?_ | refine rl ?_ | refine rh ?_ | refine rt ?_ | refine rf ?_ | refine rs ?_ | refine And.intro ?_ ?_) | omega | simp (maxSteps := 1000000) only [go_sem, simprocAttr, ↓reduceIte])
  refine VcCall.k (k3) ?_
  (repeat' first | with_reducible (first | intro _ | refine rc ?_ | refine rl ?_ | refine rh ?_ | refine rt ?_ | refine rf ?_ | refine rs ?_ | refine And.intro ?_ ?_) | omega | simp (maxSteps := 1000000) only [go_sem, simprocAttr, ↓reduceIte])
  refine VcCall.k (when_ok false 3) ?_
  (repeat' first | with_reducible (first | intro _ | refine rc ?_ | refine rl ?_ | refine rh ?_ | refine rt ?_ | refine rf ?_ | refine rs ?_ | refine And.intro ?_ ?_) | omega | simp (maxSteps := 1000000) only [go_sem, simprocAttr, ↓reduceIte])
  refine Ret.auto 0 ?_ rfl ?_ <;> simp only [go_sem, reduceCtorEq, reduceIte, Nat.reduceEqDiff, Nat.reduceLT, Nat.reduceLeDiff, Int.natCast_succ, Post]
set_option maxHeartbeats 2000000 in
theorem checkList_ok (l : List Bx) : FnOk Tryd.prog 65 [.ro (bxs l)] (.int .i64 (if 5000 < l.length then 4 else firstBad l)) [] := by
  by_cases hl : 5000 < l.length
  case pos =>
    rw [if_pos hl]
    refine FnOk.of_vc Tryd.func65 rfl (by decide) (by simp [Tryd.f65]) [.tmp 2] rfl fun w0 T0 _ => ?_
    simp only [Tryd.f65, argEnv]
    (repeat' first | with_reducible (first | intro _ | refine rc ?_ | refine rl ?_ | refine rh ?_ | refine rt ?_ | refine rf ?_ | refine rs ?_ | refine And.intro ?_ ?_) | omega | simp (maxSteps := 1000000) only [go_sem, simprocAttr, ↓reduceIte, List.length_map])
    refine Ret.auto 0 ?_ rfl ?_ <;> simp only [go_sem, reduceCtorEq, reduceIte, Nat.reduceEqDiff, Nat.reduceLT, Nat.reduceLeDiff, Int.natCast_succ, Post]
  rw [if_neg hl]
  refine FnOk.of_vc Tryd.func65 rfl (by decide) (by simp [Tryd.f65]) [.tmp 2] rfl fun w0 T0 _ => ?_
  simp only [Tryd.f65, argEnv]
  (repeat' first | with_reducible (first | intro _ | refine rc ?_ | refine rl ?_ | refine rh ?_ | refine rt ?_ | refine rf ?_ | refine rs ?_ | refine And.intro ?_ ?_) | omega | simp (maxSteps := 1000000) only [go_sem, simprocAttr, ↓reduceIte, List.length_map])
  refine VcLoop.intro (fun i : Nat => ⟨21, [(11, .int .i64 i), (10, .int .i64 l.length), (9, .ro (bxs l))], [], 0⟩) (fun i => i ≤ l.length ∧ firstBad (l.drop i) = firstBad l) (fun i => l.length - i) 0 ?_ ⟨Nat.zero_le _, rfl⟩ fun i hi => ?_
  · refine Ent.auto0 rfl ?_ ?_ <;> simp only [go_sem, reduceCtorEq, reduceIte, Nat.reduceEqDiff, Nat.reduceLT, Nat.reduceLeDiff, Int.natCast_succ]
  obtain ⟨hi, he⟩ := hi
  by_cases hlt : i < l.length
  · have hel := bx_elem l hlt
    have hd : l.drop i = l.getD i Bx.zero :: l.drop (i + 1) := by rw [List.drop_eq_getElem_cons hlt, getD_lt hlt]
    rw [hd] at he
    simp only [firstBad] at he
    generalize l.getD i Bx.zero = b at *
    have k := checkBox_ok b
    unfold Bx.av at k
    by_cases hz : boxErr b = 0
    · rw [if_pos hz] at he
      rw [hz] at k
      (repeat' first | with_reducible (first | intro _ | refine rc ?_ | refine rl ?_ | refine rh ?_ | refine rt ?_ | refine rf ?_ | refine rs ?_ | refine And.intro ?_ ?_) | omega | simp (maxSteps := 1000000) only [go_sem, simprocAttr, ↓reduceIte, List.length_map, elemA, hel, Int.toNat_natCast])
      refine VcCall.k (k) ?_
      (repeat' first | with_reducible (first | intro _ | refine rc ?_ | refine rl ?_ | refine rh ?_ | refine rt ?_ | refine rf ?_ | refine rs ?_ | refine And.intro ?_ ?_) | omega | simp (maxSteps := 1000000) only [go_sem, simprocAttr, ↓reduceIte])
      refine ⟨i + 1, Ent.auto0 rfl ?_ ?_, ⟨by omega, he⟩, by omega⟩ <;> simp only [go_sem, reduceCtorEq, reduceIte, Nat.reduceEqDiff, Nat.reduceLT, Nat.reduceLeDiff, Int.natCast_succ]
    · rw [if_neg hz] at he
      rw [← he]
      have h3 : boxErr b = 3 := (boxErr_cases b).resolve_left hz
      rw [h3] at k ⊢
      (repeat' first | with_reducible (first | intro _ | refine rc ?_ | refine rl ?_ | refine rh ?_ | refine rt ?_ | refine rf ?_ | refine rs ?_ | refine And.intro ?_ ?_) | omega | simp (maxSteps := 1000000) only [go_sem, simprocAttr, ↓reduceIte, List.length_map, elemA, hel, Int.toNat_natCast])
      refine VcCall.k (k) ?_
      (repeat' first | with_reducible (first | intro _ | refine rc ?_ | refine rl ?_ | refine rh ?_ | refine rt ?_ | refine rf ?_ | refine rs ?_ | refine And.intro ?_ ?_) | omega | simp (maxSteps := 1000000) only [go_sem, simprocAttr, ↓reduceIte])
      refine Ret.auto 0 ?_ rfl ?_ <;> simp only [go_sem, reduceCtorEq, reduceIte, Nat.reduceEqDiff, Nat.reduceLT, Nat.reduceLeDiff, Int.natCast_succ, Post]
  · have e : i = l.length := by omega
    subst e
    rw [List.drop_length] at he
    rw [← he]
    (repeat' first | with_reducible (first | intro _ | refine rc ?_ | refine rl ?_ | refine rh ?_ | refine rt ?_ | refine rf ?_ | refine rs ?_ | refine And.intro ?_ ?_) | omega | simp (maxSteps := 1000000) only [go_sem, simprocAttr, ↓reduceIte])
    refine Ret.auto 0 ?_ rfl ?_ <;> simp only [go_sem, reduceCtorEq, reduceIte, Nat.reduceEqDiff, Nat.reduceLT, Nat.reduceLeDiff, Int.natCast_succ, Post, firstBad]
set_option maxHeartbeats 2000000 in
theorem boxesError_ok (l : List Bx) : FnOk Tryd.prog 24 [.ro (bxs l)] (.int .i64 (if 5000 < l.length then 4 else firstBad l)) [] := by
  by_cases hl : 5000 < l.length
  case pos =>
    rw [if_pos hl]
    refine FnOk.of_vc Tryd.func24 rfl (by decide) (by simp [Tryd.f24]) [.tmp 2] rfl fun w0 T0 _ => ?_
    simp only [Tryd.f24, argEnv]
    (repeat' first | with_reducible (first | intro _ | refine rc ?_ | refine rl ?_ | refine rh ?_ | refine rt ?_ | refine rf ?_ | refine rs ?_ | refine And.intro ?_ ?_) | omega | simp (maxSteps := 1000000) only [go_sem, simprocAttr, ↓reduceIte, List.length_map])
    refine Ret.auto 0 ?_ rfl ?_ <;> simp only [go_sem, reduceCtorEq, reduceIte, Nat.reduceEqDiff, Nat.reduceLT, Nat.reduceLeDiff, Int.natCast_succ, Post]
  rw [if_neg hl]
  refine FnOk.of_vc Tryd.func24 rfl (by decide) (by simp [Tryd.f24]) [.tmp 2] rfl fun w0 T0 _ => ?_
  simp only [Tryd.f24, argEnv]
  (repeat' first | with_reducible (first | intro _ | refine rc ?_ | refine rl ?_ | refine rh ?_ | refine rt ?_ | refine rf ?_ | refine rs ?_ | refine And.intro ?_ ?_) | omega | simp (maxSteps := 1000000) only [go_sem, simprocAttr, ↓reduceIte, List.length_map])
  refine VcLoop.intro (fun i : Nat => ⟨21, [(11, .int .i64 i), (10, .int .i64 l.length), (9, .ro (bxs l))], [], 0⟩) (fun i => i ≤ l.length ∧ firstBad (l.drop i) = firstBad l) (fun i => l.length - i) 0 ?_ ⟨Nat.zero_le _, rfl⟩ fun i hi => ?_
  · refine Ent.auto0 rfl ?_ ?_ <;> simp only [go_sem, reduceCtorEq, reduceIte, Nat.reduceEqDiff, Nat.reduceLT, Nat.reduceLeDiff, Int.natCast_succ]
  obtain ⟨hi, he⟩ := hi
  by_cases hlt : i < l.length
  · have hel := bx_elem l hlt
    have hd : l.drop i = l.getD i Bx.zero :: l.drop (i + 1) := by rw [List.drop_eq_getElem_cons hlt, getD_lt hlt]
    rw [hd] at he
    simp only [firstBad] at he
    generalize l.getD i Bx.zero = b at *
    have k := boxError_ok b
    unfold Bx.av at k
    by_cases hz : boxErr b = 0
    · rw [if_pos hz] at he
      rw [hz] at k
      (repeat' first | with_reducible (first | intro _ | refine rc ?_ | refine rl ?_ | refine rh ?_ | refine rt ?_ | refine rf ?_ | refine rs ?_ | refine And.intro ?_ ?_) | omega | simp (maxSteps := 1000000) only [go_sem, simprocAttr, ↓reduceIte, List.length_map, elemA, hel, Int.toNat_natCast])
      refine VcCall.k (k) ?_
      (repeat' first | with_reducible (first | intro _ | refine rc ?_ | refine rl ?_ | refine rh ?_ | refine rt ?_ | refine rf ?_ | refine rs ?_ | refine And.intro ?_ ?_) | omega | simp (maxSteps := 1000000) only [go_sem, simprocAttr, ↓reduceIte])
      refine ⟨i + 1, Ent.auto0 rfl ?_ ?_, ⟨by omega, he⟩, by omega⟩ <;> simp only [go_sem, reduceCtorEq, reduceIte, Nat.reduceEqDiff, Nat.reduceLT, Nat.reduceLeDiff, Int.natCast_succ]
    · rw [if_neg hz] at he
      rw [← he]
      have h3 : boxErr b = 3 := (boxErr_cases b).resolve_left hz
      rw [h3] at k ⊢
      (repeat' first | with_reducible (first | intro _ | refine rc ?_ | refine rl ?_ | refine rh ?_ | refine rt ?_ | refine rf ?_ | refine rs ?_ | refine And.intro ?_ ?_) | omega | simp (maxSteps := 1000000) only [go_sem, simprocAttr, ↓reduceIte, List.length_map, elemA, hel, Int.toNat_natCast])
      refine VcCall.k (k) ?_
      (repeat' first | with_reducible (first | intro _ | refine rc ?_ | refine rl ?_ | refine rh ?_ | refine rt ?_ | refine rf ?_ | refine rs ?_ | refine And.intro ?_ ?_) | omega | simp (maxSteps := 1000000) only [go_sem, simprocAttr, ↓reduceIte])
      refine Ret.auto 0 ?_ rfl ?_ <;> simp only [go_sem, reduceCtorEq, reduceIte, Nat.reduceEqDiff, Nat.reduceLT, Nat.reduceLeDiff, Int.natCast_succ, Post]
  · have e : i = l.length := by omega
    subst e
    rw [List.drop_length] at he
    rw [← he]
    (repeat' first | with_reducible (first | intro _ | refine rc ?_ | refine rl ?_ | refine rh ?_ | refine rt ?_ | refine rf ?_ | refine rs ?_ | refine And.intro ?_ ?_) | omega | simp (maxSteps := 1000000) only [go_sem, simprocAttr, ↓reduceIte])
    refine Ret.auto 0 ?_ rfl ?_ <;> simp only [go_sem, reduceCtorEq, reduceIte, Nat.reduceEqDiff, Nat.reduceLT, Nat.reduceLeDiff, Int.natCast_succ, Post, firstBad]
end Go.Fv.P

/-! The order of reading: comparisons, and the widest stretch that no box has. The walk. -/
namespace Go.Fv.P
open Go Go.Proofs
set_option linter.unusedSimpArgs false
set_option linter.unusedVariables false
set_option linter.unnecessarySimpa false
set_option maxRecDepth 8000

theorem covO1 {a : Item} : ∀ j, j < 1 → ∃ it, lk [(0, a)] j = some it := fun j hj => by
  obtain rfl : j = 0 := by omega
  exact ⟨_, rfl⟩
def cmp3 (a b : Int) : Int := if a < b then -1 else if b < a then 1 else 0
theorem cmp3_i : CmpI cmp3 := ⟨fun a b => by unfold cmp3; split <;> (try split) <;> omega, fun a b => by unfold cmp3; split <;> (try split) <;> omega⟩
theorem sub_i : CmpI (fun a b => a - b) := ⟨fun a b => by omega, fun a b => by omega⟩
theorem isNaNI_ok (a : Int) : FnOk Tryd.prog 101 [.int .i64 a] (.bool false) [] := by
  refine FnOk.of_vc Tryd.func101 rfl (by decide) (by simp [Tryd.f101]) [.tmp 2] rfl fun w0 T0 _ => ?_
  simp only [Tryd.f101, argEnv]
  (repeat' first | with_reducible (first | intro _ | refine rc ?_ | refine rl ?_ | refine rh ?_ | refine rt ?_ | refine rf ?_ | refine rs ?_ | refine And.intro ?_ ?_) | omega | simp (maxSteps := 1000000) only [go_sem, simprocAttr, ↓reduceIte])
  refine Ret.auto 0 ?_ rfl ?_ <;> simp only [go_sem, reduceCtorEq, reduceIte, Nat.reduceEqDiff, Nat.reduceLT, Nat.reduceLeDiff, Int.natCast_succ, Post]
  all_goals simp
theorem compare_ok (a b : Int) : FnOk Tryd.prog 52 [.int .i64 a, .int .i64 b] (.int .i64 (cmp3 a b)) [] := by
  unfold cmp3
  refine FnOk.of_vc Tryd.func52 rfl (by decide) (by simp [Tryd.f52]) [.tmp 4] rfl fun w0 T0 _ => ?_
  simp only [Tryd.f52, argEnv]
  (repeat' first | with_reducible (first | intro _ | refine rc ?_ | refine rl ?_ | refine rh ?_ | refine rt ?_ | refine rf ?_ | refine rs ?_ | refine And.intro ?_ ?_) | omega | simp (maxSteps := 1000000) only [go_sem, simprocAttr, ↓reduceIte])
  refine VcCall.k (isNaNI_ok a) ?_
  (repeat' first | with_reducible (first | intro _ | refine rc ?_ | refine rl ?_ | refine rh ?_ | refine rt ?_ | refine rf ?_ | refine rs ?_ | refine And.intro ?_ ?_) | omega | simp (maxSteps := 1000000) only [go_sem, simprocAttr, ↓reduceIte])
  refine VcCall.k (isNaNI_ok b) ?_
  by_cases h1 : a < b
  · rw [if_pos h1]
    (repeat' first | with_reducible (first | intro _ | refine rc ?_ | refine rl ?_ | refine rh ?_ | refine rt ?_ | refine rf ?_ | refine rs ?_ | refine And.intro ?_ ?_) | omega | simp (maxSteps := 1000000) only [go_sem, simprocAttr, ↓reduceIte])
    refine Ret.auto 0 ?_ rfl ?_ <;> simp only [go_sem, reduceCtorEq, reduceIte, Nat.reduceEqDiff, Nat.reduceLT, Nat.reduceLeDiff, Int.natCast_succ, Post]
  · rw [if_neg h1]
    by_cases h2 : b < a
    · rw [if_pos h2]
      (repeat' first | with_reducible (first | intro _ | refine rc ?_ | refine rl ?_ | refine rh ?_ | refine rt ?_ | refine rf ?_ | refine rs ?_ | refine And.intro ?_ ?_) | omega | simp (maxSteps := 1000000) only [go_sem, simprocAttr, ↓reduceIte])
      refine Ret.auto 0 ?_ rfl ?_ <;> simp only [go_sem, reduceCtorEq, reduceIte, Nat.reduceEqDiff, Nat.reduceLT, Nat.reduceLeDiff, Int.natCast_succ, Post]
    · rw [if_neg h2]
      (repeat' first | with_reducible (first | intro _ | refine rc ?_ | refine rl ?_ | refine rh ?_ | refine rt ?_ | refine rf ?_ | refine rs ?_ | refine And.intro ?_ ?_) | omega | simp (maxSteps := 1000000) only [go_sem, simprocAttr, ↓reduceIte])
      refine Ret.auto 0 ?_ rfl ?_ <;> simp only [go_sem, reduceCtorEq, reduceIte, Nat.reduceEqDiff, Nat.reduceLT, Nat.reduceLeDiff, Int.natCast_succ, Post]
theorem orL_drop (l : List Int) {k : Nat} (h : k < l.length) : orL (l.drop k) = if l.getD k 0 = 0 then orL (l.drop (k + 1)) else l.getD k 0 := by
  rw [List.drop_eq_getElem_cons h, orL, getD_lt h]
theorem cmpOr_ok (l : List Int) : FnOk Tryd.prog 51 [.ro (.ints .i64 l)] (.int .i64 (orL l)) [] := by
  refine FnOk.of_vc Tryd.func51 rfl (by decide) (by simp [Tryd.f51]) [.tmp 2] rfl fun w0 T0 _ => ?_
  simp only [Tryd.f51, argEnv]
  (repeat' first | with_reducible (first | intro _ | refine rc ?_ | refine rl ?_ | refine rh ?_ | refine rt ?_ | refine rf ?_ | refine rs ?_ | refine And.intro ?_ ?_) | omega | simp (maxSteps := 1000000) only [go_sem, simprocAttr, ↓reduceIte])
  refine VcLoop.intro (fun i : Nat => ⟨18, [(8, .int .i64 i), (7, .int .i64 l.length), (6, .ro (.ints .i64 l)), (3, .int .i64 0)], [], 0⟩) (fun i => i ≤ l.length ∧ orL l = orL (l.drop i)) (fun i => l.length - i) 0 ?_ ⟨Nat.zero_le _, rfl⟩ fun i hi => ?_
  · refine Ent.auto0 rfl ?_ ?_ <;> simp only [go_sem, reduceCtorEq, reduceIte, Nat.reduceEqDiff, Nat.reduceLT, Nat.reduceLeDiff, Int.natCast_succ]
  obtain ⟨hi, ho⟩ := hi
  by_cases hlt : i < l.length
  · have hd := orL_drop l hlt
    by_cases h0 : l.getD i 0 = 0
    · rw [if_pos h0] at hd
      (repeat' first | with_reducible (first | intro _ | refine rc ?_ | refine rl ?_ | refine rh ?_ | refine rt ?_ | refine rf ?_ | refine rs ?_ | refine And.intro ?_ ?_) | omega | simp (maxSteps := 1000000) only [go_sem, simprocAttr, ↓reduceIte, h0])
      refine ⟨i + 1, Ent.auto0 rfl ?_ ?_, ⟨by omega, ho.trans hd⟩, by omega⟩ <;> simp only [go_sem, reduceCtorEq, reduceIte, Nat.reduceEqDiff, Nat.reduceLT, Nat.reduceLeDiff, Int.natCast_succ]
    · rw [if_neg h0] at hd
      (repeat' first | with_reducible (first | intro _ | refine rc ?_ | refine rl ?_ | refine rh ?_ | refine rt ?_ | refine rf ?_ | refine rs ?_ | refine And.intro ?_ ?_) | omega | simp (maxSteps := 1000000) only [go_sem, simprocAttr, ↓reduceIte])
      refine Ret.auto 0 ?_ rfl ?_ <;> simp only [go_sem, reduceCtorEq, reduceIte, Nat.reduceEqDiff, Nat.reduceLT, Nat.reduceLeDiff, Int.natCast_succ, Post, ho.trans hd]
  · have e : i = l.length := by omega
    subst e
    have : orL l = 0 := by rw [ho, List.drop_length]; rfl
    (repeat' first | with_reducible (first | intro _ | refine rc ?_ | refine rl ?_ | refine rh ?_ | refine rt ?_ | refine rf ?_ | refine rs ?_ | refine And.intro ?_ ?_) | omega | simp (maxSteps := 1000000) only [go_sem, simprocAttr, ↓reduceIte])
    refine Ret.auto 0 ?_ rfl ?_ <;> simp only [go_sem, reduceCtorEq, reduceIte, Nat.reduceEqDiff, Nat.reduceLT, Nat.reduceLeDiff, Int.natCast_succ, Post, this]
theorem cloneI_ok (l : List Int) (hl : l.length ≤ 100000) : FnOk Tryd.prog 72 [.ro (.ints .i64 l)] (.own 0) [(0, .row 3 (.ints .i64 l))] := by
  refine FnOk.of_vc Tryd.func72 rfl (by decide) (by simp [Tryd.f72]) [.tmp 2] rfl fun w0 T0 _ => ?_
  simp only [Tryd.f72, argEnv]
  (repeat' first | with_reducible (first | intro _ | refine rc ?_ | refine rl ?_ | refine rh ?_ | refine rt ?_ | refine rf ?_ | refine rs ?_ | refine And.intro ?_ ?_) | omega | simp (maxSteps := 1000000) only [go_sem, simprocAttr, ↓reduceIte])
  · rename_i h
    have : l = [] := List.eq_nil_of_length_eq_zero h
    refine Ret.auto 1 ?_ rfl ?_ <;> simp only [go_sem, reduceCtorEq, reduceIte, Nat.reduceEqDiff, Nat.reduceLT, Nat.reduceLeDiff, Int.natCast_succ, Post, this, zrow, List.replicate_zero]
  · refine Ret.auto 1 ?_ rfl ?_ <;> simp only [go_sem, reduceCtorEq, reduceIte, Nat.reduceEqDiff, Nat.reduceLT, Nat.reduceLeDiff, Int.natCast_succ, Post, zrow, List.replicate_zero]

section
variable (L : List Bx) (F T : Nat) (fr to : Bx → Int)
def InL (i : Int) : Prop := 0 ≤ i ∧ i < L.length
theorem bAt_mem {L : List Bx} {i : Int} (h : InL L i) : bAt L i ∈ L := by
  unfold bAt InL at *
  rw [getD_lt (by omega)]; exact List.getElem_mem _
theorem bAt_elem {L : List Bx} {i : Int} (h : InL L i) : (L.map Bx.av).getD i.toNat [] = [.int .i64 (bAt L i).x, .int .i64 (bAt L i).y, .int .i64 (bAt L i).w, .int .i64 (bAt L i).h] := bx_elem L (by unfold InL at h; omega)
/-- What the sort of 'between' compares by. -/
theorem between1_ok (kF : ∀ b, b ∈ L → FnOk Tryd.prog F [.agg b.av] (.int .i64 (fr b)) []) (i k : Int) (hi : InL L i) (hk : InL L k) :
    FnOk Tryd.prog 107 [.int .i64 i, .int .i64 k, .cell [.fn F []], .cell [.ro (bxs L)]] (.int .i64 (cmp3 (fr (bAt L i)) (fr (bAt L k)))) [] := by
  have k1 := kF _ (bAt_mem hi)
  have k2 := kF _ (bAt_mem hk)
  have e1 := bAt_elem hi
  have e2 := bAt_elem hk
  have kc := compare_ok (fr (bAt L i)) (fr (bAt L k))
  generalize bAt L i = bi at *
  generalize bAt L k = bk at *
  unfold Bx.av at k1 k2
  unfold InL at hi hk
  generalize fr bi = u at *
  generalize fr bk = v at *
  refine FnOk.of_vc Tryd.func107 rfl (by decide) (by simp [Tryd.f107]) [.tmp 6] rfl fun w0 T0 _ => ?_
  simp only [Tryd.f107, argEnv]
  (repeat' first | with_reducible (first | intro _ | refine rc ?_ | refine rl ?_ | refine rh ?_ | refine rt ?_ | refine rf ?_ | refine rs ?_ | refine And.intro ?_ ?_) | omega | simp (maxSteps := 1000000) only [go_sem, simprocAttr, ↓reduceIte])
  refine VcDraw.lex [] [] (by kernel_rfl) (by kernel_rfl) ?_
  (repeat' first | with_reducible (first | intro _ | refine rc ?_ | refine rl ?_ | refine rh ?_ | refine rt ?_ | refine rf ?_ | refine rs ?_ | refine And.intro ?_ ?_) | omega | simp (maxSteps := 1000000) only [go_sem, simprocAttr, ↓reduceIte, List.length_map, elemA, e1, e2])
  (refine QV.intro (.int .i64 u) ?_ ?_; focus ((repeat' first | with_reducible (first | intro _ | refine rc ?_ | refine rl ?_ | refine rh ?_ | refine rt ?_ | refine rf ?_ | refine rs ?_ | refine And.intro ?_ ?_) | omega | simp (maxSteps := 1000000) only [go_sem, simprocAttr, ↓reduceIte]); refine VcCall.k (k1) ?_; (repeat' first | with_reducible (first | intro _ | refine rc ?_ | refine rl ?_ | refine rh ?_ | refine rt ?_ | refine rf ?_ | refine rs ?_ | refine And.intro ?_ ?_) | omega | simp (maxSteps := 1000000) only [go_sem, simprocAttr, ↓reduceIte])))
  (repeat' first | with_reducible (first | intro _ | refine rc ?_ | refine rl ?_ | refine rh ?_ | refine rt ?_ | refine rf ?_ | refine rs ?_ | refine And.intro ?_ ?_) | omega | simp (maxSteps := 1000000) only [go_sem, simprocAttr, ↓reduceIte, List.length_map, elemA, e1, e2])
  (refine QV.intro (.int .i64 v) ?_ ?_; focus ((repeat' first | with_reducible (first | intro _ | refine rc ?_ | refine rl ?_ | refine rh ?_ | refine rt ?_ | refine rf ?_ | refine rs ?_ | refine And.intro ?_ ?_) | omega | simp (maxSteps := 1000000) only [go_sem, simprocAttr, ↓reduceIte]); refine VcCall.k (k2) ?_; (repeat' first | with_reducible (first | intro _ | refine rc ?_ | refine rl ?_ | refine rh ?_ | refine rt ?_ | refine rf ?_ | refine rs ?_ | refine And.intro ?_ ?_) | omega | simp (maxSteps := 1000000) only [go_sem, simprocAttr, ↓reduceIte])))
  (repeat' first | with_reducible (first | intro _ | refine rc ?_ | refine rl ?_ | refine rh ?_ | refine rt ?_ | refine rf ?_ | refine rs ?_ | refine And.intro ?_ ?_) | omega | simp (maxSteps := 1000000) only [go_sem, simprocAttr, ↓reduceIte, List.length_map, elemA, e1, e2])
  (refine QV.intro (.int .i64 (cmp3 u v)) ?_ ?_; focus ((repeat' first | with_reducible (first | intro _ | refine rc ?_ | refine rl ?_ | refine rh ?_ | refine rt ?_ | refine rf ?_ | refine rs ?_ | refine And.intro ?_ ?_) | omega | simp (maxSteps := 1000000) only [go_sem, simprocAttr, ↓reduceIte]); refine VcCall.k (kc) ?_; (repeat' first | with_reducible (first | intro _ | refine rc ?_ | refine rl ?_ | refine rh ?_ | refine rt ?_ | refine rf ?_ | refine rs ?_ | refine And.intro ?_ ?_) | omega | simp (maxSteps := 1000000) only [go_sem, simprocAttr, ↓reduceIte])))
  (repeat' first | with_reducible (first | intro _ | refine rc ?_ | refine rl ?_ | refine rh ?_ | refine rt ?_ | refine rf ?_ | refine rs ?_ | refine And.intro ?_ ?_) | omega | simp (maxSteps := 1000000) only [go_sem, simprocAttr, ↓reduceIte])
  refine Ret.auto 0 ?_ rfl ?_ <;> simp only [go_sem, reduceCtorEq, reduceIte, Nat.reduceEqDiff, Nat.reduceLT, Nat.reduceLeDiff, Int.natCast_succ, Post]
def prI (i : Int) : Int × Int := (fr (bAt L i), to (bAt L i))
theorem foldl_bd {least lo hi : Int} {s0 : Int × Int × Int} (h0 : lo ≤ s0.1 ∧ s0.1 ≤ hi) (hb : (lo - hi ≤ s0.2.2 ∧ s0.2.2 ≤ hi - lo) ∧ lo - hi ≤ s0.2.1 ∧ s0.2.1 ≤ hi + (hi - lo)) (hlh : lo ≤ 0 ∧ 0 ≤ hi) : ∀ (l : List (Int × Int)), (∀ p, p ∈ l → (lo ≤ p.1 ∧ p.1 ≤ hi) ∧ lo ≤ p.2 ∧ p.2 ≤ hi) →
    (lo ≤ (l.foldl (gapStep least) s0).1 ∧ (l.foldl (gapStep least) s0).1 ≤ hi) ∧ ((lo - hi ≤ (l.foldl (gapStep least) s0).2.2 ∧ (l.foldl (gapStep least) s0).2.2 ≤ hi - lo) ∧ lo - hi ≤ (l.foldl (gapStep least) s0).2.1 ∧ (l.foldl (gapStep least) s0).2.1 ≤ hi + (hi - lo))
  | [], _ => ⟨h0, hb⟩
  | p :: l, h => by
    have hp := h p (.head _)
    rw [List.foldl_cons]
    refine foldl_bd ?_ ?_ hlh l fun q hq => h q (.tail _ hq)
    · unfold gapStep; dsimp only; omega
    · unfold gapStep; dsimp only
      split
      · dsimp only; omega
      · exact hb
set_option maxHeartbeats 4000000 in
theorem between_ok (hfr : ∀ b, b ∈ L → (-3000000 ≤ fr b ∧ fr b ≤ 3000000) ∧ (-3000000 ≤ to b ∧ to b ≤ 3000000) ∧ fr b < to b) (l : List Int) (hl : ∀ i, i ∈ l → InL L i) (hne : 1 ≤ l.length) (hln : l.length ≤ 6000) (hLn : L.length ≤ 6000) (least : Int) (hl1 : 1 ≤ least) (hl2 : least ≤ 4000)
    (kF : ∀ b, b ∈ L → FnOk Tryd.prog F [.agg b.av] (.int .i64 (fr b)) []) (kT : ∀ b, b ∈ L → FnOk Tryd.prog T [.agg b.av] (.int .i64 (to b)) []) :
    FnOk Tryd.prog 67 [.ro (bxs L), .ro (.ints .i64 l), .int .i64 least, .fn F [], .fn T []] (.agg [.int .i64 (gapOf least (l.map (prI L fr to))).1, .int .i64 (gapOf least (l.map (prI L fr to))).2]) [] := by
  obtain ⟨l', hp, hs, kS⟩ := sortF1_io Tryd.lSoF ⟨_, Tryd.func73, by kernel_rfl, by kernel_rfl⟩ 3 (good := fun i => InL L i ∧ InK .i64 i) (cf := fun i k => cmp3 (fr (bAt L i)) (fr (bAt L k)))
    ⟨fun x _ => by have := (cmp3_i.lt (fr (bAt L x)) (fr (bAt L x))); omega, fun x y z _ _ _ h1 h2 => by rw [cmp3_i.lt] at *; omega, fun x y z _ _ _ h1 h2 => by rw [cmp3_i.lt] at *; omega⟩
    107 [.cell [.fn F []], .cell [.ro (bxs L)]] rfl (fun x y hx hy => FnFr.of_ok (between1_ok L F fr kF x y hx.1 hy.1) rfl rfl) l (fun x hx => ⟨hl x hx, by have := hl x hx; unfold InL at this; exact InK_i64.2 (by omega)⟩) (fun x h => h.2) (by omega)
  have hl' : ∀ i, i ∈ l' → InL L i := fun i hi => hl i (hp.mem_iff.1 hi)
  have hln' := hp.length_eq
  have hsort : (l'.map (prI L fr to)).Pairwise fun p q => p.1 ≤ q.1 := List.pairwise_map.2 (hs.imp fun {i k} h => by
    rw [cmp3_i.lt] at h; unfold prI; dsimp only; omega)
  have hpr : ∀ i, InL L i → ((-3000000 ≤ (prI L fr to i).1 ∧ (prI L fr to i).1 ≤ 3000000) ∧ -3000000 ≤ (prI L fr to i).2 ∧ (prI L fr to i).2 ≤ 3000000) ∧ (prI L fr to i).1 < (prI L fr to i).2 := fun i hi => by
    have := hfr _ (bAt_mem hi)
    unfold prI; dsimp only; omega
  have hgap : gapFold least (l'.map (prI L fr to)) = gapOf least (l.map (prI L fr to)) := gapOf_sorted hl1 (hp.map _) (fun q hq => by
    obtain ⟨i, hi, rfl⟩ := List.mem_map.1 hq
    exact (hpr i (hl i hi)).2) hsort
  have h0 : 0 < l'.length := by omega
  have hi0 : InL L (l'.getD 0 0) := hl' _ (by rw [getD_lt h0]; exact List.getElem_mem _)
  have hfold : ((l'.map (prI L fr to)).foldl (gapStep least) ((prI L fr to (l'.getD 0 0)).2, 0, 0)).2 = gapOf least (l.map (prI L fr to)) := by
    rw [← hgap]
    cases l' with
    | nil => simp at h0
    | cons i m =>
      show (((prI L fr to i) :: m.map (prI L fr to)).foldl (gapStep least) ((prI L fr to i).2, 0, 0)).2 = _
      rw [List.foldl_cons, gapStep_first hl1 _ (hpr i (hl' i (.head _))).2]
      rfl
  have k0 := kT _ (bAt_mem hi0)
  have e0 := bAt_elem hi0
  have hp0 := hpr _ hi0
  generalize gapOf least (l.map (prI L fr to)) = G at *
  have hp0e : (prI L fr to (l'.getD 0 0)).2 = to (bAt L (l'.getD 0 0)) := rfl
  unfold InL at hi0
  generalize hbb : bAt L (l'.getD 0 0) = b0 at *
  generalize hs0 : ((prI L fr to (l'.getD 0 0)).2, (0 : Int), (0 : Int)) = s0 at *
  have hbd := fun k => foldl_bd (least := least) (lo := -3000000) (hi := 3000000) (s0 := s0) (by rw [← hs0]; dsimp only; omega) (by rw [← hs0]; dsimp only; omega) (by omega) ((l'.take k).map (prI L fr to)) (fun p hp => by
    obtain ⟨i, hi, rfl⟩ := List.mem_map.1 hp
    exact (hpr i (hl' i (List.mem_of_mem_take hi))).1)
  have hstp : ∀ k, k < l'.length → ((l'.take (k + 1)).map (prI L fr to)).foldl (gapStep least) s0 = gapStep least (((l'.take k).map (prI L fr to)).foldl (gapStep least) s0) (prI L fr to (l'.getD k 0)) := fun k hk => by
    rw [List.take_succ_eq_append_getElem hk, getD_lt hk, List.map_append, List.foldl_append]; rfl
  unfold Bx.av at k0
  refine FnOk.of_vc Tryd.func67 rfl (by decide) (by simp [Tryd.f67]) [.cell 10 116] rfl fun w0 T0 _ => ?_
  simp only [Tryd.f67, argEnv]
  (repeat' first | with_reducible (first | intro _ | refine rc ?_ | refine rl ?_ | refine rh ?_ | refine rt ?_ | refine rf ?_ | refine rs ?_ | refine And.intro ?_ ?_) | omega | simp (maxSteps := 1000000) only [go_sem, simprocAttr, ↓reduceIte])
  refine VcCall.fr (FnFr.of_ok (cloneI_ok l (by omega)) rfl rfl) (by simp only [noIdR_ok, argOkL, argOk, allOk, argOkN, List.drop_zero, lk, reduceIte, reduceCtorEq, Nat.reduceEqDiff, Option.some.injEq, Item.row.injEq, Item.box.injEq, AV.ro.injEq, exists_eq_left, exists_and_left, exists_eq_left', exists_eq_right, and_assoc, and_true, true_and, List.cons.injEq, exists_eq', exists_eq]) 1 rfl (by simp [rowsB, Item.below, belowR_ok]) ?_
  (repeat' first | with_reducible (first | intro _ | refine rc ?_ | refine rl ?_ | refine rh ?_ | refine rt ?_ | refine rf ?_ | refine rs ?_ | refine And.intro ?_ ?_) | omega | simp (maxSteps := 1000000) only [go_sem, simprocAttr, ↓reduceIte, renR_ok])
  refine VcCall.ioL [3] kS rfl rfl (by decide) ⟨_, _, .inl ⟨rfl, rfl⟩, ⟨_, _, .inr (by simp only [noIdR_ok, argOkL, argOk, allOk, argOkN, List.drop_zero, lk, reduceIte, reduceCtorEq, Nat.reduceEqDiff, Option.some.injEq, Item.row.injEq, Item.box.injEq, AV.ro.injEq, exists_eq_left, exists_and_left, exists_eq_left', exists_eq_right, and_assoc, and_true, true_and, List.cons.injEq, exists_eq', exists_eq, delL, del]), rfl, rfl⟩, rfl⟩ (by simp [subOk, ioN, lk, Item.ren, Item.below, renR_ok, belowR_ok]) covO1 1 (by decide) rfl (by simp [rowsB, Item.below, belowR_ok]) ?_
  (repeat' first | with_reducible (first | intro _ | refine rc ?_ | refine rl ?_ | refine rh ?_ | refine rt ?_ | refine rf ?_ | refine rs ?_ | refine And.intro ?_ ?_) | omega | simp (maxSteps := 1000000) only [go_sem, simprocAttr, ↓reduceIte, S.ioS, ioRows, ioN, delL, Item.ren, renR_ok, List.length_cons, List.length_nil, List.getElem?_cons_zero, List.cons_append, List.nil_append, Nat.sub_self, Nat.add_zero, List.filter])
  refine VcDraw.lex [] [] (by kernel_rfl) (by kernel_rfl) ?_
  (repeat' first | with_reducible (first | intro _ | refine rc ?_ | refine rl ?_ | refine rh ?_ | refine rt ?_ | refine rf ?_ | refine rs ?_ | refine And.intro ?_ ?_) | omega | simp (maxSteps := 1000000) only [go_sem, simprocAttr, ↓reduceIte, List.length_map, elemA, e0])
  (refine QV.intro (.int .i64 (to b0)) ?_ ?_; focus ((repeat' first | with_reducible (first | intro _ | refine rc ?_ | refine rl ?_ | refine rh ?_ | refine rt ?_ | refine rf ?_ | refine rs ?_ | refine And.intro ?_ ?_) | omega | simp (maxSteps := 1000000) only [go_sem, simprocAttr, ↓reduceIte]); refine VcCall.k (k0) ?_; (repeat' first | with_reducible (first | intro _ | refine rc ?_ | refine rl ?_ | refine rh ?_ | refine rt ?_ | refine rf ?_ | refine rs ?_ | refine And.intro ?_ ?_) | omega | simp (maxSteps := 1000000) only [go_sem, simprocAttr, ↓reduceIte])))
  (repeat' first | with_reducible (first | intro _ | refine rc ?_ | refine rl ?_ | refine rh ?_ | refine rt ?_ | refine rf ?_ | refine rs ?_ | refine And.intro ?_ ?_) | omega | simp (maxSteps := 1000000) only [go_sem, simprocAttr, ↓reduceIte])
  refine VcLoop.intro (fun k : Nat => ⟨65, [(31, .int .i64 k), (30, .int .i64 l'.length), (29, .own 3), (12, .int .i64 (((l'.take k).map (prI L fr to)).foldl (gapStep least) s0).1), (10, .ptr 2 0), (8, .ptr 1 0), (5, .ptr 0 0), (2, .int .i64 least), (4, .fn T [])], [(0, .box 29 [.ro (bxs L)]), (1, .box 118 [.fn F []]), (2, .box 116 [.int .i64 (((l'.take k).map (prI L fr to)).foldl (gapStep least) s0).2.1, .int .i64 (((l'.take k).map (prI L fr to)).foldl (gapStep least) s0).2.2]), (3, .row 3 (.ints .i64 l'))], 4⟩) (fun k => k ≤ l'.length) (fun k => l'.length - k) 0 ?_ (Nat.zero_le _) fun k hk => ?_
  · have ez : (([] : List (Int × Int)).foldl (gapStep least) s0) = (to b0, 0, 0) := by rw [← hs0, hp0e]; rfl
    refine Ent.auto0 rfl ?_ ?_ <;> simp only [go_sem, reduceCtorEq, reduceIte, Nat.reduceEqDiff, Nat.reduceLT, Nat.reduceLeDiff, Int.natCast_succ, List.take_zero, List.map_nil, ez]
  by_cases hlt : k < l'.length
  · have hik : InL L (l'.getD k 0) := hl' _ (by rw [getD_lt hlt]; exact List.getElem_mem _)
    have kf := kF _ (bAt_mem hik)
    have kt := kT _ (bAt_mem hik)
    have ek := bAt_elem hik
    have hpk := hpr _ hik
    have hst := hstp k hlt
    have hb1 := hbd k
    have hp1 : prI L fr to (l'.getD k 0) = (fr (bAt L (l'.getD k 0)), to (bAt L (l'.getD k 0))) := rfl
    rw [hp1] at hpk hst
    unfold InL at hik
    generalize ((l'.take k).map (prI L fr to)).foldl (gapStep least) s0 = s at *
    generalize bAt L (l'.getD k 0) = b at *
    obtain ⟨e, bf, bm⟩ := s
    unfold Bx.av at kf kt
    dsimp only at hpk hst hb1
    generalize fr b = f at *
    generalize to b = t at *
    change _ = (max e t, if least ≤ f - e ∧ bm < f - e then (e, f - e) else (bf, bm)) at hst
    (repeat' first | with_reducible (first | intro _ | refine rc ?_ | refine rl ?_ | refine rh ?_ | refine rt ?_ | refine rf ?_ | refine rs ?_ | refine And.intro ?_ ?_) | omega | simp (maxSteps := 1000000) only [go_sem, simprocAttr, ↓reduceIte])
    refine VcDraw.lex [] [] (by kernel_rfl) (by kernel_rfl) ?_
    (repeat' first | with_reducible (first | intro _ | refine rc ?_ | refine rl ?_ | refine rh ?_ | refine rt ?_ | refine rf ?_ | refine rs ?_ | refine And.intro ?_ ?_) | omega | simp (maxSteps := 1000000) only [go_sem, simprocAttr, ↓reduceIte, List.length_map, elemA, ek])
    (refine QV.intro (.int .i64 f) ?_ ?_; focus ((repeat' first | with_reducible (first | intro _ | refine rc ?_ | refine rl ?_ | refine rh ?_ | refine rt ?_ | refine rf ?_ | refine rs ?_ | refine And.intro ?_ ?_) | omega | simp (maxSteps := 1000000) only [go_sem, simprocAttr, ↓reduceIte]); refine VcCall.k (kf) ?_; (repeat' first | with_reducible (first | intro _ | refine rc ?_ | refine rl ?_ | refine rh ?_ | refine rt ?_ | refine rf ?_ | refine rs ?_ | refine And.intro ?_ ?_) | omega | simp (maxSteps := 1000000) only [go_sem, simprocAttr, ↓reduceIte])))
    by_cases hc : least ≤ f - e ∧ bm < f - e
    · rw [if_pos hc] at hst
      (repeat' first | with_reducible (first | intro _ | refine rc ?_ | refine rl ?_ | refine rh ?_ | refine rt ?_ | refine rf ?_ | refine rs ?_ | refine And.intro ?_ ?_) | omega | simp (maxSteps := 1000000) only [go_sem, simprocAttr, ↓reduceIte, List.length_map, elemA, ek])
      refine VcCall.k (kt) ?_
      (repeat' first | with_reducible (first | intro _ | refine rc ?_ | refine rl ?_ | refine rh ?_ | refine rt ?_ | refine rf ?_ | refine rs ?_ | refine And.intro ?_ ?_) | omega | simp (maxSteps := 1000000) only [go_sem, simprocAttr, ↓reduceIte, minmax, Bool.false_eq_true])
      refine ⟨k + 1, Ent.auto0 rfl ?_ ?_, by omega, by omega⟩ <;> simp only [go_sem, reduceCtorEq, reduceIte, Nat.reduceEqDiff, Nat.reduceLT, Nat.reduceLeDiff, Int.natCast_succ, hst]
    · rw [if_neg hc] at hst
      (repeat' first | with_reducible (first | intro _ | refine rc ?_ | refine rl ?_ | refine rh ?_ | refine rt ?_ | refine rf ?_ | refine rs ?_ | refine And.intro ?_ ?_) | omega | simp (maxSteps := 1000000) only [go_sem, simprocAttr, ↓reduceIte, List.length_map, elemA, ek])
      refine VcCall.k (kt) ?_
      (repeat' first | with_reducible (first | intro _ | refine rc ?_ | refine rl ?_ | refine rh ?_ | refine rt ?_ | refine rf ?_ | refine rs ?_ | refine And.intro ?_ ?_) | omega | simp (maxSteps := 1000000) only [go_sem, simprocAttr, ↓reduceIte, minmax, Bool.false_eq_true])
      refine ⟨k + 1, Ent.auto0 rfl ?_ ?_, by omega, by omega⟩ <;> simp only [go_sem, reduceCtorEq, reduceIte, Nat.reduceEqDiff, Nat.reduceLT, Nat.reduceLeDiff, Int.natCast_succ, hst]
  · have e : k = l'.length := by omega
    subst e
    rw [List.take_length, hfold]
    (repeat' first | with_reducible (first | intro _ | refine rc ?_ | refine rl ?_ | refine rh ?_ | refine rt ?_ | refine rf ?_ | refine rs ?_ | refine And.intro ?_ ?_) | omega | simp (maxSteps := 1000000) only [go_sem, simprocAttr, ↓reduceIte])
    refine Ret.auto 0 ?_ rfl ?_ <;> simp only [go_sem, reduceCtorEq, reduceIte, Nat.reduceEqDiff, Nat.reduceLT, Nat.reduceLeDiff, Int.natCast_succ, Post]
end
end Go.Fv.P

/-! The order of reading: the reference's widest stretch. The walk. -/
namespace Go.Fv.P
open Go Go.Proofs
set_option linter.unusedSimpArgs false
set_option linter.unusedVariables false
set_option linter.unnecessarySimpa false
set_option maxRecDepth 8000

def prAv (p : Int × Int) : List AV := [.int .i64 p.1, .int .i64 p.2]
instance : FNoId prAv := ⟨fun _ => rfl⟩
abbrev prR (l : List (Int × Int)) : RowV := .objs 2 (l.map prAv)
theorem pr_elem (l : List (Int × Int)) {i : Nat} (h : i < l.length) : (l.map prAv).getD i [] = [.int .i64 (l.getD i (0, 0)).1, .int .i64 (l.getD i (0, 0)).2] := by
  rw [getD_lt (by simpa using h), getD_lt h, List.getElem_map]; rfl
theorem clonePr_ok (l : List (Int × Int)) (hl : l.length ≤ 100000) : FnOk Tryd.prog 139 [.ro (prR l)] (.own 0) [(0, .row 156 (prR l))] := by
  refine FnOk.of_vc Tryd.func139 rfl (by decide) (by simp [Tryd.f139]) [.tmp 2] rfl fun w0 T0 _ => ?_
  simp only [Tryd.f139, argEnv]
  (repeat' first | with_reducible (first | intro _ | refine rc ?_ | refine rl ?_ | refine rh ?_ | refine rt ?_ | refine rf ?_ | refine rs ?_ | refine And.intro ?_ ?_) | omega | simp (maxSteps := 1000000) only [go_sem, simprocAttr, ↓reduceIte, List.length_map])
  · rename_i h
    have : l = [] := List.eq_nil_of_length_eq_zero h
    refine Ret.auto 1 ?_ rfl ?_ <;> simp only [go_sem, reduceCtorEq, reduceIte, Nat.reduceEqDiff, Nat.reduceLT, Nat.reduceLeDiff, Int.natCast_succ, Post, this, zrow, List.replicate_zero, List.map_nil]
  · refine Ret.auto 1 ?_ rfl ?_ <;> simp only [go_sem, reduceCtorEq, reduceIte, Nat.reduceEqDiff, Nat.reduceLT, Nat.reduceLeDiff, Int.natCast_succ, Post, zrow, List.replicate_zero, List.map_nil]
theorem free1_ok (p q : Int × Int) (hp : (-3000000 ≤ p.1 ∧ p.1 ≤ 3000000) ∧ -3000000 ≤ p.2 ∧ p.2 ≤ 3000000) (hq : (-3000000 ≤ q.1 ∧ q.1 ≤ 3000000) ∧ -3000000 ≤ q.2 ∧ q.2 ≤ 3000000) :
    FnOk Tryd.prog 141 [.agg (prAv p), .agg (prAv q)] (.int .i64 (orL (List.zipWith (fun a b => a - b) [p.1, p.2] [q.1, q.2]))) [] := by
  have ko := cmpOr_ok [p.1 - q.1, p.2 - q.2]
  rw [show List.zipWith (fun a b => a - b) [p.1, p.2] [q.1, q.2] = [p.1 - q.1, p.2 - q.2] from rfl]
  generalize orL [p.1 - q.1, p.2 - q.2] = o at *
  obtain ⟨a, b⟩ := p
  obtain ⟨c, d⟩ := q
  dsimp only [prAv] at *
  refine FnOk.of_vc Tryd.func141 rfl (by decide) (by simp [Tryd.f141]) [.tmp 4] rfl fun w0 T0 _ => ?_
  simp only [Tryd.f141, argEnv]
  (repeat' first | with_reducible (first | intro _ | refine rc ?_ | refine rl ?_ | refine rh ?_ | refine rt ?_ | refine rf ?_ | refine rs ?_ | refine And.intro ?_ ?_) | omega | simp (maxSteps := 1000000) only [go_sem, simprocAttr, ↓reduceIte, Int.cast_ofNat_Int])
  refine VcCall.k (ko) ?_
  (repeat' first | with_reducible (first | intro _ | refine rc ?_ | refine rl ?_ | refine rh ?_ | refine rt ?_ | refine rf ?_ | refine rs ?_ | refine And.intro ?_ ?_) | omega | simp (maxSteps := 1000000) only [go_sem, simprocAttr, ↓reduceIte])
  refine Ret.auto 0 ?_ rfl ?_ <;> simp only [go_sem, reduceCtorEq, reduceIte, Nat.reduceEqDiff, Nat.reduceLT, Nat.reduceLeDiff, Int.natCast_succ, Post]
def PrOk (p : Int × Int) : Prop := ((-3000000 ≤ p.1 ∧ p.1 ≤ 3000000) ∧ -3000000 ≤ p.2 ∧ p.2 ≤ 3000000) ∧ p.1 < p.2
def kP (p : Int × Int) : List Int := [p.1, p.2]
set_option maxHeartbeats 4000000 in
theorem free_ok (l : List (Int × Int)) (hl : ∀ p, p ∈ l → PrOk p) (hne : 1 ≤ l.length) (hln : l.length ≤ 6000) (least : Int) (hl1 : 1 ≤ least) (hl2 : least ≤ 4000) :
    FnOk Tryd.prog 111 [.ro (prR l), .int .i64 least] (.tup [.int .i64 (gapOf least l).1, .int .i64 (gapOf least l).2]) [] := by
  have hcf : ∀ p q, PrOk p → PrOk q → (orL (List.zipWith (fun a b => a - b) [p.1, p.2] [q.1, q.2]) < 0 ↔ kP p < kP q) := fun p q _ _ => orL_lt sub_i rfl
  obtain ⟨l', hp, hs, kS⟩ := sortFK_io prAv 2 (fun _ => rfl) (by decide) Tryd.lSoP ⟨_, Tryd.func140, by kernel_rfl, by kernel_rfl⟩ Tryd.isAgg156 Tryd.sizeOf156 156 (good := PrOk)
    (cmpOrd_key (key := kP) hcf) 141 [] rfl (fun x y hx hy => FnFr.of_ok (free1_ok x y hx.1 hy.1) rfl rfl) l hl (fun x hx y hy => by
      unfold PrOk at hx
      unfold prAv at hy
      rcases List.mem_cons.1 hy with rfl | hy
      · exact InK_i64.2 (by omega)
      · rw [List.mem_singleton] at hy; subst hy; exact InK_i64.2 (by omega)) (by omega)
  have hsk := sortedBy_key (good := PrOk) hcf (fun x hx => hl x (hp.mem_iff.1 hx)) hs
  have hsort : l'.Pairwise fun p q => p.1 ≤ q.1 := hsk.imp fun {p q} h => by
    by_cases hlt : q.1 < p.1
    · exact absurd (List.cons_lt_cons_iff.2 (.inl hlt)) h
    · omega
  have hgap : gapFold least l' = gapOf least l := gapOf_sorted hl1 hp (fun q hq => (hl q hq).2) hsort
  have hl' : ∀ p, p ∈ l' → PrOk p := fun p hpm => hl p (hp.mem_iff.1 hpm)
  have hln' := hp.length_eq
  cases l' with
  | nil => simp at hln'; omega
  | cons p m =>
  rw [show gapFold least (p :: m) = (m.foldl (gapStep least) (p.2, 0, 0)).2 from rfl] at hgap
  have hp0 := hl' p (.head _)
  unfold PrOk at hp0
  have hbd := fun k => foldl_bd (least := least) (lo := -3000000) (hi := 3000000) (s0 := (p.2, 0, 0)) (by dsimp only; omega) (by dsimp only; omega) (by omega) (m.take k) (fun q hq => (hl' q (.tail _ (List.mem_of_mem_take hq))).1)
  have hstp : ∀ k, k < m.length → (m.take (k + 1)).foldl (gapStep least) (p.2, 0, 0) = gapStep least ((m.take k).foldl (gapStep least) (p.2, 0, 0)) (m.getD k (0, 0)) := fun k hk => by
    rw [List.take_succ_eq_append_getElem hk, getD_lt hk, List.foldl_append]; rfl
  rw [← hgap]
  have he0 : ([.int .i64 p.1, .int .i64 p.2] :: m.map prAv : List (List AV)).getD 0 [] = [.int .i64 p.1, .int .i64 p.2] := rfl
  have hm : ∀ k, k < m.length → (m.map prAv).getD k [] = _ := fun k hk => pr_elem m hk
  have hmk : ∀ k, k < m.length → PrOk (m.getD k (0, 0)) := fun k hk => hl' _ (.tail _ (by rw [getD_lt hk]; exact List.getElem_mem _))
  obtain ⟨p1, p2⟩ := p
  rw [List.length_cons] at hln'
  simp only [List.map_cons, prAv] at kS
  have htk : (m.map prAv).take m.length = m.map prAv := List.take_of_length_le (by rw [List.length_map]; exact Nat.le_refl _)
  refine FnOk.of_vc Tryd.func111 rfl (by decide) (by simp [Tryd.f111]) [.tmp 4, .tmp 5] rfl fun w0 T0 _ => ?_
  simp only [Tryd.f111, argEnv]
  (repeat' first | with_reducible (first | intro _ | refine rc ?_ | refine rl ?_ | refine rh ?_ | refine rt ?_ | refine rf ?_ | refine rs ?_ | refine And.intro ?_ ?_) | omega | simp (maxSteps := 1000000) only [go_sem, simprocAttr, ↓reduceIte])
  refine VcCall.fr (FnFr.of_ok (clonePr_ok l (by omega)) rfl (by simp [noRoRows, noRoItem, noRoRow, noRoL, noRo, prAv])) (by simp only [noIdR_ok, argOkL, argOk, allOk, argOkN, List.drop_zero, lk, reduceIte, reduceCtorEq, Nat.reduceEqDiff, Option.some.injEq, Item.row.injEq, Item.box.injEq, AV.ro.injEq, exists_eq_left, exists_and_left, exists_eq_left', exists_eq_right, and_assoc, and_true, true_and, List.cons.injEq, exists_eq', exists_eq]) 1 rfl (by simp [rowsB, Item.below, belowR_ok]) ?_
  (repeat' first | with_reducible (first | intro _ | refine rc ?_ | refine rl ?_ | refine rh ?_ | refine rt ?_ | refine rf ?_ | refine rs ?_ | refine And.intro ?_ ?_) | omega | simp (maxSteps := 1000000) only [go_sem, simprocAttr, ↓reduceIte, renR_ok])
  refine VcCall.ioL [0] kS rfl (by simp [noRoRows, noRoItem, noRoRow, noRoL, noRo, prAv]) (by decide) ⟨_, _, .inl ⟨rfl, rfl⟩, ⟨_, _, .inr (by simp only [noIdR_ok, argOkL, argOk, allOk, argOkN, List.drop_zero, lk, reduceIte, reduceCtorEq, Nat.reduceEqDiff, Option.some.injEq, Item.row.injEq, Item.box.injEq, AV.ro.injEq, exists_eq_left, exists_and_left, exists_eq_left', exists_eq_right, and_assoc, and_true, true_and, List.cons.injEq, exists_eq', exists_eq, delL, del]), rfl, rfl⟩, rfl⟩ (by simp [subOk, ioN, lk, Item.ren, Item.below, renR_ok, belowR_ok]) covO1 1 (by decide) rfl (by simp [rowsB, Item.below, belowR, belowL, Fv.below, prAv]) ?_
  (repeat' first | with_reducible (first | intro _ | refine rc ?_ | refine rl ?_ | refine rh ?_ | refine rt ?_ | refine rf ?_ | refine rs ?_ | refine And.intro ?_ ?_) | omega | simp (maxSteps := 1000000) only [go_sem, simprocAttr, ↓reduceIte, S.ioS, ioRows, ioN, delL, Item.ren, renR_ok, noIdR_ok, htk, Int.toNat_natCast, Nat.add_sub_cancel, List.getD_cons_zero, List.drop_succ_cons, List.drop_zero, List.length_cons, List.length_nil, List.length_map, elemA, subRow, Int.cast_ofNat_Int, List.getElem?_cons_zero, List.cons_append, List.nil_append, Nat.sub_self, Nat.add_zero, List.filter])
  refine VcLoop.intro (fun k : Nat => ⟨47, [(22, .int .i64 k), (21, .int .i64 m.length), (20, .ro (.objs 2 (m.map prAv))), (7, .int .i64 ((m.take k).foldl (gapStep least) (p2, 0, 0)).1), (4, .int .i64 ((m.take k).foldl (gapStep least) (p2, 0, 0)).2.1), (5, .int .i64 ((m.take k).foldl (gapStep least) (p2, 0, 0)).2.2), (1, .int .i64 least)], [], 0⟩) (fun k => k ≤ m.length) (fun k => m.length - k) 0 ?_ (Nat.zero_le _) fun k hk => ?_
  · refine Ent.auto0 rfl ?_ ?_ <;> simp only [go_sem, reduceCtorEq, reduceIte, Nat.reduceEqDiff, Nat.reduceLT, Nat.reduceLeDiff, Int.natCast_succ, List.take_zero, List.foldl_nil]
  by_cases hlt : k < m.length
  · have ek := hm k hlt
    have hpk := hmk k hlt
    have hst := hstp k hlt
    have hb1 := hbd k
    generalize (m.take k).foldl (gapStep least) (p2, 0, 0) = s at *
    generalize m.getD k (0, 0) = q at *
    obtain ⟨e, bf, bm⟩ := s
    obtain ⟨f, t⟩ := q
    unfold PrOk at hpk
    dsimp only at hpk hb1 ek
    change _ = (max e t, if least ≤ f - e ∧ bm < f - e then (e, f - e) else (bf, bm)) at hst
    by_cases hc : least ≤ f - e ∧ bm < f - e
    · rw [if_pos hc] at hst
      (repeat' first | with_reducible (first | intro _ | refine rc ?_ | refine rl ?_ | refine rh ?_ | refine rt ?_ | refine rf ?_ | refine rs ?_ | refine And.intro ?_ ?_) | omega | simp (maxSteps := 1000000) only [go_sem, simprocAttr, ↓reduceIte, List.length_map, elemA, ek, minmax, Bool.false_eq_true])
      refine ⟨k + 1, Ent.auto0 rfl ?_ ?_, by omega, by omega⟩ <;> simp only [go_sem, reduceCtorEq, reduceIte, Nat.reduceEqDiff, Nat.reduceLT, Nat.reduceLeDiff, Int.natCast_succ, hst]
    · rw [if_neg hc] at hst
      (repeat' first | with_reducible (first | intro _ | refine rc ?_ | refine rl ?_ | refine rh ?_ | refine rt ?_ | refine rf ?_ | refine rs ?_ | refine And.intro ?_ ?_) | omega | simp (maxSteps := 1000000) only [go_sem, simprocAttr, ↓reduceIte, List.length_map, elemA, ek, minmax, Bool.false_eq_true])
      refine ⟨k + 1, Ent.auto0 rfl ?_ ?_, by omega, by omega⟩ <;> simp only [go_sem, reduceCtorEq, reduceIte, Nat.reduceEqDiff, Nat.reduceLT, Nat.reduceLeDiff, Int.natCast_succ, hst]
  · have e : k = m.length := by omega
    subst e
    rw [List.take_length]
    (repeat' first | with_reducible (first | intro _ | refine rc ?_ | refine rl ?_ | refine rh ?_ | refine rt ?_ | refine rf ?_ | refine rs ?_ | refine And.intro ?_ ?_) | omega | simp (maxSteps := 1000000) only [go_sem, simprocAttr, ↓reduceIte])
    refine Ret.auto 0 ?_ rfl ?_ <;> simp only [go_sem, reduceCtorEq, reduceIte, Nat.reduceEqDiff, Nat.reduceLT, Nat.reduceLeDiff, Int.natCast_succ, Post]
end Go.Fv.P
