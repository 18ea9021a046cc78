/-
  A part of the proof of the claim: walks over the program's functions and the plain laws that these need. No condition of its own.
-/
import Derived.Test.YtingcghleidhmaaGreatDoorQLinesMatchCardPart4
import Derived.Test.YtingcghleidhmaaGreatDoorQLinesMatchCardPart3
import Derived.Test.YtingcghleidhmaaGreatDoorQLinesMatchCardPart2
import Derived.Test.YtingcghleidhmaaGreatDoorFvPart9
/-! The arguments of Split: a box of a page and gaps. -/
namespace Go.Fv.Q
open Go Go.Proofs
set_option linter.unusedSimpArgs false
set_option linter.unusedVariables false
set_option maxRecDepth 8000

/-- A box that lies in a page. -/
def BoxIn (w h X Y W H : Int) : Prop := 1 ≤ W ∧ 1 ≤ H ∧ 0 ≤ X ∧ 0 ≤ Y ∧ X + W ≤ w ∧ Y + H ≤ h
instance (w h X Y W H : Int) : Decidable (BoxIn w h X Y W H) := inferInstanceAs (Decidable (_ ∧ _))
set_option maxHeartbeats 2000000 in
theorem inPageG_ok (w h : Nat) (hw1 : 1 ≤ w) (hw : w ≤ 4000) (hh1 : 1 ≤ h) (hh : h ≤ 4000) (X Y W H : Int) :
    FnOk Tryz.prog 95 [.agg [.int .i64 X, .int .i64 Y, .int .i64 W, .int .i64 H], .int .i64 w, .int .i64 h] (.int .i64 (if BoxIn w h X Y W H then 0 else 13)) [] := by
  refine FnOk.of_vc Tryz.func95 rfl (by decide) (by simp [Tryz.f95]) [.tmp 6] rfl fun w0 T0 _ => ?_
  simp only [Tryz.f95, argEnv]
  by_cases hb : BoxIn w h X Y W H
  · rw [if_pos hb]
    unfold BoxIn at hb
    (repeat' first | with_reducible (first | refine Asm.intro fun _ => ?_ | refine Chk.g ?_ | refine AnyI.i64 fun _ _ => ?_ | refine LetW.g ?_ | refine LetW.h ?_ | refine Ite.t fun _ => ?_ | refine Ite.f fun _ => ?_ | refine Ite.decide (fun _ => ?_) fun _ => ?_ | refine Ite.bool (fun _ => ?_) fun _ => ?_ | refine And.intro ?_ ?_) | omega | simp (maxSteps := 1000000) only [go_sem, reduceCtorEq, Nat.reduceLT, Nat.reduceLeDiff, reduceIte, ↓reduceIte, Nat.reduceEqDiff, Nat.reduceAdd, Nat.reduceMul, Nat.reduceSub, Int.reduceLE, Int.reduceLT, Int.reduceNeg, Int.reduceToNat])
    all_goals refine Ret.auto 0 ?_ rfl ?_ <;> simp only [go_sem, reduceCtorEq, reduceIte, Nat.reduceEqDiff, Nat.reduceLT, Nat.reduceLeDiff, Int.natCast_succ, Post]
  · rw [if_neg hb]
    unfold BoxIn at hb
    (repeat' first | with_reducible (first | refine Asm.intro fun _ => ?_ | refine Chk.g ?_ | refine AnyI.i64 fun _ _ => ?_ | refine LetW.g ?_ | refine LetW.h ?_ | refine Ite.t fun _ => ?_ | refine Ite.f fun _ => ?_ | refine Ite.decide (fun _ => ?_) fun _ => ?_ | refine Ite.bool (fun _ => ?_) fun _ => ?_ | refine And.intro ?_ ?_) | omega | simp (maxSteps := 1000000) only [go_sem, reduceCtorEq, Nat.reduceLT, Nat.reduceLeDiff, reduceIte, ↓reduceIte, Nat.reduceEqDiff, Nat.reduceAdd, Nat.reduceMul, Nat.reduceSub, Int.reduceLE, Int.reduceLT, Int.reduceNeg, Int.reduceToNat])
    all_goals refine Ret.auto 0 ?_ rfl ?_ <;> simp only [go_sem, reduceCtorEq, reduceIte, Nat.reduceEqDiff, Nat.reduceLT, Nat.reduceLeDiff, Int.natCast_succ, Post]
set_option maxHeartbeats 1000000 in
theorem checkBothG_ok (w h : Nat) (hw1 : 1 ≤ w) (hw : w ≤ 4000) (hh1 : 1 ≤ h) (hh : h ≤ 4000) (hwh : w * h ≤ 1048576) (p : List Bool) (hp : p.length = w * h) (X Y W H : Int) :
    FnOk Tryz.prog 58 [.agg [.int .i64 w, .int .i64 h, .ro (.bools p)], .agg [.int .i64 X, .int .i64 Y, .int .i64 W, .int .i64 H]] (.int .i64 (if BoxIn w h X Y W H then 0 else 13)) [] := by
  have k1 := checkBits_ok w h p
  rw [bitsErr_ok hw1 hw hh1 hh hwh hp] at k1
  have k2 := inPageG_ok w h hw1 hw hh1 hh X Y W H
  generalize (if BoxIn w h X Y W H then (0 : Int) else 13) = e at *
  refine FnOk.of_vc Tryz.func58 rfl (by decide) (by simp [Tryz.f58]) [.tmp 4] rfl fun w0 T0 _ => ?_
  simp only [Tryz.f58, argEnv]
  (repeat' first | with_reducible (first | refine Asm.intro fun _ => ?_ | refine Chk.g ?_ | refine AnyI.i64 fun _ _ => ?_ | refine LetW.g ?_ | refine LetW.h ?_ | refine Ite.t fun _ => ?_ | refine Ite.f fun _ => ?_ | refine Ite.decide (fun _ => ?_) fun _ => ?_ | refine Ite.bool (fun _ => ?_) fun _ => ?_ | refine And.intro ?_ ?_) | omega | simp (maxSteps := 1000000) only [go_sem, reduceCtorEq, Nat.reduceLT, Nat.reduceLeDiff, reduceIte, ↓reduceIte, Nat.reduceEqDiff, Nat.reduceAdd, Nat.reduceMul, Nat.reduceSub, Int.reduceLE, Int.reduceLT, Int.reduceNeg, Int.reduceToNat])
  refine VcCall.fr (FnFr.of_ok (k1) rfl rfl) (by simp only [noIdR_ok, argOkL, argOk, allOk, argOkN, List.drop_zero, lk, reduceIte, reduceCtorEq, Nat.reduceEqDiff, Option.some.injEq, Item.row.injEq, Item.box.injEq, AV.ro.injEq, exists_eq_left, exists_and_left, exists_eq_left', exists_eq_right, and_assoc, and_true, true_and, List.cons.injEq, exists_eq', exists_eq]) 0 rfl (by simp [rowsB]) ?_
  (repeat' first | with_reducible (first | refine Asm.intro fun _ => ?_ | refine Chk.g ?_ | refine AnyI.i64 fun _ _ => ?_ | refine LetW.g ?_ | refine LetW.h ?_ | refine Ite.t fun _ => ?_ | refine Ite.f fun _ => ?_ | refine Ite.decide (fun _ => ?_) fun _ => ?_ | refine Ite.bool (fun _ => ?_) fun _ => ?_ | refine And.intro ?_ ?_) | omega | simp (maxSteps := 1000000) only [go_sem, reduceCtorEq, Nat.reduceLT, Nat.reduceLeDiff, reduceIte, ↓reduceIte, Nat.reduceEqDiff, Nat.reduceAdd, Nat.reduceMul, Nat.reduceSub, Int.reduceLE, Int.reduceLT, Int.reduceNeg, Int.reduceToNat])
  refine VcCall.fr (FnFr.of_ok (k2) rfl rfl) (by simp only [noIdR_ok, argOkL, argOk, allOk, argOkN, List.drop_zero, lk, reduceIte, reduceCtorEq, Nat.reduceEqDiff, Option.some.injEq, Item.row.injEq, Item.box.injEq, AV.ro.injEq, exists_eq_left, exists_and_left, exists_eq_left', exists_eq_right, and_assoc, and_true, true_and, List.cons.injEq, exists_eq', exists_eq]) 0 rfl (by simp [rowsB]) ?_
  (repeat' first | with_reducible (first | refine Asm.intro fun _ => ?_ | refine Chk.g ?_ | refine AnyI.i64 fun _ _ => ?_ | refine LetW.g ?_ | refine LetW.h ?_ | refine Ite.t fun _ => ?_ | refine Ite.f fun _ => ?_ | refine Ite.decide (fun _ => ?_) fun _ => ?_ | refine Ite.bool (fun _ => ?_) fun _ => ?_ | refine And.intro ?_ ?_) | omega | simp (maxSteps := 1000000) only [go_sem, reduceCtorEq, Nat.reduceLT, Nat.reduceLeDiff, reduceIte, ↓reduceIte, Nat.reduceEqDiff, Nat.reduceAdd, Nat.reduceMul, Nat.reduceSub, Int.reduceLE, Int.reduceLT, Int.reduceNeg, Int.reduceToNat])
  refine Ret.auto 0 ?_ rfl ?_ <;> simp only [go_sem, reduceCtorEq, reduceIte, Nat.reduceEqDiff, Nat.reduceLT, Nat.reduceLeDiff, Int.natCast_succ, Post]
theorem refInQ (n lo hi : Int) (q : Bool) (hq : decide (lo ≤ n ∧ n ≤ hi) = q) : FnOk Tryz.prog 66 [.int .i64 n, .int .i64 lo, .int .i64 hi] (.bool q) [] := by
  rw [← hq]; exact refIn_ok n lo hi
set_option maxHeartbeats 4000000 in
theorem refInPage_ok (w h : Nat) (hw1 : 1 ≤ w) (hw : w ≤ 4000) (hh1 : 1 ≤ h) (hh : h ≤ 4000) (X Y W H : Int) :
    FnOk Tryz.prog 31 [.agg [.int .i64 X, .int .i64 Y, .int .i64 W, .int .i64 H], .int .i64 w, .int .i64 h] (.bool (decide (BoxIn w h X Y W H))) [] := by
  refine FnOk.of_vc Tryz.func31 rfl (by decide) (by simp [Tryz.f31]) [.tmp 6] rfl fun w0 T0 _ => ?_
  simp only [Tryz.f31, argEnv]
  (repeat' first | with_reducible (first | refine Asm.intro fun _ => ?_ | refine Chk.g ?_ | refine AnyI.i64 fun _ _ => ?_ | refine LetW.g ?_ | refine LetW.h ?_ | refine Ite.t fun _ => ?_ | refine Ite.f fun _ => ?_ | refine Ite.decide (fun _ => ?_) fun _ => ?_ | refine Ite.bool (fun _ => ?_) fun _ => ?_ | refine And.intro ?_ ?_) | omega | simp (maxSteps := 1000000) only [go_sem, reduceCtorEq, Nat.reduceLT, Nat.reduceLeDiff, reduceIte, ↓reduceIte, Nat.reduceEqDiff, Nat.reduceAdd, Nat.reduceMul, Nat.reduceSub, Int.reduceLE, Int.reduceLT, Int.reduceNeg, Int.reduceToNat])
  by_cases h1 : 0 ≤ X ∧ X ≤ (w : Int) - 1
  · have k1 := refInQ X 0 ((w : Int) - 1) true (decide_eq_true h1)
    refine VcCall.fr (FnFr.of_ok (k1) rfl rfl) (by simp only [noIdR_ok, argOkL, argOk, allOk, argOkN, List.drop_zero, lk, reduceIte, reduceCtorEq, Nat.reduceEqDiff, Option.some.injEq, Item.row.injEq, Item.box.injEq, AV.ro.injEq, exists_eq_left, exists_and_left, exists_eq_left', exists_eq_right, and_assoc, and_true, true_and, List.cons.injEq, exists_eq', exists_eq]) 0 rfl (by simp [rowsB]) ?_
    (repeat' first | with_reducible (first | refine Asm.intro fun _ => ?_ | refine Chk.g ?_ | refine AnyI.i64 fun _ _ => ?_ | refine LetW.g ?_ | refine LetW.h ?_ | refine Ite.t fun _ => ?_ | refine Ite.f fun _ => ?_ | refine Ite.decide (fun _ => ?_) fun _ => ?_ | refine Ite.bool (fun _ => ?_) fun _ => ?_ | refine And.intro ?_ ?_) | omega | simp (maxSteps := 1000000) only [go_sem, reduceCtorEq, Nat.reduceLT, Nat.reduceLeDiff, reduceIte, ↓reduceIte, Nat.reduceEqDiff, Nat.reduceAdd, Nat.reduceMul, Nat.reduceSub, Int.reduceLE, Int.reduceLT, Int.reduceNeg, Int.reduceToNat])
    by_cases h2 : 0 ≤ Y ∧ Y ≤ (h : Int) - 1
    · have k2 := refInQ Y 0 ((h : Int) - 1) true (decide_eq_true h2)
      refine VcCall.fr (FnFr.of_ok (k2) rfl rfl) (by simp only [noIdR_ok, argOkL, argOk, allOk, argOkN, List.drop_zero, lk, reduceIte, reduceCtorEq, Nat.reduceEqDiff, Option.some.injEq, Item.row.injEq, Item.box.injEq, AV.ro.injEq, exists_eq_left, exists_and_left, exists_eq_left', exists_eq_right, and_assoc, and_true, true_and, List.cons.injEq, exists_eq', exists_eq]) 0 rfl (by simp [rowsB]) ?_
      (repeat' first | with_reducible (first | refine Asm.intro fun _ => ?_ | refine Chk.g ?_ | refine AnyI.i64 fun _ _ => ?_ | refine LetW.g ?_ | refine LetW.h ?_ | refine Ite.t fun _ => ?_ | refine Ite.f fun _ => ?_ | refine Ite.decide (fun _ => ?_) fun _ => ?_ | refine Ite.bool (fun _ => ?_) fun _ => ?_ | refine And.intro ?_ ?_) | omega | simp (maxSteps := 1000000) only [go_sem, reduceCtorEq, Nat.reduceLT, Nat.reduceLeDiff, reduceIte, ↓reduceIte, Nat.reduceEqDiff, Nat.reduceAdd, Nat.reduceMul, Nat.reduceSub, Int.reduceLE, Int.reduceLT, Int.reduceNeg, Int.reduceToNat])
      by_cases h3 : 1 ≤ W ∧ W ≤ (w : Int) - X
      · have k3 := refInQ W 1 ((w : Int) - X) true (decide_eq_true h3)
        refine VcCall.fr (FnFr.of_ok (k3) rfl rfl) (by simp only [noIdR_ok, argOkL, argOk, allOk, argOkN, List.drop_zero, lk, reduceIte, reduceCtorEq, Nat.reduceEqDiff, Option.some.injEq, Item.row.injEq, Item.box.injEq, AV.ro.injEq, exists_eq_left, exists_and_left, exists_eq_left', exists_eq_right, and_assoc, and_true, true_and, List.cons.injEq, exists_eq', exists_eq]) 0 rfl (by simp [rowsB]) ?_
        (repeat' first | with_reducible (first | refine Asm.intro fun _ => ?_ | refine Chk.g ?_ | refine AnyI.i64 fun _ _ => ?_ | refine LetW.g ?_ | refine LetW.h ?_ | refine Ite.t fun _ => ?_ | refine Ite.f fun _ => ?_ | refine Ite.decide (fun _ => ?_) fun _ => ?_ | refine Ite.bool (fun _ => ?_) fun _ => ?_ | refine And.intro ?_ ?_) | omega | simp (maxSteps := 1000000) only [go_sem, reduceCtorEq, Nat.reduceLT, Nat.reduceLeDiff, reduceIte, ↓reduceIte, Nat.reduceEqDiff, Nat.reduceAdd, Nat.reduceMul, Nat.reduceSub, Int.reduceLE, Int.reduceLT, Int.reduceNeg, Int.reduceToNat])
        have k4 := refIn_ok H 1 ((h : Int) - Y)
        rw [show decide (1 ≤ H ∧ H ≤ (h : Int) - Y) = decide (BoxIn w h X Y W H) from decide_eq_decide.2 (by unfold BoxIn; omega)] at k4
        refine VcCall.fr (FnFr.of_ok (k4) rfl rfl) (by simp only [noIdR_ok, argOkL, argOk, allOk, argOkN, List.drop_zero, lk, reduceIte, reduceCtorEq, Nat.reduceEqDiff, Option.some.injEq, Item.row.injEq, Item.box.injEq, AV.ro.injEq, exists_eq_left, exists_and_left, exists_eq_left', exists_eq_right, and_assoc, and_true, true_and, List.cons.injEq, exists_eq', exists_eq]) 0 rfl (by simp [rowsB]) ?_
        (repeat' first | with_reducible (first | refine Asm.intro fun _ => ?_ | refine Chk.g ?_ | refine AnyI.i64 fun _ _ => ?_ | refine LetW.g ?_ | refine LetW.h ?_ | refine Ite.t fun _ => ?_ | refine Ite.f fun _ => ?_ | refine Ite.decide (fun _ => ?_) fun _ => ?_ | refine Ite.bool (fun _ => ?_) fun _ => ?_ | refine And.intro ?_ ?_) | omega | simp (maxSteps := 1000000) only [go_sem, reduceCtorEq, Nat.reduceLT, Nat.reduceLeDiff, reduceIte, ↓reduceIte, Nat.reduceEqDiff, Nat.reduceAdd, Nat.reduceMul, Nat.reduceSub, Int.reduceLE, Int.reduceLT, Int.reduceNeg, Int.reduceToNat])
        refine Ret.auto 0 ?_ rfl ?_ <;> simp only [go_sem, reduceCtorEq, reduceIte, Nat.reduceEqDiff, Nat.reduceLT, Nat.reduceLeDiff, Int.natCast_succ, Post]
      · have k3 := refInQ W 1 ((w : Int) - X) false (decide_eq_false h3)
        rw [show decide (BoxIn w h X Y W H) = false from decide_eq_false (by unfold BoxIn; omega)]
        refine VcCall.fr (FnFr.of_ok (k3) rfl rfl) (by simp only [noIdR_ok, argOkL, argOk, allOk, argOkN, List.drop_zero, lk, reduceIte, reduceCtorEq, Nat.reduceEqDiff, Option.some.injEq, Item.row.injEq, Item.box.injEq, AV.ro.injEq, exists_eq_left, exists_and_left, exists_eq_left', exists_eq_right, and_assoc, and_true, true_and, List.cons.injEq, exists_eq', exists_eq]) 0 rfl (by simp [rowsB]) ?_
        (repeat' first | with_reducible (first | refine Asm.intro fun _ => ?_ | refine Chk.g ?_ | refine AnyI.i64 fun _ _ => ?_ | refine LetW.g ?_ | refine LetW.h ?_ | refine Ite.t fun _ => ?_ | refine Ite.f fun _ => ?_ | refine Ite.decide (fun _ => ?_) fun _ => ?_ | refine Ite.bool (fun _ => ?_) fun _ => ?_ | refine And.intro ?_ ?_) | omega | simp (maxSteps := 1000000) only [go_sem, reduceCtorEq, Nat.reduceLT, Nat.reduceLeDiff, reduceIte, ↓reduceIte, Nat.reduceEqDiff, Nat.reduceAdd, Nat.reduceMul, Nat.reduceSub, Int.reduceLE, Int.reduceLT, Int.reduceNeg, Int.reduceToNat])
        refine Ret.auto 0 ?_ rfl ?_ <;> simp only [go_sem, reduceCtorEq, reduceIte, Nat.reduceEqDiff, Nat.reduceLT, Nat.reduceLeDiff, Int.natCast_succ, Post]
    · have k2 := refInQ Y 0 ((h : Int) - 1) false (decide_eq_false h2)
      rw [show decide (BoxIn w h X Y W H) = false from decide_eq_false (by unfold BoxIn; omega)]
      refine VcCall.fr (FnFr.of_ok (k2) rfl rfl) (by simp only [noIdR_ok, argOkL, argOk, allOk, argOkN, List.drop_zero, lk, reduceIte, reduceCtorEq, Nat.reduceEqDiff, Option.some.injEq, Item.row.injEq, Item.box.injEq, AV.ro.injEq, exists_eq_left, exists_and_left, exists_eq_left', exists_eq_right, and_assoc, and_true, true_and, List.cons.injEq, exists_eq', exists_eq]) 0 rfl (by simp [rowsB]) ?_
      (repeat' first | with_reducible (first | refine Asm.intro fun _ => ?_ | refine Chk.g ?_ | refine AnyI.i64 fun _ _ => ?_ | refine LetW.g ?_ | refine LetW.h ?_ | refine Ite.t fun _ => ?_ | refine Ite.f fun _ => ?_ | refine Ite.decide (fun _ => ?_) fun _ => ?_ | refine Ite.bool (fun _ => ?_) fun _ => ?_ | refine And.intro ?_ ?_) | omega | simp (maxSteps := 1000000) only [go_sem, reduceCtorEq, Nat.reduceLT, Nat.reduceLeDiff, reduceIte, ↓reduceIte, Nat.reduceEqDiff, Nat.reduceAdd, Nat.reduceMul, Nat.reduceSub, Int.reduceLE, Int.reduceLT, Int.reduceNeg, Int.reduceToNat])
      refine Ret.auto 0 ?_ rfl ?_ <;> simp only [go_sem, reduceCtorEq, reduceIte, Nat.reduceEqDiff, Nat.reduceLT, Nat.reduceLeDiff, Int.natCast_succ, Post]
  · have k1 := refInQ X 0 ((w : Int) - 1) false (decide_eq_false h1)
    rw [show decide (BoxIn w h X Y W H) = false from decide_eq_false (by unfold BoxIn; omega)]
    refine VcCall.fr (FnFr.of_ok (k1) rfl rfl) (by simp only [noIdR_ok, argOkL, argOk, allOk, argOkN, List.drop_zero, lk, reduceIte, reduceCtorEq, Nat.reduceEqDiff, Option.some.injEq, Item.row.injEq, Item.box.injEq, AV.ro.injEq, exists_eq_left, exists_and_left, exists_eq_left', exists_eq_right, and_assoc, and_true, true_and, List.cons.injEq, exists_eq', exists_eq]) 0 rfl (by simp [rowsB]) ?_
    (repeat' first | with_reducible (first | refine Asm.intro fun _ => ?_ | refine Chk.g ?_ | refine AnyI.i64 fun _ _ => ?_ | refine LetW.g ?_ | refine LetW.h ?_ | refine Ite.t fun _ => ?_ | refine Ite.f fun _ => ?_ | refine Ite.decide (fun _ => ?_) fun _ => ?_ | refine Ite.bool (fun _ => ?_) fun _ => ?_ | refine And.intro ?_ ?_) | omega | simp (maxSteps := 1000000) only [go_sem, reduceCtorEq, Nat.reduceLT, Nat.reduceLeDiff, reduceIte, ↓reduceIte, Nat.reduceEqDiff, Nat.reduceAdd, Nat.reduceMul, Nat.reduceSub, Int.reduceLE, Int.reduceLT, Int.reduceNeg, Int.reduceToNat])
    refine Ret.auto 0 ?_ rfl ?_ <;> simp only [go_sem, reduceCtorEq, reduceIte, Nat.reduceEqDiff, Nat.reduceLT, Nat.reduceLeDiff, Int.natCast_succ, Post]
/-- The error of a box of a page and of gaps. -/
def boxErr (w h X Y W H : Int) (g : List Int) : Int := if BoxIn w h X Y W H then (if g.any gapBad = true then 3 else 0) else 13
theorem boxErr_step (e : Int) (x : Int) : firstErr [e, if gapBad x = true then 3 else 0] = if e = 0 then (if gapBad x = true then 3 else 0) else e := by
  unfold firstErr
  split
  · unfold firstErr
    split <;> simp_all [firstErr]
  · rfl
def errGo (e : Int) : List Int → Int
  | [] => e
  | x :: l => errGo (if e = 0 then (if gapBad x = true then 3 else 0) else e) l
theorem errGo_ne {e : Int} (h : e ≠ 0) : ∀ l, errGo e l = e
  | [] => rfl
  | x :: l => by unfold errGo; rw [if_neg h, errGo_ne h l]
theorem errGo_zero : ∀ l : List Int, errGo 0 l = if l.any gapBad = true then 3 else 0
  | [] => rfl
  | x :: l => by
    unfold errGo
    rw [if_pos rfl]
    cases hx : gapBad x with
    | true => simp [hx, errGo_ne (show (3 : Int) ≠ 0 by decide) l]
    | false => simp [hx, errGo_zero l]
set_option maxHeartbeats 4000000 in
theorem boxError_ok (w h : Nat) (hw1 : 1 ≤ w) (hw : w ≤ 4000) (hh1 : 1 ≤ h) (hh : h ≤ 4000) (p : List Bool) (X Y W H : Int) (g : List Int) (hg : g.length ≤ 1000) :
    FnOk Tryz.prog 9 [.agg [.int .i64 w, .int .i64 h, .ro (.bools p)], .agg [.int .i64 X, .int .i64 Y, .int .i64 W, .int .i64 H], .ro (.ints .i64 g)] (.int .i64 (boxErr w h X Y W H g)) [] := by
  have kP := refInPage_ok w h hw1 hw hh1 hh X Y W H
  have kW := when_ok (!decide (BoxIn w h X Y W H)) 13
  have he : boxErr w h X Y W H g = errGo (if (!decide (BoxIn w h X Y W H)) = true then 13 else 0) g := by
    unfold boxErr
    by_cases hb : BoxIn w h X Y W H
    · rw [if_pos hb, decide_eq_true hb, ← errGo_zero]; rfl
    · rw [if_neg hb, decide_eq_false hb]; exact (errGo_ne (by decide) g).symm
  rw [he]
  generalize (if (!decide (BoxIn w h X Y W H)) = true then (13 : Int) else 0) = e0 at *
  generalize decide (BoxIn w h X Y W H) = q at *
  refine FnOk.of_vc Tryz.func9 rfl (by decide) (by simp [Tryz.f9]) [.tmp 6] rfl fun w0 T0 _ => ?_
  simp only [Tryz.f9, argEnv]
  (repeat' first | with_reducible (first | refine Asm.intro fun _ => ?_ | refine Chk.g ?_ | refine AnyI.i64 fun _ _ => ?_ | refine LetW.g ?_ | refine LetW.h ?_ | refine Ite.t fun _ => ?_ | refine Ite.f fun _ => ?_ | refine Ite.decide (fun _ => ?_) fun _ => ?_ | refine Ite.bool (fun _ => ?_) fun _ => ?_ | refine And.intro ?_ ?_) | omega | simp (maxSteps := 1000000) only [go_sem, reduceCtorEq, Nat.reduceLT, Nat.reduceLeDiff, reduceIte, ↓reduceIte, Nat.reduceEqDiff, Nat.reduceAdd, Nat.reduceMul, Nat.reduceSub, Int.reduceLE, Int.reduceLT, Int.reduceNeg, Int.reduceToNat])
  refine VcCall.fr (FnFr.of_ok (kP) rfl rfl) (by simp only [noIdR_ok, argOkL, argOk, allOk, argOkN, List.drop_zero, lk, reduceIte, reduceCtorEq, Nat.reduceEqDiff, Option.some.injEq, Item.row.injEq, Item.box.injEq, AV.ro.injEq, exists_eq_left, exists_and_left, exists_eq_left', exists_eq_right, and_assoc, and_true, true_and, List.cons.injEq, exists_eq', exists_eq]) 0 rfl (by simp [rowsB]) ?_
  (repeat' first | with_reducible (first | refine Asm.intro fun _ => ?_ | refine Chk.g ?_ | refine AnyI.i64 fun _ _ => ?_ | refine LetW.g ?_ | refine LetW.h ?_ | refine Ite.t fun _ => ?_ | refine Ite.f fun _ => ?_ | refine Ite.decide (fun _ => ?_) fun _ => ?_ | refine Ite.bool (fun _ => ?_) fun _ => ?_ | refine And.intro ?_ ?_) | omega | simp (maxSteps := 1000000) only [go_sem, reduceCtorEq, Nat.reduceLT, Nat.reduceLeDiff, reduceIte, ↓reduceIte, Nat.reduceEqDiff, Nat.reduceAdd, Nat.reduceMul, Nat.reduceSub, Int.reduceLE, Int.reduceLT, Int.reduceNeg, Int.reduceToNat])
  refine VcCall.fr (FnFr.of_ok (kW) rfl rfl) (by simp only [noIdR_ok, argOkL, argOk, allOk, argOkN, List.drop_zero, lk, reduceIte, reduceCtorEq, Nat.reduceEqDiff, Option.some.injEq, Item.row.injEq, Item.box.injEq, AV.ro.injEq, exists_eq_left, exists_and_left, exists_eq_left', exists_eq_right, and_assoc, and_true, true_and, List.cons.injEq, exists_eq', exists_eq]) 0 rfl (by simp [rowsB]) ?_
  (repeat' first | with_reducible (first | refine Asm.intro fun _ => ?_ | refine Chk.g ?_ | refine AnyI.i64 fun _ _ => ?_ | refine LetW.g ?_ | refine LetW.h ?_ | refine Ite.t fun _ => ?_ | refine Ite.f fun _ => ?_ | refine Ite.decide (fun _ => ?_) fun _ => ?_ | refine Ite.bool (fun _ => ?_) fun _ => ?_ | refine And.intro ?_ ?_) | omega | simp (maxSteps := 1000000) only [go_sem, reduceCtorEq, Nat.reduceLT, Nat.reduceLeDiff, reduceIte, ↓reduceIte, Nat.reduceEqDiff, Nat.reduceAdd, Nat.reduceMul, Nat.reduceSub, Int.reduceLE, Int.reduceLT, Int.reduceNeg, Int.reduceToNat])
  refine VcLoop.intro (fun x : Nat × Int => ⟨36, [(20, .int .i64 x.1), (19, .int .i64 g.length), (18, .ro (.ints .i64 g)), (7, .int .i64 x.2)], [], 0⟩) (fun x => x.1 ≤ g.length ∧ errGo x.2 (g.drop x.1) = errGo e0 g) (fun x => g.length - x.1) (0, e0) ?_ ⟨Nat.zero_le _, rfl⟩ fun x hx => ?_
  · refine Ent.auto0 rfl ?_ ?_ <;> simp only [go_sem, reduceCtorEq, reduceIte, Nat.reduceEqDiff, Nat.reduceLT, Nat.reduceLeDiff, Int.natCast_succ]
  obtain ⟨i, e⟩ := x
  obtain ⟨hi, hs⟩ := hx
  dsimp only at hi hs ⊢
  (repeat' first | with_reducible (first | refine Asm.intro fun _ => ?_ | refine Chk.g ?_ | refine AnyI.i64 fun _ _ => ?_ | refine LetW.g ?_ | refine LetW.h ?_ | refine Ite.t fun _ => ?_ | refine Ite.f fun _ => ?_ | refine Ite.decide (fun _ => ?_) fun _ => ?_ | refine Ite.bool (fun _ => ?_) fun _ => ?_ | refine And.intro ?_ ?_) | omega | simp (maxSteps := 1000000) only [go_sem, reduceCtorEq, Nat.reduceLT, Nat.reduceLeDiff, reduceIte, ↓reduceIte, Nat.reduceEqDiff, Nat.reduceAdd, Nat.reduceMul, Nat.reduceSub, Int.reduceLE, Int.reduceLT, Int.reduceNeg, Int.reduceToNat])
  · have hlt : i < g.length := by omega
    have hd : g.drop i = g.getD i 0 :: g.drop (i + 1) := by rw [List.drop_eq_getElem_cons hlt, getD_lt hlt]
    rw [hd, errGo] at hs
    have k3 := when_ok (gapBad (g.getD i 0)) 3
    have k4 := first_ok [e, if gapBad (g.getD i 0) = true then 3 else 0] (by show 2 ≤ 1000; decide)
    rw [boxErr_step] at k4
    unfold gapBad at k3 k4 hs
    generalize g.getD i 0 = x at *
    simp only [decide_eq_true_eq] at k3 k4 hs
    generalize (if x < 1 ∨ 4000 < x then (3 : Int) else 0) = e3 at *
    refine VcCall.fr (FnFr.of_ok (k3) rfl rfl) (by simp only [noIdR_ok, argOkL, argOk, allOk, argOkN, List.drop_zero, lk, reduceIte, reduceCtorEq, Nat.reduceEqDiff, Option.some.injEq, Item.row.injEq, Item.box.injEq, AV.ro.injEq, exists_eq_left, exists_and_left, exists_eq_left', exists_eq_right, and_assoc, and_true, true_and, List.cons.injEq, exists_eq', exists_eq]) 0 rfl (by simp [rowsB]) ?_
    (repeat' first | with_reducible (first | refine Asm.intro fun _ => ?_ | refine Chk.g ?_ | refine AnyI.i64 fun _ _ => ?_ | refine LetW.g ?_ | refine LetW.h ?_ | refine Ite.t fun _ => ?_ | refine Ite.f fun _ => ?_ | refine Ite.decide (fun _ => ?_) fun _ => ?_ | refine Ite.bool (fun _ => ?_) fun _ => ?_ | refine And.intro ?_ ?_) | omega | simp (maxSteps := 1000000) only [go_sem, reduceCtorEq, Nat.reduceLT, Nat.reduceLeDiff, reduceIte, ↓reduceIte, Nat.reduceEqDiff, Nat.reduceAdd, Nat.reduceMul, Nat.reduceSub, Int.reduceLE, Int.reduceLT, Int.reduceNeg, Int.reduceToNat])
    refine VcCall.fr (FnFr.of_ok (k4) rfl rfl) (by simp only [noIdR_ok, argOkL, argOk, allOk, argOkN, List.drop_zero, lk, reduceIte, reduceCtorEq, Nat.reduceEqDiff, Option.some.injEq, Item.row.injEq, Item.box.injEq, AV.ro.injEq, exists_eq_left, exists_and_left, exists_eq_left', exists_eq_right, and_assoc, and_true, true_and, List.cons.injEq, exists_eq', exists_eq]) 0 rfl (by simp [rowsB]) ?_
    (repeat' first | with_reducible (first | refine Asm.intro fun _ => ?_ | refine Chk.g ?_ | refine AnyI.i64 fun _ _ => ?_ | refine LetW.g ?_ | refine LetW.h ?_ | refine Ite.t fun _ => ?_ | refine Ite.f fun _ => ?_ | refine Ite.decide (fun _ => ?_) fun _ => ?_ | refine Ite.bool (fun _ => ?_) fun _ => ?_ | refine And.intro ?_ ?_) | omega | simp (maxSteps := 1000000) only [go_sem, reduceCtorEq, Nat.reduceLT, Nat.reduceLeDiff, reduceIte, ↓reduceIte, Nat.reduceEqDiff, Nat.reduceAdd, Nat.reduceMul, Nat.reduceSub, Int.reduceLE, Int.reduceLT, Int.reduceNeg, Int.reduceToNat])
    refine ⟨(i + 1, if e = 0 then e3 else e), Ent.auto0 rfl ?_ ?_, ⟨by dsimp only; omega, hs⟩, by dsimp only; omega⟩ <;> simp only [go_sem, reduceCtorEq, reduceIte, Nat.reduceEqDiff, Nat.reduceLT, Nat.reduceLeDiff, Int.natCast_succ]
    all_goals rfl
  · have e : i = g.length := by omega
    subst e
    rw [List.drop_length, errGo] at hs
    subst hs
    refine Ret.auto 0 ?_ rfl ?_ <;> simp only [go_sem, reduceCtorEq, reduceIte, Nat.reduceEqDiff, Nat.reduceLT, Nat.reduceLeDiff, Int.natCast_succ, Post]
end Go.Fv.Q

/-! Rows, Words and Gap: the walk. -/
namespace Go.Fv.Q
open Go Go.Proofs
set_option linter.unusedSimpArgs false
set_option linter.unusedVariables false
set_option linter.unnecessarySimpa false
set_option maxRecDepth 8000

set_option maxHeartbeats 4000000 in
theorem inside_ok (w h : Nat) (hw1 : 1 ≤ w) (hw : w ≤ 4000) (hh1 : 1 ≤ h) (hh : h ≤ 4000) (hwh : w * h ≤ 1048576) (p : List Bool) (hp : p.length = w * h) (X Y W H gap : Int) (hb : boxErr w h X Y W H [gap] = 0) :
    FnOk Tryz.prog 27 [.agg [.int .i64 w, .int .i64 h, .ro (.bools p)], .agg [.int .i64 X, .int .i64 Y, .int .i64 W, .int .i64 H], .int .i64 gap] (.tup [.ptr 0 0, .int .i64 0]) [(0, .box 96 [.int .i64 w, .int .i64 h, .ro (.bools p), .cell (sumL p w h), .int .i64 0, .int .i64 0, .nilS])] := by
  have k1 := checkBothG_ok w h hw1 hw hh1 hh hwh p hp X Y W H
  have k2 := badGap_ok [gap] (by show 1 ≤ 1000; decide)
  have hbi : BoxIn w h X Y W H := by
    unfold boxErr at hb
    by_cases h0 : BoxIn w h X Y W H
    · exact h0
    · rw [if_neg h0] at hb; exact absurd hb (by decide)
  have hg : [gap].any gapBad = false := by
    unfold boxErr at hb
    rw [if_pos hbi] at hb
    cases hc : [gap].any gapBad with
    | false => rfl
    | true => rw [hc] at hb; exact absurd hb (by decide)
  rw [if_pos hbi] at k1
  rw [hg] at k2
  have k3 := inkSums_ok w h hw hh p hp
  unfold sumL
  generalize sumsAt (inkV p) w ((w + 1) * (h + 1)) ((w + 1) * (h + 1)) = SL at *
  refine FnOk.of_vc Tryz.func27 rfl (by decide) (by simp [Tryz.f27]) [.tmp 6, .tmp 7] rfl fun w0 T0 _ => ?_
  simp only [Tryz.f27, argEnv]
  (repeat' first | with_reducible (first | refine Asm.intro fun _ => ?_ | refine Chk.g ?_ | refine AnyI.i64 fun _ _ => ?_ | refine LetW.g ?_ | refine LetW.h ?_ | refine Ite.t fun _ => ?_ | refine Ite.f fun _ => ?_ | refine Ite.decide (fun _ => ?_) fun _ => ?_ | refine Ite.bool (fun _ => ?_) fun _ => ?_ | refine And.intro ?_ ?_) | omega | simp (maxSteps := 1000000) only [go_sem, reduceCtorEq, Nat.reduceLT, Nat.reduceLeDiff, reduceIte, ↓reduceIte, Nat.reduceEqDiff, Nat.reduceAdd, Nat.reduceMul, Nat.reduceSub, Int.reduceLE, Int.reduceLT, Int.reduceNeg, Int.reduceToNat])
  refine VcCall.fr (FnFr.of_ok (k1) rfl rfl) (by simp only [noIdR_ok, argOkL, argOk, allOk, argOkN, List.drop_zero, lk, reduceIte, reduceCtorEq, Nat.reduceEqDiff, Option.some.injEq, Item.row.injEq, Item.box.injEq, AV.ro.injEq, exists_eq_left, exists_and_left, exists_eq_left', exists_eq_right, and_assoc, and_true, true_and, List.cons.injEq, exists_eq', exists_eq]) 0 rfl (by simp [rowsB]) ?_
  (repeat' first | with_reducible (first | refine Asm.intro fun _ => ?_ | refine Chk.g ?_ | refine AnyI.i64 fun _ _ => ?_ | refine LetW.g ?_ | refine LetW.h ?_ | refine Ite.t fun _ => ?_ | refine Ite.f fun _ => ?_ | refine Ite.decide (fun _ => ?_) fun _ => ?_ | refine Ite.bool (fun _ => ?_) fun _ => ?_ | refine And.intro ?_ ?_) | omega | simp (maxSteps := 1000000) only [go_sem, reduceCtorEq, Nat.reduceLT, Nat.reduceLeDiff, reduceIte, ↓reduceIte, Nat.reduceEqDiff, Nat.reduceAdd, Nat.reduceMul, Nat.reduceSub, Int.reduceLE, Int.reduceLT, Int.reduceNeg, Int.reduceToNat])
  refine VcCall.fr (FnFr.of_ok (k2) rfl rfl) (by simp only [noIdR_ok, argOkL, argOk, allOk, argOkN, List.drop_zero, lk, reduceIte, reduceCtorEq, Nat.reduceEqDiff, Option.some.injEq, Item.row.injEq, Item.box.injEq, AV.ro.injEq, exists_eq_left, exists_and_left, exists_eq_left', exists_eq_right, and_assoc, and_true, true_and, List.cons.injEq, exists_eq', exists_eq]) 0 rfl (by simp [rowsB]) ?_
  (repeat' first | with_reducible (first | refine Asm.intro fun _ => ?_ | refine Chk.g ?_ | refine AnyI.i64 fun _ _ => ?_ | refine LetW.g ?_ | refine LetW.h ?_ | refine Ite.t fun _ => ?_ | refine Ite.f fun _ => ?_ | refine Ite.decide (fun _ => ?_) fun _ => ?_ | refine Ite.bool (fun _ => ?_) fun _ => ?_ | refine And.intro ?_ ?_) | omega | simp (maxSteps := 1000000) only [go_sem, reduceCtorEq, Nat.reduceLT, Nat.reduceLeDiff, reduceIte, ↓reduceIte, Nat.reduceEqDiff, Nat.reduceAdd, Nat.reduceMul, Nat.reduceSub, Int.reduceLE, Int.reduceLT, Int.reduceNeg, Int.reduceToNat])
  refine VcDraw.lex [4] [] (by kernel_rfl) (by kernel_rfl) ?_
  (repeat' first | with_reducible (first | refine Asm.intro fun _ => ?_ | refine Chk.g ?_ | refine AnyI.i64 fun _ _ => ?_ | refine LetW.g ?_ | refine LetW.h ?_ | refine Ite.t fun _ => ?_ | refine Ite.f fun _ => ?_ | refine Ite.decide (fun _ => ?_) fun _ => ?_ | refine Ite.bool (fun _ => ?_) fun _ => ?_ | refine And.intro ?_ ?_) | omega | simp (maxSteps := 1000000) only [go_sem, reduceCtorEq, Nat.reduceLT, Nat.reduceLeDiff, reduceIte, ↓reduceIte, Nat.reduceEqDiff, Nat.reduceAdd, Nat.reduceMul, Nat.reduceSub, Int.reduceLE, Int.reduceLT, Int.reduceNeg, Int.reduceToNat])
  refine QV.intro (.cell [.int .i64 w, .int .i64 h, .ro (.ints .i64 SL)]) ?_ ?_
  · (repeat' first | with_reducible (first | refine Asm.intro fun _ => ?_ | refine Chk.g ?_ | refine AnyI.i64 fun _ _ => ?_ | refine LetW.g ?_ | refine LetW.h ?_ | refine Ite.t fun _ => ?_ | refine Ite.f fun _ => ?_ | refine Ite.decide (fun _ => ?_) fun _ => ?_ | refine Ite.bool (fun _ => ?_) fun _ => ?_ | refine And.intro ?_ ?_) | omega | simp (maxSteps := 1000000) only [go_sem, reduceCtorEq, Nat.reduceLT, Nat.reduceLeDiff, reduceIte, ↓reduceIte, Nat.reduceEqDiff, Nat.reduceAdd, Nat.reduceMul, Nat.reduceSub, Int.reduceLE, Int.reduceLT, Int.reduceNeg, Int.reduceToNat])
    refine VcCall.ro (.cell [.int .i64 w, .int .i64 h, .ro (.ints .i64 SL)]) (FnFr.of_ok k3 rfl (by simp [noRoRows, noRoItem, noRoRow, noRoL, noRo])) (by simp only [noIdR_ok, argOkL, argOk, allOk, argOkN, List.drop_zero, lk, reduceIte, reduceCtorEq, Nat.reduceEqDiff, Option.some.injEq, Item.row.injEq, Item.box.injEq, AV.ro.injEq, exists_eq_left, exists_and_left, exists_eq_left', exists_eq_right, and_assoc, and_true, true_and, List.cons.injEq, exists_eq', exists_eq]) (by simp [outOk, argOkL, argOk, argOkN, lk]; exact ⟨_, _, ⟨rfl, rfl⟩, by simp [allOk, argOkN, lk, noIdR_ok]⟩) rfl ?_
    (repeat' first | with_reducible (first | refine Asm.intro fun _ => ?_ | refine Chk.g ?_ | refine AnyI.i64 fun _ _ => ?_ | refine LetW.g ?_ | refine LetW.h ?_ | refine Ite.t fun _ => ?_ | refine Ite.f fun _ => ?_ | refine Ite.decide (fun _ => ?_) fun _ => ?_ | refine Ite.bool (fun _ => ?_) fun _ => ?_ | refine And.intro ?_ ?_) | omega | simp (maxSteps := 1000000) only [go_sem, reduceCtorEq, Nat.reduceLT, Nat.reduceLeDiff, reduceIte, ↓reduceIte, Nat.reduceEqDiff, Nat.reduceAdd, Nat.reduceMul, Nat.reduceSub, Int.reduceLE, Int.reduceLT, Int.reduceNeg, Int.reduceToNat])
  (repeat' first | with_reducible (first | refine Asm.intro fun _ => ?_ | refine Chk.g ?_ | refine AnyI.i64 fun _ _ => ?_ | refine LetW.g ?_ | refine LetW.h ?_ | refine Ite.t fun _ => ?_ | refine Ite.f fun _ => ?_ | refine Ite.decide (fun _ => ?_) fun _ => ?_ | refine Ite.bool (fun _ => ?_) fun _ => ?_ | refine And.intro ?_ ?_) | omega | simp (maxSteps := 1000000) only [go_sem, reduceCtorEq, Nat.reduceLT, Nat.reduceLeDiff, reduceIte, ↓reduceIte, Nat.reduceEqDiff, Nat.reduceAdd, Nat.reduceMul, Nat.reduceSub, Int.reduceLE, Int.reduceLT, Int.reduceNeg, Int.reduceToNat])
  refine Ret.auto 1 ?_ rfl ?_ <;> simp only [go_sem, reduceCtorEq, reduceIte, Nat.reduceEqDiff, Nat.reduceLT, Nat.reduceLeDiff, Int.natCast_succ, Post]
set_option maxHeartbeats 4000000 in
theorem insideE_ok (w h : Nat) (hw1 : 1 ≤ w) (hw : w ≤ 4000) (hh1 : 1 ≤ h) (hh : h ≤ 4000) (hwh : w * h ≤ 1048576) (p : List Bool) (hp : p.length = w * h) (X Y W H gap : Int) (hb : boxErr w h X Y W H [gap] ≠ 0) :
    FnOk Tryz.prog 27 [.agg [.int .i64 w, .int .i64 h, .ro (.bools p)], .agg [.int .i64 X, .int .i64 Y, .int .i64 W, .int .i64 H], .int .i64 gap] (.tup [.raw (.pointer none), .int .i64 (boxErr w h X Y W H [gap])]) [] := by
  have k1 := checkBothG_ok w h hw1 hw hh1 hh hwh p hp X Y W H
  have k2 := badGap_ok [gap] (by show 1 ≤ 1000; decide)
  by_cases hbi : BoxIn w h X Y W H
  · have hg : [gap].any gapBad = true := by
      unfold boxErr at hb
      rw [if_pos hbi] at hb
      cases hc : [gap].any gapBad with
      | true => rfl
      | false => rw [hc] at hb; exact absurd rfl hb
    have e : boxErr w h X Y W H [gap] = 3 := by unfold boxErr; rw [if_pos hbi, hg]; rfl
    rw [e]
    rw [if_pos hbi] at k1
    rw [hg] at k2
    refine FnOk.of_vc Tryz.func27 rfl (by decide) (by simp [Tryz.f27]) [.tmp 6, .tmp 7] rfl fun w0 T0 _ => ?_
    simp only [Tryz.f27, argEnv]
    (repeat' first | with_reducible (first | refine Asm.intro fun _ => ?_ | refine Chk.g ?_ | refine AnyI.i64 fun _ _ => ?_ | refine LetW.g ?_ | refine LetW.h ?_ | refine Ite.t fun _ => ?_ | refine Ite.f fun _ => ?_ | refine Ite.decide (fun _ => ?_) fun _ => ?_ | refine Ite.bool (fun _ => ?_) fun _ => ?_ | refine And.intro ?_ ?_) | omega | simp (maxSteps := 1000000) only [go_sem, reduceCtorEq, Nat.reduceLT, Nat.reduceLeDiff, reduceIte, ↓reduceIte, Nat.reduceEqDiff, Nat.reduceAdd, Nat.reduceMul, Nat.reduceSub, Int.reduceLE, Int.reduceLT, Int.reduceNeg, Int.reduceToNat])
    refine VcCall.fr (FnFr.of_ok (k1) rfl rfl) (by simp only [noIdR_ok, argOkL, argOk, allOk, argOkN, List.drop_zero, lk, reduceIte, reduceCtorEq, Nat.reduceEqDiff, Option.some.injEq, Item.row.injEq, Item.box.injEq, AV.ro.injEq, exists_eq_left, exists_and_left, exists_eq_left', exists_eq_right, and_assoc, and_true, true_and, List.cons.injEq, exists_eq', exists_eq]) 0 rfl (by simp [rowsB]) ?_
    (repeat' first | with_reducible (first | refine Asm.intro fun _ => ?_ | refine Chk.g ?_ | refine AnyI.i64 fun _ _ => ?_ | refine LetW.g ?_ | refine LetW.h ?_ | refine Ite.t fun _ => ?_ | refine Ite.f fun _ => ?_ | refine Ite.decide (fun _ => ?_) fun _ => ?_ | refine Ite.bool (fun _ => ?_) fun _ => ?_ | refine And.intro ?_ ?_) | omega | simp (maxSteps := 1000000) only [go_sem, reduceCtorEq, Nat.reduceLT, Nat.reduceLeDiff, reduceIte, ↓reduceIte, Nat.reduceEqDiff, Nat.reduceAdd, Nat.reduceMul, Nat.reduceSub, Int.reduceLE, Int.reduceLT, Int.reduceNeg, Int.reduceToNat])
    refine VcCall.fr (FnFr.of_ok (k2) rfl rfl) (by simp only [noIdR_ok, argOkL, argOk, allOk, argOkN, List.drop_zero, lk, reduceIte, reduceCtorEq, Nat.reduceEqDiff, Option.some.injEq, Item.row.injEq, Item.box.injEq, AV.ro.injEq, exists_eq_left, exists_and_left, exists_eq_left', exists_eq_right, and_assoc, and_true, true_and, List.cons.injEq, exists_eq', exists_eq]) 0 rfl (by simp [rowsB]) ?_
    (repeat' first | with_reducible (first | refine Asm.intro fun _ => ?_ | refine Chk.g ?_ | refine AnyI.i64 fun _ _ => ?_ | refine LetW.g ?_ | refine LetW.h ?_ | refine Ite.t fun _ => ?_ | refine Ite.f fun _ => ?_ | refine Ite.decide (fun _ => ?_) fun _ => ?_ | refine Ite.bool (fun _ => ?_) fun _ => ?_ | refine And.intro ?_ ?_) | omega | simp (maxSteps := 1000000) only [go_sem, reduceCtorEq, Nat.reduceLT, Nat.reduceLeDiff, reduceIte, ↓reduceIte, Nat.reduceEqDiff, Nat.reduceAdd, Nat.reduceMul, Nat.reduceSub, Int.reduceLE, Int.reduceLT, Int.reduceNeg, Int.reduceToNat])
    refine Ret.auto 0 ?_ rfl ?_ <;> simp only [go_sem, reduceCtorEq, reduceIte, Nat.reduceEqDiff, Nat.reduceLT, Nat.reduceLeDiff, Int.natCast_succ, Post]
  · have e : boxErr w h X Y W H [gap] = 13 := by unfold boxErr; rw [if_neg hbi]
    rw [e]
    rw [if_neg hbi] at k1
    refine FnOk.of_vc Tryz.func27 rfl (by decide) (by simp [Tryz.f27]) [.tmp 6, .tmp 7] rfl fun w0 T0 _ => ?_
    simp only [Tryz.f27, argEnv]
    (repeat' first | with_reducible (first | refine Asm.intro fun _ => ?_ | refine Chk.g ?_ | refine AnyI.i64 fun _ _ => ?_ | refine LetW.g ?_ | refine LetW.h ?_ | refine Ite.t fun _ => ?_ | refine Ite.f fun _ => ?_ | refine Ite.decide (fun _ => ?_) fun _ => ?_ | refine Ite.bool (fun _ => ?_) fun _ => ?_ | refine And.intro ?_ ?_) | omega | simp (maxSteps := 1000000) only [go_sem, reduceCtorEq, Nat.reduceLT, Nat.reduceLeDiff, reduceIte, ↓reduceIte, Nat.reduceEqDiff, Nat.reduceAdd, Nat.reduceMul, Nat.reduceSub, Int.reduceLE, Int.reduceLT, Int.reduceNeg, Int.reduceToNat])
    refine VcCall.fr (FnFr.of_ok (k1) rfl rfl) (by simp only [noIdR_ok, argOkL, argOk, allOk, argOkN, List.drop_zero, lk, reduceIte, reduceCtorEq, Nat.reduceEqDiff, Option.some.injEq, Item.row.injEq, Item.box.injEq, AV.ro.injEq, exists_eq_left, exists_and_left, exists_eq_left', exists_eq_right, and_assoc, and_true, true_and, List.cons.injEq, exists_eq', exists_eq]) 0 rfl (by simp [rowsB]) ?_
    (repeat' first | with_reducible (first | refine Asm.intro fun _ => ?_ | refine Chk.g ?_ | refine AnyI.i64 fun _ _ => ?_ | refine LetW.g ?_ | refine LetW.h ?_ | refine Ite.t fun _ => ?_ | refine Ite.f fun _ => ?_ | refine Ite.decide (fun _ => ?_) fun _ => ?_ | refine Ite.bool (fun _ => ?_) fun _ => ?_ | refine And.intro ?_ ?_) | omega | simp (maxSteps := 1000000) only [go_sem, reduceCtorEq, Nat.reduceLT, Nat.reduceLeDiff, reduceIte, ↓reduceIte, Nat.reduceEqDiff, Nat.reduceAdd, Nat.reduceMul, Nat.reduceSub, Int.reduceLE, Int.reduceLT, Int.reduceNeg, Int.reduceToNat])
    refine Ret.auto 0 ?_ rfl ?_ <;> simp only [go_sem, reduceCtorEq, reduceIte, Nat.reduceEqDiff, Nat.reduceLT, Nat.reduceLeDiff, Int.natCast_succ, Post]
set_option maxHeartbeats 4000000 in
theorem rowsF_ok (w h : Nat) (hw1 : 1 ≤ w) (hw : w ≤ 4000) (hh1 : 1 ≤ h) (hh : h ≤ 4000) (hwh : w * h ≤ 1048576) (p : List Bool) (hp : p.length = w * h) (b : Nb) (hb : InP b w h) (gap : Nat) (hg1 : 1 ≤ gap) (hg : gap ≤ 4000) (he : boxErr w h b.x b.y b.w b.h [(gap : Int)] = 0) :
    FnOk Tryz.prog 7 [.agg [.int .i64 w, .int .i64 h, .ro (.bools p)], .agg b.av, .int .i64 gap] (.tup [.own 0, .int .i64 0]) [(0, .row 26 (nbs ((linesR p w b gap).map (rowBox p w b))))] := by
  have kI := inside_ok w h hw1 hw hh1 hh hwh p hp b.x b.y b.w b.h gap he
  have kR := rows_ok p w h hw hh 0 0 b hb gap hg1 hg
  generalize (linesR p w b gap).map (rowBox p w b) = L at *
  obtain ⟨bx, by', bw, bh⟩ := b
  simp only [ctr, Nb.av] at *
  simp only [Int.natCast_zero] at kR
  generalize sumL p w h = sc at *
  refine FnOk.of_vc Tryz.func7 rfl (by decide) (by simp [Tryz.f7]) [.tmp 6, .tmp 7] rfl fun w0 T0 _ => ?_
  simp only [Tryz.f7, argEnv]
  (repeat' first | with_reducible (first | refine Asm.intro fun _ => ?_ | refine Chk.g ?_ | refine AnyI.i64 fun _ _ => ?_ | refine LetW.g ?_ | refine LetW.h ?_ | refine Ite.t fun _ => ?_ | refine Ite.f fun _ => ?_ | refine Ite.decide (fun _ => ?_) fun _ => ?_ | refine Ite.bool (fun _ => ?_) fun _ => ?_ | refine And.intro ?_ ?_) | omega | simp (maxSteps := 1000000) only [go_sem, reduceCtorEq, Nat.reduceLT, Nat.reduceLeDiff, reduceIte, ↓reduceIte, Nat.reduceEqDiff, Nat.reduceAdd, Nat.reduceMul, Nat.reduceSub, Int.reduceLE, Int.reduceLT, Int.reduceNeg, Int.reduceToNat])
  refine VcCall.ros (.tup [.cell [.int .i64 w, .int .i64 h, .ro (.bools p), .cell sc, .int .i64 0, .int .i64 0, .ro (nbs [])], .int .i64 0]) kI (by simp only [noIdR_ok, argOkL, argOk, allOk, argOkN, List.drop_zero, lk, reduceIte, reduceCtorEq, Nat.reduceEqDiff, Option.some.injEq, Item.row.injEq, Item.box.injEq, AV.ro.injEq, exists_eq_left, exists_and_left, exists_eq_left', exists_eq_right, and_assoc, and_true, true_and, List.cons.injEq, exists_eq', exists_eq]) (by simp [outOk, argOkL, allOk, argOk, argOkN, lk, nbs]; exact ⟨_, _, ⟨rfl, rfl⟩, by simp [allOk, argOkN, lk, noIdR_ok, nilRow]⟩) rfl ?_
  (repeat' first | with_reducible (first | refine Asm.intro fun _ => ?_ | refine Chk.g ?_ | refine AnyI.i64 fun _ _ => ?_ | refine LetW.g ?_ | refine LetW.h ?_ | refine Ite.t fun _ => ?_ | refine Ite.f fun _ => ?_ | refine Ite.decide (fun _ => ?_) fun _ => ?_ | refine Ite.bool (fun _ => ?_) fun _ => ?_ | refine And.intro ?_ ?_) | omega | simp (maxSteps := 1000000) only [go_sem, reduceCtorEq, Nat.reduceLT, Nat.reduceLeDiff, reduceIte, ↓reduceIte, Nat.reduceEqDiff, Nat.reduceAdd, Nat.reduceMul, Nat.reduceSub, Int.reduceLE, Int.reduceLT, Int.reduceNeg, Int.reduceToNat])
  refine VcCall.fr (FnFr.of_ok kR rfl (by simp [noRoRows, noRoItem, noRoRow, noRoL, noRo, nbs, Nb.av])) (by simp only [noIdR_ok, argOkL, argOk, allOk, argOkN, List.drop_zero, lk, reduceIte, reduceCtorEq, Nat.reduceEqDiff, Option.some.injEq, Item.row.injEq, Item.box.injEq, AV.ro.injEq, exists_eq_left, exists_and_left, exists_eq_left', exists_eq_right, and_assoc, and_true, true_and, List.cons.injEq, exists_eq', exists_eq, nbs]) 1 rfl (by simp [rowsB, Item.below, nbs, belowR_ok]) ?_
  (repeat' first | with_reducible (first | refine Asm.intro fun _ => ?_ | refine Chk.g ?_ | refine AnyI.i64 fun _ _ => ?_ | refine LetW.g ?_ | refine LetW.h ?_ | refine Ite.t fun _ => ?_ | refine Ite.f fun _ => ?_ | refine Ite.decide (fun _ => ?_) fun _ => ?_ | refine Ite.bool (fun _ => ?_) fun _ => ?_ | refine And.intro ?_ ?_) | omega | simp (maxSteps := 1000000) only [go_sem, reduceCtorEq, Nat.reduceLT, Nat.reduceLeDiff, reduceIte, ↓reduceIte, Nat.reduceEqDiff, Nat.reduceAdd, Nat.reduceMul, Nat.reduceSub, Int.reduceLE, Int.reduceLT, Int.reduceNeg, Int.reduceToNat, nbs, renR_ok])
  refine Ret.auto 1 ?_ rfl ?_ <;> simp only [go_sem, reduceCtorEq, reduceIte, Nat.reduceEqDiff, Nat.reduceLT, Nat.reduceLeDiff, Int.natCast_succ, Post, nbs, renR_ok, belowR_ok]
set_option maxHeartbeats 4000000 in
theorem rowsE_ok (w h : Nat) (hw1 : 1 ≤ w) (hw : w ≤ 4000) (hh1 : 1 ≤ h) (hh : h ≤ 4000) (hwh : w * h ≤ 1048576) (p : List Bool) (hp : p.length = w * h) (X Y W H gap : Int) (he : boxErr w h X Y W H [gap] ≠ 0) :
    FnOk Tryz.prog 7 [.agg [.int .i64 w, .int .i64 h, .ro (.bools p)], .agg [.int .i64 X, .int .i64 Y, .int .i64 W, .int .i64 H], .int .i64 gap] (.tup [.own 0, .int .i64 (boxErr w h X Y W H [gap])]) [(0, .row 26 (nbs []))] := by
  have kI := insideE_ok w h hw1 hw hh1 hh hwh p hp X Y W H gap he
  generalize boxErr w h X Y W H [gap] = E at *
  refine FnOk.of_vc Tryz.func7 rfl (by decide) (by simp [Tryz.f7]) [.tmp 6, .tmp 7] rfl fun w0 T0 _ => ?_
  simp only [Tryz.f7, argEnv]
  (repeat' first | with_reducible (first | refine Asm.intro fun _ => ?_ | refine Chk.g ?_ | refine AnyI.i64 fun _ _ => ?_ | refine LetW.g ?_ | refine LetW.h ?_ | refine Ite.t fun _ => ?_ | refine Ite.f fun _ => ?_ | refine Ite.decide (fun _ => ?_) fun _ => ?_ | refine Ite.bool (fun _ => ?_) fun _ => ?_ | refine And.intro ?_ ?_) | omega | simp (maxSteps := 1000000) only [go_sem, reduceCtorEq, Nat.reduceLT, Nat.reduceLeDiff, reduceIte, ↓reduceIte, Nat.reduceEqDiff, Nat.reduceAdd, Nat.reduceMul, Nat.reduceSub, Int.reduceLE, Int.reduceLT, Int.reduceNeg, Int.reduceToNat])
  refine VcCall.fr (FnFr.of_ok (kI) rfl rfl) (by simp only [noIdR_ok, argOkL, argOk, allOk, argOkN, List.drop_zero, lk, reduceIte, reduceCtorEq, Nat.reduceEqDiff, Option.some.injEq, Item.row.injEq, Item.box.injEq, AV.ro.injEq, exists_eq_left, exists_and_left, exists_eq_left', exists_eq_right, and_assoc, and_true, true_and, List.cons.injEq, exists_eq', exists_eq]) 0 rfl (by simp [rowsB]) ?_
  (repeat' first | with_reducible (first | refine Asm.intro fun _ => ?_ | refine Chk.g ?_ | refine AnyI.i64 fun _ _ => ?_ | refine LetW.g ?_ | refine LetW.h ?_ | refine Ite.t fun _ => ?_ | refine Ite.f fun _ => ?_ | refine Ite.decide (fun _ => ?_) fun _ => ?_ | refine Ite.bool (fun _ => ?_) fun _ => ?_ | refine And.intro ?_ ?_) | omega | simp (maxSteps := 1000000) only [go_sem, reduceCtorEq, Nat.reduceLT, Nat.reduceLeDiff, reduceIte, ↓reduceIte, Nat.reduceEqDiff, Nat.reduceAdd, Nat.reduceMul, Nat.reduceSub, Int.reduceLE, Int.reduceLT, Int.reduceNeg, Int.reduceToNat])
  refine Ret.auto 1 ?_ rfl ?_ <;> simp only [go_sem, reduceCtorEq, reduceIte, Nat.reduceEqDiff, Nat.reduceLT, Nat.reduceLeDiff, Int.natCast_succ, Post, nbs, renR_ok, belowR_ok, List.map_nil]
set_option maxHeartbeats 4000000 in
theorem wordsF_ok (w h : Nat) (hw1 : 1 ≤ w) (hw : w ≤ 4000) (hh1 : 1 ≤ h) (hh : h ≤ 4000) (hwh : w * h ≤ 1048576) (p : List Bool) (hp : p.length = w * h) (b : Nb) (hb : InP b w h) (gap : Nat) (hg1 : 1 ≤ gap) (hg : gap ≤ 4000) (he : boxErr w h b.x b.y b.w b.h [(gap : Int)] = 0) :
    FnOk Tryz.prog 8 [.agg [.int .i64 w, .int .i64 h, .ro (.bools p)], .agg b.av, .int .i64 gap] (.tup [.own 0, .int .i64 0]) [(0, .row 26 (nbs ((linesC p w b gap).map (wordBox p w b))))] := by
  have kI := inside_ok w h hw1 hw hh1 hh hwh p hp b.x b.y b.w b.h gap he
  have kR := words_ok p w h hw hh 0 0 b hb gap hg1 hg
  generalize (linesC p w b gap).map (wordBox p w b) = L at *
  obtain ⟨bx, by', bw, bh⟩ := b
  simp only [ctr, Nb.av] at *
  simp only [Int.natCast_zero] at kR
  generalize sumL p w h = sc at *
  refine FnOk.of_vc Tryz.func8 rfl (by decide) (by simp [Tryz.f8]) [.tmp 6, .tmp 7] rfl fun w0 T0 _ => ?_
  simp only [Tryz.f8, argEnv]
  (repeat' first | with_reducible (first | refine Asm.intro fun _ => ?_ | refine Chk.g ?_ | refine AnyI.i64 fun _ _ => ?_ | refine LetW.g ?_ | refine LetW.h ?_ | refine Ite.t fun _ => ?_ | refine Ite.f fun _ => ?_ | refine Ite.decide (fun _ => ?_) fun _ => ?_ | refine Ite.bool (fun _ => ?_) fun _ => ?_ | refine And.intro ?_ ?_) | omega | simp (maxSteps := 1000000) only [go_sem, reduceCtorEq, Nat.reduceLT, Nat.reduceLeDiff, reduceIte, ↓reduceIte, Nat.reduceEqDiff, Nat.reduceAdd, Nat.reduceMul, Nat.reduceSub, Int.reduceLE, Int.reduceLT, Int.reduceNeg, Int.reduceToNat])
  refine VcCall.ros (.tup [.cell [.int .i64 w, .int .i64 h, .ro (.bools p), .cell sc, .int .i64 0, .int .i64 0, .ro (nbs [])], .int .i64 0]) kI (by simp only [noIdR_ok, argOkL, argOk, allOk, argOkN, List.drop_zero, lk, reduceIte, reduceCtorEq, Nat.reduceEqDiff, Option.some.injEq, Item.row.injEq, Item.box.injEq, AV.ro.injEq, exists_eq_left, exists_and_left, exists_eq_left', exists_eq_right, and_assoc, and_true, true_and, List.cons.injEq, exists_eq', exists_eq]) (by simp [outOk, argOkL, allOk, argOk, argOkN, lk, nbs]; exact ⟨_, _, ⟨rfl, rfl⟩, by simp [allOk, argOkN, lk, noIdR_ok, nilRow]⟩) rfl ?_
  (repeat' first | with_reducible (first | refine Asm.intro fun _ => ?_ | refine Chk.g ?_ | refine AnyI.i64 fun _ _ => ?_ | refine LetW.g ?_ | refine LetW.h ?_ | refine Ite.t fun _ => ?_ | refine Ite.f fun _ => ?_ | refine Ite.decide (fun _ => ?_) fun _ => ?_ | refine Ite.bool (fun _ => ?_) fun _ => ?_ | refine And.intro ?_ ?_) | omega | simp (maxSteps := 1000000) only [go_sem, reduceCtorEq, Nat.reduceLT, Nat.reduceLeDiff, reduceIte, ↓reduceIte, Nat.reduceEqDiff, Nat.reduceAdd, Nat.reduceMul, Nat.reduceSub, Int.reduceLE, Int.reduceLT, Int.reduceNeg, Int.reduceToNat])
  refine VcCall.fr (FnFr.of_ok kR rfl (by simp [noRoRows, noRoItem, noRoRow, noRoL, noRo, nbs, Nb.av])) (by simp only [noIdR_ok, argOkL, argOk, allOk, argOkN, List.drop_zero, lk, reduceIte, reduceCtorEq, Nat.reduceEqDiff, Option.some.injEq, Item.row.injEq, Item.box.injEq, AV.ro.injEq, exists_eq_left, exists_and_left, exists_eq_left', exists_eq_right, and_assoc, and_true, true_and, List.cons.injEq, exists_eq', exists_eq, nbs]) 1 rfl (by simp [rowsB, Item.below, nbs, belowR_ok]) ?_
  (repeat' first | with_reducible (first | refine Asm.intro fun _ => ?_ | refine Chk.g ?_ | refine AnyI.i64 fun _ _ => ?_ | refine LetW.g ?_ | refine LetW.h ?_ | refine Ite.t fun _ => ?_ | refine Ite.f fun _ => ?_ | refine Ite.decide (fun _ => ?_) fun _ => ?_ | refine Ite.bool (fun _ => ?_) fun _ => ?_ | refine And.intro ?_ ?_) | omega | simp (maxSteps := 1000000) only [go_sem, reduceCtorEq, Nat.reduceLT, Nat.reduceLeDiff, reduceIte, ↓reduceIte, Nat.reduceEqDiff, Nat.reduceAdd, Nat.reduceMul, Nat.reduceSub, Int.reduceLE, Int.reduceLT, Int.reduceNeg, Int.reduceToNat, nbs, renR_ok])
  refine Ret.auto 1 ?_ rfl ?_ <;> simp only [go_sem, reduceCtorEq, reduceIte, Nat.reduceEqDiff, Nat.reduceLT, Nat.reduceLeDiff, Int.natCast_succ, Post, nbs, renR_ok, belowR_ok]
set_option maxHeartbeats 4000000 in
theorem wordsE_ok (w h : Nat) (hw1 : 1 ≤ w) (hw : w ≤ 4000) (hh1 : 1 ≤ h) (hh : h ≤ 4000) (hwh : w * h ≤ 1048576) (p : List Bool) (hp : p.length = w * h) (X Y W H gap : Int) (he : boxErr w h X Y W H [gap] ≠ 0) :
    FnOk Tryz.prog 8 [.agg [.int .i64 w, .int .i64 h, .ro (.bools p)], .agg [.int .i64 X, .int .i64 Y, .int .i64 W, .int .i64 H], .int .i64 gap] (.tup [.own 0, .int .i64 (boxErr w h X Y W H [gap])]) [(0, .row 26 (nbs []))] := by
  have kI := insideE_ok w h hw1 hw hh1 hh hwh p hp X Y W H gap he
  generalize boxErr w h X Y W H [gap] = E at *
  refine FnOk.of_vc Tryz.func8 rfl (by decide) (by simp [Tryz.f8]) [.tmp 6, .tmp 7] rfl fun w0 T0 _ => ?_
  simp only [Tryz.f8, argEnv]
  (repeat' first | with_reducible (first | refine Asm.intro fun _ => ?_ | refine Chk.g ?_ | refine AnyI.i64 fun _ _ => ?_ | refine LetW.g ?_ | refine LetW.h ?_ | refine Ite.t fun _ => ?_ | refine Ite.f fun _ => ?_ | refine Ite.decide (fun _ => ?_) fun _ => ?_ | refine Ite.bool (fun _ => ?_) fun _ => ?_ | refine And.intro ?_ ?_) | omega | simp (maxSteps := 1000000) only [go_sem, reduceCtorEq, Nat.reduceLT, Nat.reduceLeDiff, reduceIte, ↓reduceIte, Nat.reduceEqDiff, Nat.reduceAdd, Nat.reduceMul, Nat.reduceSub, Int.reduceLE, Int.reduceLT, Int.reduceNeg, Int.reduceToNat])
  refine VcCall.fr (FnFr.of_ok (kI) rfl rfl) (by simp only [noIdR_ok, argOkL, argOk, allOk, argOkN, List.drop_zero, lk, reduceIte, reduceCtorEq, Nat.reduceEqDiff, Option.some.injEq, Item.row.injEq, Item.box.injEq, AV.ro.injEq, exists_eq_left, exists_and_left, exists_eq_left', exists_eq_right, and_assoc, and_true, true_and, List.cons.injEq, exists_eq', exists_eq]) 0 rfl (by simp [rowsB]) ?_
  (repeat' first | with_reducible (first | refine Asm.intro fun _ => ?_ | refine Chk.g ?_ | refine AnyI.i64 fun _ _ => ?_ | refine LetW.g ?_ | refine LetW.h ?_ | refine Ite.t fun _ => ?_ | refine Ite.f fun _ => ?_ | refine Ite.decide (fun _ => ?_) fun _ => ?_ | refine Ite.bool (fun _ => ?_) fun _ => ?_ | refine And.intro ?_ ?_) | omega | simp (maxSteps := 1000000) only [go_sem, reduceCtorEq, Nat.reduceLT, Nat.reduceLeDiff, reduceIte, ↓reduceIte, Nat.reduceEqDiff, Nat.reduceAdd, Nat.reduceMul, Nat.reduceSub, Int.reduceLE, Int.reduceLT, Int.reduceNeg, Int.reduceToNat])
  refine Ret.auto 1 ?_ rfl ?_ <;> simp only [go_sem, reduceCtorEq, reduceIte, Nat.reduceEqDiff, Nat.reduceLT, Nat.reduceLeDiff, Int.natCast_succ, Post, nbs, renR_ok, belowR_ok, List.map_nil]
set_option maxHeartbeats 4000000 in
theorem gapF_ok (w h : Nat) (hw1 : 1 ≤ w) (hw : w ≤ 4000) (hh1 : 1 ≤ h) (hh : h ≤ 4000) (hwh : w * h ≤ 1048576) (p : List Bool) (hp : p.length = w * h) (b : Nb) (hb : InP b w h) (he : boxErr w h b.x b.y b.w b.h [1] = 0) :
    FnOk Tryz.prog 13 [.agg [.int .i64 w, .int .i64 h, .ro (.bools p)], .agg b.av] (.tup [.int .i64 (gapV (inkS p w b)), .int .i64 0]) [] := by
  have kI := inside_ok w h hw1 hw hh1 hh hwh p hp b.x b.y b.w b.h 1 he
  have kR := gap_ok p w h hw hh 0 0 b hb
  generalize gapV (inkS p w b) = L at *
  obtain ⟨bx, by', bw, bh⟩ := b
  simp only [ctr, Nb.av] at *
  simp only [Int.natCast_zero] at kR
  generalize sumL p w h = sc at *
  refine FnOk.of_vc Tryz.func13 rfl (by decide) (by simp [Tryz.f13]) [.tmp 4, .tmp 5] rfl fun w0 T0 _ => ?_
  simp only [Tryz.f13, argEnv]
  (repeat' first | with_reducible (first | refine Asm.intro fun _ => ?_ | refine Chk.g ?_ | refine AnyI.i64 fun _ _ => ?_ | refine LetW.g ?_ | refine LetW.h ?_ | refine Ite.t fun _ => ?_ | refine Ite.f fun _ => ?_ | refine Ite.decide (fun _ => ?_) fun _ => ?_ | refine Ite.bool (fun _ => ?_) fun _ => ?_ | refine And.intro ?_ ?_) | omega | simp (maxSteps := 1000000) only [go_sem, reduceCtorEq, Nat.reduceLT, Nat.reduceLeDiff, reduceIte, ↓reduceIte, Nat.reduceEqDiff, Nat.reduceAdd, Nat.reduceMul, Nat.reduceSub, Int.reduceLE, Int.reduceLT, Int.reduceNeg, Int.reduceToNat])
  refine VcCall.ros (.tup [.cell [.int .i64 w, .int .i64 h, .ro (.bools p), .cell sc, .int .i64 0, .int .i64 0, .ro (nbs [])], .int .i64 0]) kI (by simp only [noIdR_ok, argOkL, argOk, allOk, argOkN, List.drop_zero, lk, reduceIte, reduceCtorEq, Nat.reduceEqDiff, Option.some.injEq, Item.row.injEq, Item.box.injEq, AV.ro.injEq, exists_eq_left, exists_and_left, exists_eq_left', exists_eq_right, and_assoc, and_true, true_and, List.cons.injEq, exists_eq', exists_eq]) (by simp [outOk, argOkL, allOk, argOk, argOkN, lk, nbs]; exact ⟨_, _, ⟨rfl, rfl⟩, by simp [allOk, argOkN, lk, noIdR_ok, nilRow]⟩) rfl ?_
  (repeat' first | with_reducible (first | refine Asm.intro fun _ => ?_ | refine Chk.g ?_ | refine AnyI.i64 fun _ _ => ?_ | refine LetW.g ?_ | refine LetW.h ?_ | refine Ite.t fun _ => ?_ | refine Ite.f fun _ => ?_ | refine Ite.decide (fun _ => ?_) fun _ => ?_ | refine Ite.bool (fun _ => ?_) fun _ => ?_ | refine And.intro ?_ ?_) | omega | simp (maxSteps := 1000000) only [go_sem, reduceCtorEq, Nat.reduceLT, Nat.reduceLeDiff, reduceIte, ↓reduceIte, Nat.reduceEqDiff, Nat.reduceAdd, Nat.reduceMul, Nat.reduceSub, Int.reduceLE, Int.reduceLT, Int.reduceNeg, Int.reduceToNat])
  refine VcCall.fr (FnFr.of_ok kR rfl rfl) (by simp only [noIdR_ok, argOkL, argOk, allOk, argOkN, List.drop_zero, lk, reduceIte, reduceCtorEq, Nat.reduceEqDiff, Option.some.injEq, Item.row.injEq, Item.box.injEq, AV.ro.injEq, exists_eq_left, exists_and_left, exists_eq_left', exists_eq_right, and_assoc, and_true, true_and, List.cons.injEq, exists_eq', exists_eq, nbs]) 0 rfl (by simp [rowsB]) ?_
  (repeat' first | with_reducible (first | refine Asm.intro fun _ => ?_ | refine Chk.g ?_ | refine AnyI.i64 fun _ _ => ?_ | refine LetW.g ?_ | refine LetW.h ?_ | refine Ite.t fun _ => ?_ | refine Ite.f fun _ => ?_ | refine Ite.decide (fun _ => ?_) fun _ => ?_ | refine Ite.bool (fun _ => ?_) fun _ => ?_ | refine And.intro ?_ ?_) | omega | simp (maxSteps := 1000000) only [go_sem, reduceCtorEq, Nat.reduceLT, Nat.reduceLeDiff, reduceIte, ↓reduceIte, Nat.reduceEqDiff, Nat.reduceAdd, Nat.reduceMul, Nat.reduceSub, Int.reduceLE, Int.reduceLT, Int.reduceNeg, Int.reduceToNat])
  refine Ret.auto 0 ?_ rfl ?_ <;> simp only [go_sem, reduceCtorEq, reduceIte, Nat.reduceEqDiff, Nat.reduceLT, Nat.reduceLeDiff, Int.natCast_succ, Post]
set_option maxHeartbeats 4000000 in
theorem gapE_ok (w h : Nat) (hw1 : 1 ≤ w) (hw : w ≤ 4000) (hh1 : 1 ≤ h) (hh : h ≤ 4000) (hwh : w * h ≤ 1048576) (p : List Bool) (hp : p.length = w * h) (X Y W H : Int) (he : boxErr w h X Y W H [1] ≠ 0) :
    FnOk Tryz.prog 13 [.agg [.int .i64 w, .int .i64 h, .ro (.bools p)], .agg [.int .i64 X, .int .i64 Y, .int .i64 W, .int .i64 H]] (.tup [.int .i64 0, .int .i64 (boxErr w h X Y W H [1])]) [] := by
  have kI := insideE_ok w h hw1 hw hh1 hh hwh p hp X Y W H 1 he
  generalize boxErr w h X Y W H [1] = E at *
  refine FnOk.of_vc Tryz.func13 rfl (by decide) (by simp [Tryz.f13]) [.tmp 4, .tmp 5] rfl fun w0 T0 _ => ?_
  simp only [Tryz.f13, argEnv]
  (repeat' first | with_reducible (first | refine Asm.intro fun _ => ?_ | refine Chk.g ?_ | refine AnyI.i64 fun _ _ => ?_ | refine LetW.g ?_ | refine LetW.h ?_ | refine Ite.t fun _ => ?_ | refine Ite.f fun _ => ?_ | refine Ite.decide (fun _ => ?_) fun _ => ?_ | refine Ite.bool (fun _ => ?_) fun _ => ?_ | refine And.intro ?_ ?_) | omega | simp (maxSteps := 1000000) only [go_sem, reduceCtorEq, Nat.reduceLT, Nat.reduceLeDiff, reduceIte, ↓reduceIte, Nat.reduceEqDiff, Nat.reduceAdd, Nat.reduceMul, Nat.reduceSub, Int.reduceLE, Int.reduceLT, Int.reduceNeg, Int.reduceToNat])
  refine VcCall.fr (FnFr.of_ok (kI) rfl rfl) (by simp only [noIdR_ok, argOkL, argOk, allOk, argOkN, List.drop_zero, lk, reduceIte, reduceCtorEq, Nat.reduceEqDiff, Option.some.injEq, Item.row.injEq, Item.box.injEq, AV.ro.injEq, exists_eq_left, exists_and_left, exists_eq_left', exists_eq_right, and_assoc, and_true, true_and, List.cons.injEq, exists_eq', exists_eq]) 0 rfl (by simp [rowsB]) ?_
  (repeat' first | with_reducible (first | refine Asm.intro fun _ => ?_ | refine Chk.g ?_ | refine AnyI.i64 fun _ _ => ?_ | refine LetW.g ?_ | refine LetW.h ?_ | refine Ite.t fun _ => ?_ | refine Ite.f fun _ => ?_ | refine Ite.decide (fun _ => ?_) fun _ => ?_ | refine Ite.bool (fun _ => ?_) fun _ => ?_ | refine And.intro ?_ ?_) | omega | simp (maxSteps := 1000000) only [go_sem, reduceCtorEq, Nat.reduceLT, Nat.reduceLeDiff, reduceIte, ↓reduceIte, Nat.reduceEqDiff, Nat.reduceAdd, Nat.reduceMul, Nat.reduceSub, Int.reduceLE, Int.reduceLT, Int.reduceNeg, Int.reduceToNat])
  refine Ret.auto 0 ?_ rfl ?_ <;> simp only [go_sem, reduceCtorEq, reduceIte, Nat.reduceEqDiff, Nat.reduceLT, Nat.reduceLeDiff, Int.natCast_succ, Post]
end Go.Fv.Q
