/-
  A part of the proof of the claim: walks over the program's functions and the plain laws that these need. No condition of its own.
-/
import Derived.Test.YtpnlkjeedfmhfaaDoorSCopiesCardPart1
import Derived.Test.YtpnlkjeedfmhfaaDoorFvPart9
namespace Go.Fv.S
open Go Go.Proofs
set_option linter.unusedSimpArgs false
set_option linter.unusedVariables false
set_option maxRecDepth 8000
theorem refIn_ok (n lo hi : Int) : FnOk Tryd.prog 183 [.int .i64 n, .int .i64 lo, .int .i64 hi] (.bool (decide (lo ≤ n ∧ n ≤ hi))) [] := by
  refine FnOk.of_vc Tryd.func183 rfl (by decide) (by simp [Tryd.f183]) [.tmp 6] rfl fun w0 T0 _ => ?_
  simp only [Tryd.f183, argEnv]
  (repeat' first | with_reducible (first | refine Asm.intro fun _ => ?_ | refine Chk.g ?_ | refine AnyI.i64 fun _ _ => ?_ | refine LetW.g ?_ | refine LetW.h ?_ | refine Ite.t fun _ => ?_ | refine Ite.f fun _ => ?_ | refine Ite.decide (fun _ => ?_) fun _ => ?_ | refine Ite.bool (fun _ => ?_) fun _ => ?_ | refine And.intro ?_ ?_) | omega | simp (maxSteps := 1000000) only [go_sem, reduceCtorEq, Nat.reduceLT, Nat.reduceLeDiff, reduceIte, ↓reduceIte, Nat.reduceEqDiff, Nat.reduceAdd, Nat.reduceMul, Nat.reduceSub, Int.reduceLE, Int.reduceLT, Int.reduceNeg, Int.reduceToNat])
  refine Ret.auto 0 ?_ rfl ?_ <;> simp only [go_sem, reduceCtorEq, reduceIte, Nat.reduceEqDiff, Nat.reduceLT, Nat.reduceLeDiff, Int.natCast_succ, Post]
def atB (p : List Bool) (w h : Nat) (i j : Int) : Bool := decide (0 ≤ i ∧ i < w ∧ 0 ≤ j ∧ j < h) && p.getD (j * w + i).toNat false
theorem atB_in (p : List Bool) {w h i j : Nat} (hi : i < w) (hj : j < h) : atB p w h i j = p.getD (j * w + i) false := by
  unfold atB
  rw [decide_eq_true (show 0 ≤ (i : Int) ∧ (i : Int) < w ∧ 0 ≤ (j : Int) ∧ (j : Int) < h by omega), Bool.true_and, up_mul, up_add, Int.toNat_natCast]
theorem atB_out (p : List Bool) {w h : Nat} {i j : Int} (h' : ¬ (0 ≤ i ∧ i < w ∧ 0 ≤ j ∧ j < h)) : atB p w h i j = false := by
  unfold atB; rw [decide_eq_false h', Bool.false_and]
set_option maxHeartbeats 2000000 in
theorem refAt_ok (w h : Nat) (hw : w ≤ 4000) (hh : h ≤ 4000) (p : List Bool) (hp : p.length = w * h) (i j : Int) : FnOk Tryd.prog 144 [.agg [.int .i64 w, .int .i64 h, .ro (.bools p)], .int .i64 i, .int .i64 j] (.bool (atB p w h i j)) [] := by
  refine FnOk.of_vc Tryd.func144 rfl (by decide) (by simp [Tryd.f144]) [.tmp 6] rfl fun w0 T0 _ => ?_
  simp only [Tryd.f144, argEnv]
  by_cases hin : 0 ≤ i ∧ i < w ∧ 0 ≤ j ∧ j < h
  · obtain ⟨i, rfl⟩ : ∃ k : Nat, i = k := ⟨i.toNat, by omega⟩
    obtain ⟨j, rfl⟩ : ∃ k : Nat, j = k := ⟨j.toNat, by omega⟩
    rw [atB_in p (by omega) (by omega)]
    have b1 : j * w + w ≤ h * w := by rw [← Nat.succ_mul]; exact Nat.mul_le_mul_right _ (by omega)
    have b2 : h * w ≤ 4000 * 4000 := Nat.mul_le_mul hh hw
    have b3 : w * h = h * w := Nat.mul_comm _ _
    (repeat' first | with_reducible (first | refine Asm.intro fun _ => ?_ | refine Chk.g ?_ | refine AnyI.i64 fun _ _ => ?_ | refine LetW.g ?_ | refine LetW.h ?_ | refine Ite.t fun _ => ?_ | refine Ite.f fun _ => ?_ | refine Ite.decide (fun _ => ?_) fun _ => ?_ | refine Ite.bool (fun _ => ?_) fun _ => ?_ | refine And.intro ?_ ?_) | omega | simp (maxSteps := 1000000) only [go_sem, reduceCtorEq, Nat.reduceLT, Nat.reduceLeDiff, reduceIte, ↓reduceIte, Nat.reduceEqDiff, Nat.reduceAdd, Nat.reduceMul, Nat.reduceSub, Int.reduceLE, Int.reduceLT, Int.reduceNeg, Int.reduceToNat])
    refine VcCall.fr (FnFr.of_ok (refIn_ok i 0 (w - 1)) rfl rfl) (by simp only [noIdR_ok, argOkL, argOk, allOk, argOkN, List.drop_zero, lk, reduceIte, reduceCtorEq, Nat.reduceEqDiff, Option.some.injEq, Item.row.injEq, Item.box.injEq, AV.ro.injEq, exists_eq_left, exists_and_left, exists_eq_left', exists_eq_right, and_assoc, and_true, true_and, List.cons.injEq, exists_eq', exists_eq]) 0 rfl (by simp [rowsB]) ?_
    rw [decide_eq_true (show 0 ≤ (i : Int) ∧ (i : Int) ≤ w - 1 by omega)]
    (repeat' first | with_reducible (first | refine Asm.intro fun _ => ?_ | refine Chk.g ?_ | refine AnyI.i64 fun _ _ => ?_ | refine LetW.g ?_ | refine LetW.h ?_ | refine Ite.t fun _ => ?_ | refine Ite.f fun _ => ?_ | refine Ite.decide (fun _ => ?_) fun _ => ?_ | refine Ite.bool (fun _ => ?_) fun _ => ?_ | refine And.intro ?_ ?_) | omega | simp (maxSteps := 1000000) only [go_sem, reduceCtorEq, Nat.reduceLT, Nat.reduceLeDiff, reduceIte, ↓reduceIte, Nat.reduceEqDiff, Nat.reduceAdd, Nat.reduceMul, Nat.reduceSub, Int.reduceLE, Int.reduceLT, Int.reduceNeg, Int.reduceToNat])
    refine VcCall.fr (FnFr.of_ok (refIn_ok j 0 (h - 1)) rfl rfl) (by simp only [noIdR_ok, argOkL, argOk, allOk, argOkN, List.drop_zero, lk, reduceIte, reduceCtorEq, Nat.reduceEqDiff, Option.some.injEq, Item.row.injEq, Item.box.injEq, AV.ro.injEq, exists_eq_left, exists_and_left, exists_eq_left', exists_eq_right, and_assoc, and_true, true_and, List.cons.injEq, exists_eq', exists_eq]) 0 rfl (by simp [rowsB]) ?_
    rw [decide_eq_true (show 0 ≤ (j : Int) ∧ (j : Int) ≤ h - 1 by omega)]
    (repeat' first | with_reducible (first | refine Asm.intro fun _ => ?_ | refine Chk.g ?_ | refine AnyI.i64 fun _ _ => ?_ | refine LetW.g ?_ | refine LetW.h ?_ | refine Ite.t fun _ => ?_ | refine Ite.f fun _ => ?_ | refine Ite.decide (fun _ => ?_) fun _ => ?_ | refine Ite.bool (fun _ => ?_) fun _ => ?_ | refine And.intro ?_ ?_) | omega | simp (maxSteps := 1000000) only [go_sem, reduceCtorEq, Nat.reduceLT, Nat.reduceLeDiff, reduceIte, ↓reduceIte, Nat.reduceEqDiff, Nat.reduceAdd, Nat.reduceMul, Nat.reduceSub, Int.reduceLE, Int.reduceLT, Int.reduceNeg, Int.reduceToNat, up_mul, up_add, Int.toNat_natCast])
    refine Ret.auto 0 ?_ rfl ?_ <;> simp only [go_sem, reduceCtorEq, reduceIte, Nat.reduceEqDiff, Nat.reduceLT, Nat.reduceLeDiff, Int.natCast_succ, Post]
  · rw [atB_out p hin]
    (repeat' first | with_reducible (first | refine Asm.intro fun _ => ?_ | refine Chk.g ?_ | refine AnyI.i64 fun _ _ => ?_ | refine LetW.g ?_ | refine LetW.h ?_ | refine Ite.t fun _ => ?_ | refine Ite.f fun _ => ?_ | refine Ite.decide (fun _ => ?_) fun _ => ?_ | refine Ite.bool (fun _ => ?_) fun _ => ?_ | refine And.intro ?_ ?_) | omega | simp (maxSteps := 1000000) only [go_sem, reduceCtorEq, Nat.reduceLT, Nat.reduceLeDiff, reduceIte, ↓reduceIte, Nat.reduceEqDiff, Nat.reduceAdd, Nat.reduceMul, Nat.reduceSub, Int.reduceLE, Int.reduceLT, Int.reduceNeg, Int.reduceToNat])
    refine VcCall.fr (FnFr.of_ok (refIn_ok i 0 (w - 1)) rfl rfl) (by simp only [noIdR_ok, argOkL, argOk, allOk, argOkN, List.drop_zero, lk, reduceIte, reduceCtorEq, Nat.reduceEqDiff, Option.some.injEq, Item.row.injEq, Item.box.injEq, AV.ro.injEq, exists_eq_left, exists_and_left, exists_eq_left', exists_eq_right, and_assoc, and_true, true_and, List.cons.injEq, exists_eq', exists_eq]) 0 rfl (by simp [rowsB]) ?_
    (repeat' first | with_reducible (first | refine Asm.intro fun _ => ?_ | refine Chk.g ?_ | refine AnyI.i64 fun _ _ => ?_ | refine LetW.g ?_ | refine LetW.h ?_ | refine Ite.t fun _ => ?_ | refine Ite.f fun _ => ?_ | refine Ite.decide (fun _ => ?_) fun _ => ?_ | refine Ite.bool (fun _ => ?_) fun _ => ?_ | refine And.intro ?_ ?_) | omega | simp (maxSteps := 1000000) only [go_sem, reduceCtorEq, Nat.reduceLT, Nat.reduceLeDiff, reduceIte, ↓reduceIte, Nat.reduceEqDiff, Nat.reduceAdd, Nat.reduceMul, Nat.reduceSub, Int.reduceLE, Int.reduceLT, Int.reduceNeg, Int.reduceToNat])
    · refine VcCall.fr (FnFr.of_ok (refIn_ok j 0 (h - 1)) rfl rfl) (by simp only [noIdR_ok, argOkL, argOk, allOk, argOkN, List.drop_zero, lk, reduceIte, reduceCtorEq, Nat.reduceEqDiff, Option.some.injEq, Item.row.injEq, Item.box.injEq, AV.ro.injEq, exists_eq_left, exists_and_left, exists_eq_left', exists_eq_right, and_assoc, and_true, true_and, List.cons.injEq, exists_eq', exists_eq]) 0 rfl (by simp [rowsB]) ?_
      rw [decide_eq_false (show ¬ (0 ≤ (j : Int) ∧ (j : Int) ≤ h - 1) by omega)]
      (repeat' first | with_reducible (first | refine Asm.intro fun _ => ?_ | refine Chk.g ?_ | refine AnyI.i64 fun _ _ => ?_ | refine LetW.g ?_ | refine LetW.h ?_ | refine Ite.t fun _ => ?_ | refine Ite.f fun _ => ?_ | refine Ite.decide (fun _ => ?_) fun _ => ?_ | refine Ite.bool (fun _ => ?_) fun _ => ?_ | refine And.intro ?_ ?_) | omega | simp (maxSteps := 1000000) only [go_sem, reduceCtorEq, Nat.reduceLT, Nat.reduceLeDiff, reduceIte, ↓reduceIte, Nat.reduceEqDiff, Nat.reduceAdd, Nat.reduceMul, Nat.reduceSub, Int.reduceLE, Int.reduceLT, Int.reduceNeg, Int.reduceToNat])
      refine Ret.auto 0 ?_ rfl ?_ <;> simp only [go_sem, reduceCtorEq, reduceIte, Nat.reduceEqDiff, Nat.reduceLT, Nat.reduceLeDiff, Int.natCast_succ, Post]
    · refine Ret.auto 0 ?_ rfl ?_ <;> simp only [go_sem, reduceCtorEq, reduceIte, Nat.reduceEqDiff, Nat.reduceLT, Nat.reduceLeDiff, Int.natCast_succ, Post]
end Go.Fv.S

namespace Go.Fv.S
open Go Go.Proofs
set_option linter.unusedSimpArgs false
set_option linter.unusedVariables false
set_option maxRecDepth 8000

def b2i (b : Bool) : Int := if b = true then 1 else 0
/-- The ink of a part of a page, counted. -/
def inkN (p : List Bool) (w X Y W H : Nat) : Nat := (boxL (inkV p) w Y X W H).sum.toNat
theorem inkN_eq (p : List Bool) (w X Y W H : Nat) : (boxL (inkV p) w Y X W H).sum = ((inkN p w X Y W H : Nat) : Int) := by
  have h := sum_bd (boxL_mem (inkV_bd p) w Y X W H)
  unfold inkN; omega
theorem inkN_rect (p : List Bool) (w X Y W H : Nat) : rect (inkV p) w X (X + W) Y (Y + H) = ((inkN p w X Y W H : Nat) : Int) := by
  rw [← sum_box, inkN_eq]
theorem sum01_bd {l : List Int} (h : ∀ x, x ∈ l → 0 ≤ x ∧ x ≤ 1) : 0 ≤ l.sum ∧ l.sum ≤ (l.length : Int) := by
  induction l with
  | nil => simp
  | cons x l ih =>
    have h1 := h x (.head _)
    have h2 := ih fun y hy => h y (.tail _ hy)
    simp only [List.sum_cons, List.length_cons]
    omega
theorem boxL_mem1 (p : List Bool) (w t l n : Nat) : ∀ m x, x ∈ boxL (inkV p) w t l n m → 0 ≤ x ∧ x ≤ 1
  | 0, x, h => by simp [boxL] at h
  | m + 1, x, h => by
    rcases List.mem_append.1 h with h | h
    · exact boxL_mem1 p w t l n m x h
    · obtain ⟨i, _, rfl⟩ := List.mem_map.1 h
      unfold inkV; split <;> omega
theorem segL_mem1 (p : List Bool) (w y l n : Nat) : ∀ x, x ∈ segL (inkV p) w y l n → 0 ≤ x ∧ x ≤ 1 := by
  intro x h
  obtain ⟨i, _, rfl⟩ := List.mem_map.1 h
  unfold inkV; split <;> omega
theorem inkN_le (p : List Bool) (w X Y W H : Nat) : inkN p w X Y W H ≤ H * W := by
  have h := sum01_bd (boxL_mem1 p w Y X W H)
  rw [inkN_eq, boxL_len] at h
  omega
theorem box_bd (p : List Bool) (w t l n m : Nat) : 0 ≤ (boxL (inkV p) w t l n m).sum ∧ (boxL (inkV p) w t l n m).sum ≤ ((m * n : Nat) : Int) := by
  have h := sum01_bd (boxL_mem1 p w t l n m)
  rwa [boxL_len] at h
theorem seg_bd (p : List Bool) (w y l n : Nat) : 0 ≤ (segL (inkV p) w y l n).sum ∧ (segL (inkV p) w y l n).sum ≤ (n : Int) := by
  have h := sum01_bd (segL_mem1 p w y l n)
  rwa [segL_len] at h
end Go.Fv.S

namespace Go.Fv.S
open Go Go.Proofs
set_option linter.unusedSimpArgs false
set_option linter.unusedVariables false
set_option maxRecDepth 8000

theorem inPage_ok (w h X Y W H : Nat) (hw : w ≤ 4000) (hh : h ≤ 4000) (hW : 1 ≤ W) (hH : 1 ≤ H) (hX : X + W ≤ w) (hY : Y + H ≤ h) :
    FnOk Tryd.prog 217 [.agg [.int .i64 X, .int .i64 Y, .int .i64 W, .int .i64 H], .int .i64 w, .int .i64 h] (.int .i64 0) [] := by
  refine FnOk.of_vc Tryd.func217 rfl (by decide) (by simp [Tryd.f217]) [.tmp 6] rfl fun w0 T0 _ => ?_
  simp only [Tryd.f217, argEnv]
  (repeat' first | with_reducible (first | refine Asm.intro fun _ => ?_ | refine Chk.g ?_ | refine AnyI.i64 fun _ _ => ?_ | refine LetW.g ?_ | refine LetW.h ?_ | refine Ite.t fun _ => ?_ | refine Ite.f fun _ => ?_ | refine Ite.decide (fun _ => ?_) fun _ => ?_ | refine Ite.bool (fun _ => ?_) fun _ => ?_ | refine And.intro ?_ ?_) | omega | simp (maxSteps := 1000000) only [go_sem, reduceCtorEq, Nat.reduceLT, Nat.reduceLeDiff, reduceIte, ↓reduceIte, Nat.reduceEqDiff, Nat.reduceAdd, Nat.reduceMul, Nat.reduceSub, Int.reduceLE, Int.reduceLT, Int.reduceNeg, Int.reduceToNat])
  refine Ret.auto 0 ?_ rfl ?_ <;> simp only [go_sem, reduceCtorEq, reduceIte, Nat.reduceEqDiff, Nat.reduceLT, Nat.reduceLeDiff, Int.natCast_succ, Post]

theorem bitsErr_ok {w h : Nat} (hw1 : 1 ≤ w) (hw : w ≤ 1000) (hh1 : 1 ≤ h) (hh : h ≤ 1000) {n : Nat} (hn : n = w * h) : grayErr w h n = 0 := by
  unfold grayErr
  rw [sizeErr_of (by omega) (by omega) (by omega) (by omega), if_pos rfl, if_pos (by rw [hn]; exact Int.natCast_mul w h)]

set_option maxHeartbeats 1000000 in
theorem checkBoth_ok (w h X Y W H : Nat) (hw1 : 1 ≤ w) (hw : w ≤ 1000) (hh1 : 1 ≤ h) (hh : h ≤ 1000) (p : List Bool) (hp : p.length = w * h) (hW : 1 ≤ W) (hH : 1 ≤ H) (hX : X + W ≤ w) (hY : Y + H ≤ h) :
    FnOk Tryd.prog 204 [.agg [.int .i64 w, .int .i64 h, .ro (.bools p)], .agg [.int .i64 X, .int .i64 Y, .int .i64 W, .int .i64 H]] (.int .i64 0) [] := by
  have k1 := checkBits_ok w h p
  rw [bitsErr_ok hw1 hw hh1 hh hp] at k1
  refine FnOk.of_vc Tryd.func204 rfl (by decide) (by simp [Tryd.f204]) [.tmp 4] rfl fun w0 T0 _ => ?_
  simp only [Tryd.f204, argEnv]
  (repeat' first | with_reducible (first | refine Asm.intro fun _ => ?_ | refine Chk.g ?_ | refine AnyI.i64 fun _ _ => ?_ | refine LetW.g ?_ | refine LetW.h ?_ | refine Ite.t fun _ => ?_ | refine Ite.f fun _ => ?_ | refine Ite.decide (fun _ => ?_) fun _ => ?_ | refine Ite.bool (fun _ => ?_) fun _ => ?_ | refine And.intro ?_ ?_) | omega | simp (maxSteps := 1000000) only [go_sem, reduceCtorEq, Nat.reduceLT, Nat.reduceLeDiff, reduceIte, ↓reduceIte, Nat.reduceEqDiff, Nat.reduceAdd, Nat.reduceMul, Nat.reduceSub, Int.reduceLE, Int.reduceLT, Int.reduceNeg, Int.reduceToNat])
  refine VcCall.fr (FnFr.of_ok k1 rfl rfl) (by simp only [noIdR_ok, argOkL, argOk, allOk, argOkN, List.drop_zero, lk, reduceIte, reduceCtorEq, Nat.reduceEqDiff, Option.some.injEq, Item.row.injEq, Item.box.injEq, AV.ro.injEq, exists_eq_left, exists_and_left, exists_eq_left', exists_eq_right, and_assoc, and_true, true_and, List.cons.injEq, exists_eq', exists_eq]) 0 rfl (by simp [rowsB]) ?_
  (repeat' first | with_reducible (first | refine Asm.intro fun _ => ?_ | refine Chk.g ?_ | refine AnyI.i64 fun _ _ => ?_ | refine LetW.g ?_ | refine LetW.h ?_ | refine Ite.t fun _ => ?_ | refine Ite.f fun _ => ?_ | refine Ite.decide (fun _ => ?_) fun _ => ?_ | refine Ite.bool (fun _ => ?_) fun _ => ?_ | refine And.intro ?_ ?_) | omega | simp (maxSteps := 1000000) only [go_sem, reduceCtorEq, Nat.reduceLT, Nat.reduceLeDiff, reduceIte, ↓reduceIte, Nat.reduceEqDiff, Nat.reduceAdd, Nat.reduceMul, Nat.reduceSub, Int.reduceLE, Int.reduceLT, Int.reduceNeg, Int.reduceToNat])
  refine VcCall.fr (FnFr.of_ok (inPage_ok w h X Y W H (by omega) (by omega) hW hH hX hY) rfl rfl) (by simp only [noIdR_ok, argOkL, argOk, allOk, argOkN, List.drop_zero, lk, reduceIte, reduceCtorEq, Nat.reduceEqDiff, Option.some.injEq, Item.row.injEq, Item.box.injEq, AV.ro.injEq, exists_eq_left, exists_and_left, exists_eq_left', exists_eq_right, and_assoc, and_true, true_and, List.cons.injEq, exists_eq', exists_eq]) 0 rfl (by simp [rowsB]) ?_
  (repeat' first | with_reducible (first | refine Asm.intro fun _ => ?_ | refine Chk.g ?_ | refine AnyI.i64 fun _ _ => ?_ | refine LetW.g ?_ | refine LetW.h ?_ | refine Ite.t fun _ => ?_ | refine Ite.f fun _ => ?_ | refine Ite.decide (fun _ => ?_) fun _ => ?_ | refine Ite.bool (fun _ => ?_) fun _ => ?_ | refine And.intro ?_ ?_) | omega | simp (maxSteps := 1000000) only [go_sem, reduceCtorEq, Nat.reduceLT, Nat.reduceLeDiff, reduceIte, ↓reduceIte, Nat.reduceEqDiff, Nat.reduceAdd, Nat.reduceMul, Nat.reduceSub, Int.reduceLE, Int.reduceLT, Int.reduceNeg, Int.reduceToNat])
  refine Ret.auto 0 ?_ rfl ?_ <;> simp only [go_sem, reduceCtorEq, reduceIte, Nat.reduceEqDiff, Nat.reduceLT, Nat.reduceLeDiff, Int.natCast_succ, Post]

set_option maxHeartbeats 2000000 in
theorem inkOf_ok (w h X Y W H : Nat) (hw : w ≤ 1000) (hh : h ≤ 1000) (p : List Bool) (hp : p.length = w * h) (hX : X + W ≤ w) (hY : Y + H ≤ h) :
    FnOk Tryd.prog 79 [.agg [.int .i64 w, .int .i64 h, .ro (.bools p)], .agg [.int .i64 X, .int .i64 Y, .int .i64 W, .int .i64 H]] (.int .i64 (inkN p w X Y W H)) [] := by
  rw [← inkN_eq]
  refine FnOk.of_vc Tryd.func79 rfl (by decide) (by simp [Tryd.f79]) [.tmp 4] rfl fun w0 T0 _ => ?_
  simp only [Tryd.f79, argEnv]
  (repeat' first | with_reducible (first | refine Asm.intro fun _ => ?_ | refine Chk.g ?_ | refine AnyI.i64 fun _ _ => ?_ | refine LetW.g ?_ | refine LetW.h ?_ | refine Ite.t fun _ => ?_ | refine Ite.f fun _ => ?_ | refine Ite.decide (fun _ => ?_) fun _ => ?_ | refine Ite.bool (fun _ => ?_) fun _ => ?_ | refine And.intro ?_ ?_) | omega | simp (maxSteps := 1000000) only [go_sem, reduceCtorEq, Nat.reduceLT, Nat.reduceLeDiff, reduceIte, ↓reduceIte, Nat.reduceEqDiff, Nat.reduceAdd, Nat.reduceMul, Nat.reduceSub, Int.reduceLE, Int.reduceLT, Int.reduceNeg, Int.reduceToNat])
  refine VcLoop.intro (fun j : Nat => ⟨37, [(6, .int .i64 (Y + j : Nat)), (5, .int .i64 (boxL (inkV p) w Y X W j).sum), (2, .ptr 0 0), (3, .ptr 1 0)], [(0, .box 27 [.int .i64 w, .int .i64 h, .ro (.bools p)]), (1, .box 117 [.int .i64 X, .int .i64 Y, .int .i64 W, .int .i64 H])], 2⟩) (fun j => j ≤ H) (fun j => H - j) 0 ?_ (Nat.zero_le _) fun j hj => ?_
  · refine Ent.auto0 rfl ?_ ?_ <;> simp only [go_sem, reduceCtorEq, reduceIte, Nat.reduceEqDiff, Nat.reduceLT, Nat.reduceLeDiff, Int.natCast_succ, Nat.add_zero, boxL, List.sum_nil]
  have b1 := box_bd p w Y X W j
  have b2 : j * W ≤ 1000 * 1000 := Nat.mul_le_mul (by omega) (by omega)
  (repeat' first | with_reducible (first | refine Asm.intro fun _ => ?_ | refine Chk.g ?_ | refine AnyI.i64 fun _ _ => ?_ | refine LetW.g ?_ | refine LetW.h ?_ | refine Ite.t fun _ => ?_ | refine Ite.f fun _ => ?_ | refine Ite.decide (fun _ => ?_) fun _ => ?_ | refine Ite.bool (fun _ => ?_) fun _ => ?_ | refine And.intro ?_ ?_) | omega | simp (maxSteps := 1000000) only [go_sem, reduceCtorEq, Nat.reduceLT, Nat.reduceLeDiff, reduceIte, ↓reduceIte, Nat.reduceEqDiff, Nat.reduceAdd, Nat.reduceMul, Nat.reduceSub, Int.reduceLE, Int.reduceLT, Int.reduceNeg, Int.reduceToNat])
  · refine VcLoop.intro (fun i : Nat => ⟨37, [(7, .int .i64 (X + i : Nat)), (6, .int .i64 (Y + j : Nat)), (5, .int .i64 ((boxL (inkV p) w Y X W j).sum + (segL (inkV p) w (Y + j) X i).sum)), (2, .ptr 0 0), (3, .ptr 1 0)], [(0, .box 27 [.int .i64 w, .int .i64 h, .ro (.bools p)]), (1, .box 117 [.int .i64 X, .int .i64 Y, .int .i64 W, .int .i64 H])], 2⟩) (fun i => i ≤ W) (fun i => W - i) 0 ?_ (Nat.zero_le _) fun i hi => ?_
    · refine Ent.auto0 rfl ?_ ?_ <;> simp only [go_sem, reduceCtorEq, reduceIte, Nat.reduceEqDiff, Nat.reduceLT, Nat.reduceLeDiff, Int.natCast_succ, Nat.add_zero, segL, List.range_zero, List.map_nil, List.sum_nil]
      omega
    have b3 := seg_bd p w (Y + j) X i
    (repeat' first | with_reducible (first | refine Asm.intro fun _ => ?_ | refine Chk.g ?_ | refine AnyI.i64 fun _ _ => ?_ | refine LetW.g ?_ | refine LetW.h ?_ | refine Ite.t fun _ => ?_ | refine Ite.f fun _ => ?_ | refine Ite.decide (fun _ => ?_) fun _ => ?_ | refine Ite.bool (fun _ => ?_) fun _ => ?_ | refine And.intro ?_ ?_) | omega | simp (maxSteps := 1000000) only [go_sem, reduceCtorEq, Nat.reduceLT, Nat.reduceLeDiff, reduceIte, ↓reduceIte, Nat.reduceEqDiff, Nat.reduceAdd, Nat.reduceMul, Nat.reduceSub, Int.reduceLE, Int.reduceLT, Int.reduceNeg, Int.reduceToNat])
    · have k := refAt_ok w h (by omega) (by omega) p hp (X + i : Nat) (Y + j : Nat)
      rw [atB_in p (by omega) (by omega)] at k
      have hs : (segL (inkV p) w (Y + j) X (i + 1)).sum = (segL (inkV p) w (Y + j) X i).sum + b2i (p.getD ((Y + j) * w + (X + i)) false) := by rw [segL_succ, List.sum_append]; simp [inkV, b2i]
      refine VcCall.fr (FnFr.of_ok k rfl rfl) (by simp only [noIdR_ok, argOkL, argOk, allOk, argOkN, List.drop_zero, lk, reduceIte, reduceCtorEq, Nat.reduceEqDiff, Option.some.injEq, Item.row.injEq, Item.box.injEq, AV.ro.injEq, exists_eq_left, exists_and_left, exists_eq_left', exists_eq_right, and_assoc, and_true, true_and, List.cons.injEq, exists_eq', exists_eq]) 0 rfl (by simp [rowsB]) ?_
      generalize p.getD ((Y + j) * w + (X + i)) false = c at *
      cases c with
      | true =>
        (repeat' first | with_reducible (first | refine Asm.intro fun _ => ?_ | refine Chk.g ?_ | refine AnyI.i64 fun _ _ => ?_ | refine LetW.g ?_ | refine LetW.h ?_ | refine Ite.t fun _ => ?_ | refine Ite.f fun _ => ?_ | refine Ite.decide (fun _ => ?_) fun _ => ?_ | refine Ite.bool (fun _ => ?_) fun _ => ?_ | refine And.intro ?_ ?_) | omega | simp (maxSteps := 1000000) only [go_sem, reduceCtorEq, Nat.reduceLT, Nat.reduceLeDiff, reduceIte, ↓reduceIte, Nat.reduceEqDiff, Nat.reduceAdd, Nat.reduceMul, Nat.reduceSub, Int.reduceLE, Int.reduceLT, Int.reduceNeg, Int.reduceToNat])
        refine ⟨i + 1, Ent.auto0 rfl ?_ ?_, by omega, by omega⟩ <;> simp only [go_sem, reduceCtorEq, reduceIte, Nat.reduceEqDiff, Nat.reduceLT, Nat.reduceLeDiff, Int.natCast_succ]
        rw [hs]
        exact ⟨by omega, by simp only [b2i, reduceIte]; omega⟩
      | false =>
        (repeat' first | with_reducible (first | refine Asm.intro fun _ => ?_ | refine Chk.g ?_ | refine AnyI.i64 fun _ _ => ?_ | refine LetW.g ?_ | refine LetW.h ?_ | refine Ite.t fun _ => ?_ | refine Ite.f fun _ => ?_ | refine Ite.decide (fun _ => ?_) fun _ => ?_ | refine Ite.bool (fun _ => ?_) fun _ => ?_ | refine And.intro ?_ ?_) | omega | simp (maxSteps := 1000000) only [go_sem, reduceCtorEq, Nat.reduceLT, Nat.reduceLeDiff, reduceIte, ↓reduceIte, Nat.reduceEqDiff, Nat.reduceAdd, Nat.reduceMul, Nat.reduceSub, Int.reduceLE, Int.reduceLT, Int.reduceNeg, Int.reduceToNat])
        refine ⟨i + 1, Ent.auto0 rfl ?_ ?_, by omega, by omega⟩ <;> simp only [go_sem, reduceCtorEq, reduceIte, Nat.reduceEqDiff, Nat.reduceLT, Nat.reduceLeDiff, Int.natCast_succ]
        rw [hs]
        exact ⟨by omega, by simp [b2i]⟩
    · have e : i = W := by omega
      subst e
      refine ⟨j + 1, Ent.auto0 rfl ?_ ?_, by omega, by omega⟩ <;> simp only [go_sem, reduceCtorEq, reduceIte, Nat.reduceEqDiff, Nat.reduceLT, Nat.reduceLeDiff, Int.natCast_succ, boxL, List.sum_append]
      omega
  · have e : j = H := by omega
    subst e
    refine Ret.auto 0 ?_ rfl ?_ <;> simp only [go_sem, reduceCtorEq, reduceIte, Nat.reduceEqDiff, Nat.reduceLT, Nat.reduceLeDiff, Int.natCast_succ, Post]
end Go.Fv.S

namespace Go.Fv.S
open Go Go.Proofs
set_option linter.unusedSimpArgs false
set_option linter.unusedVariables false
set_option maxRecDepth 8000

end Go.Fv.S

namespace Go.Fv.S
open Go Go.Proofs
set_option linter.unusedSimpArgs false
set_option linter.unusedVariables false
set_option maxRecDepth 8000
end Go.Fv.S

namespace Go.Fv.S
open Go Go.Proofs
set_option linter.unusedSimpArgs false
set_option linter.unusedVariables false
set_option maxRecDepth 8000
set_option maxHeartbeats 1000000 in
theorem equalInts_ok (a b : List Int) : FnOk Tryd.prog 24 [.ro (.ints .i64 a), .ro (.ints .i64 b)] (.bool (decide (a = b))) [] := by
  refine FnOk.of_vc Tryd.func24 rfl (by decide) (by simp [Tryd.f24]) [.tmp 4] rfl fun w0 T0 _ => ?_
  simp only [Tryd.f24, argEnv]
  simp (maxSteps := 1000000) only [go_sem, reduceCtorEq, Nat.reduceLT, Nat.reduceLeDiff, reduceIte, ↓reduceIte, Nat.reduceEqDiff, Nat.reduceAdd, Nat.reduceMul, Nat.reduceSub, Int.reduceLE, Int.reduceLT, Int.reduceNeg, Int.reduceToNat]
  refine Asm.intro fun _ => Asm.intro fun _ => Ite.decide (fun h => ?_) fun h => ?_
  · simp (maxSteps := 1000000) only [go_sem, reduceCtorEq, Nat.reduceLT, Nat.reduceLeDiff, reduceIte, ↓reduceIte, Nat.reduceEqDiff, Nat.reduceAdd, Nat.reduceMul, Nat.reduceSub, Int.reduceLE, Int.reduceLT, Int.reduceNeg, Int.reduceToNat]
    refine Ret.auto 0 ?_ rfl (by simp [subOk])
    have : a ≠ b := by intro e; subst e; exact h rfl
    simp only [go_sem, reduceCtorEq, reduceIte, Nat.reduceEqDiff, Nat.reduceLT, Nat.reduceLeDiff, Int.natCast_succ, Post, this, decide_false, decide_true]
  have hl : a.length = b.length := by omega
  simp (maxSteps := 1000000) only [go_sem, reduceCtorEq, Nat.reduceLT, Nat.reduceLeDiff, reduceIte, ↓reduceIte, Nat.reduceEqDiff, Nat.reduceAdd, Nat.reduceMul, Nat.reduceSub, Int.reduceLE, Int.reduceLT, Int.reduceNeg, Int.reduceToNat]
  refine Asm.intro fun _ => VcLoop.intro (fun i : Nat => ⟨26, [(0, .ro (.ints .i64 a)), (1, .ro (.ints .i64 b)), (12, .int .i64 a.length), (13, .int .i64 i)], [], 0⟩) (fun i => i ≤ a.length ∧ ∀ j, j < i → a.getD j 0 = b.getD j 0) (fun i => a.length - i) 0 ?_ ⟨by omega, fun j hj => by omega⟩ fun i hi => ?_
  · refine Ent.auto0 rfl ?_ ?_ <;> simp only [go_sem, reduceCtorEq, reduceIte, Nat.reduceEqDiff, Nat.reduceLT, Nat.reduceLeDiff, Int.natCast_succ]
  simp (maxSteps := 1000000) only [go_sem, reduceCtorEq, Nat.reduceLT, Nat.reduceLeDiff, reduceIte, ↓reduceIte, Nat.reduceEqDiff, Nat.reduceAdd, Nat.reduceMul, Nat.reduceSub, Int.reduceLE, Int.reduceLT, Int.reduceNeg, Int.reduceToNat]
  refine Ite.decide (fun h1 => ?_) (fun h1 => ?_)
  · simp (maxSteps := 1000000) only [go_sem, reduceCtorEq, Nat.reduceLT, Nat.reduceLeDiff, reduceIte, ↓reduceIte, Nat.reduceEqDiff, Nat.reduceAdd, Nat.reduceMul, Nat.reduceSub, Int.reduceLE, Int.reduceLT, Int.reduceNeg, Int.reduceToNat]
    refine VcDraw.lex [] [] (by kernel_rfl) (by kernel_rfl) ?_
    simp (maxSteps := 1000000) only [go_sem, reduceCtorEq, Nat.reduceLT, Nat.reduceLeDiff, reduceIte, ↓reduceIte, Nat.reduceEqDiff, Nat.reduceAdd, Nat.reduceMul, Nat.reduceSub, Int.reduceLE, Int.reduceLT, Int.reduceNeg, Int.reduceToNat]
    (repeat' first | (with_reducible refine Asm.intro fun _ => ?_) | ((with_reducible refine Chk.intro ?_ ?_); (· first | omega | (with_reducible refine Chk.intro ?_ ?_ <;> omega) | (simp; done) | (simp; omega))) | ((with_reducible refine LetW.i64 ?_ ?_ ?_); (· omega); (· omega)) | ((with_reducible refine Ite.decide (fun _ => ?_) (fun _ => ?_)) <;> first | (exfalso; omega) | simp (maxSteps := 1000000) only [go_sem, reduceCtorEq, Nat.reduceLT, Nat.reduceLeDiff, reduceIte, ↓reduceIte, Nat.reduceEqDiff, Nat.reduceAdd, Nat.reduceMul, Nat.reduceSub, Int.reduceLE, Int.reduceLT, Int.reduceNeg, Int.reduceToNat]) | ((with_reducible refine Ite.bool (fun _ => ?_) (fun _ => ?_)) <;> simp (maxSteps := 1000000) only [go_sem, reduceCtorEq, Nat.reduceLT, Nat.reduceLeDiff, reduceIte, ↓reduceIte, Nat.reduceEqDiff, Nat.reduceAdd, Nat.reduceMul, Nat.reduceSub, Int.reduceLE, Int.reduceLT, Int.reduceNeg, Int.reduceToNat]) | (with_reducible refine And.intro ?_ ?_))
    · rename_i h2
      refine Ret.auto 0 ?_ rfl (by simp [subOk])
      have : a ≠ b := by intro e; subst e; exact h2 rfl
      simp only [go_sem, reduceCtorEq, reduceIte, Nat.reduceEqDiff, Nat.reduceLT, Nat.reduceLeDiff, Int.natCast_succ, Post, this]
    · rename_i h2
      refine ⟨i + 1, Ent.auto0 rfl ?_ ?_, ⟨by omega, fun j hj => ?_⟩, by omega⟩
      · simp only [go_sem, reduceCtorEq, reduceIte, Nat.reduceEqDiff, Nat.reduceLT, Nat.reduceLeDiff, Int.natCast_succ]
        all_goals omega
      · simp only [go_sem, reduceCtorEq, reduceIte, Nat.reduceEqDiff, Nat.reduceLT, Nat.reduceLeDiff, Int.natCast_succ]
      · by_cases e : j = i
        · subst e; exact Decidable.of_not_not h2
        · exact hi.2 j (by omega)
  · simp (maxSteps := 1000000) only [go_sem, reduceCtorEq, Nat.reduceLT, Nat.reduceLeDiff, reduceIte, ↓reduceIte, Nat.reduceEqDiff, Nat.reduceAdd, Nat.reduceMul, Nat.reduceSub, Int.reduceLE, Int.reduceLT, Int.reduceNeg, Int.reduceToNat]
    refine Ret.auto 0 ?_ rfl (by simp [subOk])
    have : a = b := eq_of_getD 0 hl fun j hj => hi.2 j (by omega)
    simp only [go_sem, reduceCtorEq, reduceIte, Nat.reduceEqDiff, Nat.reduceLT, Nat.reduceLeDiff, Int.natCast_succ, Post, this, decide_false, decide_true]

/-- The part of the page that a place of the grid stands for, and its ink. -/
def gx (w side i : Nat) : Nat := i * w / side
def gridN (p : List Bool) (w h side i j : Nat) : Nat :=
  if 0 < (gx w side (i + 1) - gx w side i) * (gx h side (j + 1) - gx h side j) then
    inkN p w (gx w side i) (gx h side j) (gx w side (i + 1) - gx w side i) (gx h side (j + 1) - gx h side j) * 1000 / ((gx w side (i + 1) - gx w side i) * (gx h side (j + 1) - gx h side j))
  else 0
def gridV (p : List Bool) (w h side i j : Nat) : Int := ((gridN p w h side i j : Nat) : Int)
theorem gx_le {w side i : Nat} (hi : i ≤ side) : gx w side i ≤ w := by
  unfold gx
  rcases Nat.eq_zero_or_pos side with rfl | h
  · simp
  · exact Nat.div_le_of_le_mul (Nat.mul_le_mul_right _ hi)
theorem gx_mono {w side i : Nat} : gx w side i ≤ gx w side (i + 1) := by
  unfold gx
  exact Nat.div_le_div_right (Nat.mul_le_mul_right _ (Nat.le_succ _))

set_option maxHeartbeats 4000000 in
theorem grid_ok (w h : Nat) (hw1 : 1 ≤ w) (hw : w ≤ 32) (hh1 : 1 ≤ h) (hh : h ≤ 32) (p : List Bool) (hp : p.length = w * h) (side : Nat) (hs1 : 1 ≤ side) (hs2 : side ≤ 64) :
    FnOk Tryd.prog 23 [.agg [.int .i64 w, .int .i64 h, .ro (.bools p)], .int .i64 side] (.tup [.own 0, .int .i64 0]) [(0, .row 3 (.ints .i64 (rowsOf side (gridV p w h side) (side * side))))] := by
  have k1 := checkBits_ok w h p
  rw [bitsErr_ok hw1 (by omega) hh1 (by omega) hp] at k1
  have k2 := inkSums_ok w h (by omega) (by omega) p hp
  have hin := in_ok w h (by omega) (by omega) (inkV p) (inkV_bd p)
  generalize sumsAt (inkV p) w ((w + 1) * (h + 1)) ((w + 1) * (h + 1)) = L at *
  have hss : side * side ≤ 64 * 64 := Nat.mul_le_mul hs2 hs2
  generalize hn : side * side = n at *
  refine FnOk.of_vc Tryd.func23 rfl (by decide) (by simp [Tryd.f23]) [.tmp 4, .tmp 5] rfl fun w0 T0 _ => ?_
  simp only [Tryd.f23, argEnv]
  (repeat' first | with_reducible (first | refine Asm.intro fun _ => ?_ | refine Chk.g ?_ | refine AnyI.i64 fun _ _ => ?_ | refine LetW.g ?_ | refine LetW.h ?_ | refine Ite.t fun _ => ?_ | refine Ite.f fun _ => ?_ | refine Ite.decide (fun _ => ?_) fun _ => ?_ | refine Ite.bool (fun _ => ?_) fun _ => ?_ | refine And.intro ?_ ?_) | omega | simp (maxSteps := 1000000) only [go_sem, reduceCtorEq, Nat.reduceLT, Nat.reduceLeDiff, reduceIte, ↓reduceIte, Nat.reduceEqDiff, Nat.reduceAdd, Nat.reduceMul, Nat.reduceSub, Int.reduceLE, Int.reduceLT, Int.reduceNeg, Int.reduceToNat])
  refine VcCall.fr (FnFr.of_ok k1 rfl rfl) (by simp only [noIdR_ok, argOkL, argOk, allOk, argOkN, List.drop_zero, lk, reduceIte, reduceCtorEq, Nat.reduceEqDiff, Option.some.injEq, Item.row.injEq, Item.box.injEq, AV.ro.injEq, exists_eq_left, exists_and_left, exists_eq_left', exists_eq_right, and_assoc, and_true, true_and, List.cons.injEq, exists_eq', exists_eq]) 0 rfl (by simp [rowsB]) ?_
  (repeat' first | with_reducible (first | refine Asm.intro fun _ => ?_ | refine Chk.g ?_ | refine AnyI.i64 fun _ _ => ?_ | refine LetW.g ?_ | refine LetW.h ?_ | refine Ite.t fun _ => ?_ | refine Ite.f fun _ => ?_ | refine Ite.decide (fun _ => ?_) fun _ => ?_ | refine Ite.bool (fun _ => ?_) fun _ => ?_ | refine And.intro ?_ ?_) | omega | simp (maxSteps := 1000000) only [go_sem, reduceCtorEq, Nat.reduceLT, Nat.reduceLeDiff, reduceIte, ↓reduceIte, Nat.reduceEqDiff, Nat.reduceAdd, Nat.reduceMul, Nat.reduceSub, Int.reduceLE, Int.reduceLT, Int.reduceNeg, Int.reduceToNat])
  refine VcCall.fr (FnFr.of_ok k2 rfl rfl) (by simp only [noIdR_ok, argOkL, argOk, allOk, argOkN, List.drop_zero, lk, reduceIte, reduceCtorEq, Nat.reduceEqDiff, Option.some.injEq, Item.row.injEq, Item.box.injEq, AV.ro.injEq, exists_eq_left, exists_and_left, exists_eq_left', exists_eq_right, and_assoc, and_true, true_and, List.cons.injEq, exists_eq', exists_eq]) 2 rfl (by simp [rowsB, Item.below, Fv.below, belowL]) ?_
  (repeat' first | with_reducible (first | refine Asm.intro fun _ => ?_ | refine Chk.g ?_ | refine AnyI.i64 fun _ _ => ?_ | refine LetW.g ?_ | refine LetW.h ?_ | refine Ite.t fun _ => ?_ | refine Ite.f fun _ => ?_ | refine Ite.decide (fun _ => ?_) fun _ => ?_ | refine Ite.bool (fun _ => ?_) fun _ => ?_ | refine And.intro ?_ ?_) | omega | simp (maxSteps := 1000000) only [go_sem, reduceCtorEq, Nat.reduceLT, Nat.reduceLeDiff, reduceIte, ↓reduceIte, Nat.reduceEqDiff, Nat.reduceAdd, Nat.reduceMul, Nat.reduceSub, Int.reduceLE, Int.reduceLT, Int.reduceNeg, Int.reduceToNat, up_mul, hn])
  refine VcLoop.intro (fun k : Nat => ⟨95, [(33, .int .i64 k), (32, .int .i64 n), (8, .own 3), (7, .ptr 1 0), (2, .ptr 0 0), (1, .int .i64 side)], [(0, .box 27 [.int .i64 w, .int .i64 h, .ro (.bools p)]), (1, .box 185 [.int .i64 w, .int .i64 h, .own 2]), (2, .row 3 (.ints .i64 L)), (3, .row 3 (.ints .i64 (rowsOf side (gridV p w h side) k ++ List.replicate (n - k) 0)))], 4⟩) (fun k => k ≤ n) (fun k => n - k) 0 ?_ (Nat.zero_le _) fun k hk => ?_
  · refine Ent.auto0 rfl ?_ ?_ <;> simp only [go_sem, reduceCtorEq, reduceIte, Nat.reduceEqDiff, Nat.reduceLT, Nat.reduceLeDiff, Int.natCast_succ, zrow, rowsOf, List.range_zero, List.map_nil, Nat.sub_zero, Int.toNat_natCast]
  (repeat' first | with_reducible (first | refine Asm.intro fun _ => ?_ | refine Chk.g ?_ | refine AnyI.i64 fun _ _ => ?_ | refine LetW.g ?_ | refine LetW.h ?_ | refine Ite.t fun _ => ?_ | refine Ite.f fun _ => ?_ | refine Ite.decide (fun _ => ?_) fun _ => ?_ | refine Ite.bool (fun _ => ?_) fun _ => ?_ | refine And.intro ?_ ?_) | omega | simp (maxSteps := 1000000) only [go_sem, reduceCtorEq, Nat.reduceLT, Nat.reduceLeDiff, reduceIte, ↓reduceIte, Nat.reduceEqDiff, Nat.reduceAdd, Nat.reduceMul, Nat.reduceSub, Int.reduceLE, Int.reduceLT, Int.reduceNeg, Int.reduceToNat])
  · have hkn : k < side * side := by omega
    have hi : k % side < side := Nat.mod_lt _ (by omega)
    have hj : k / side < side := Nat.div_lt_of_lt_mul hkn
    have hset := set_range (n := n) (fun k => gridV p w h side (k % side) (k / side)) 0 (show k < n by omega)
    have hr := rowsOf_len side (gridV p w h side) k
    generalize hie : k % side = i at *
    generalize hje : k / side = j at *
    refine VcDraw.lex [] [] (by kernel_rfl) (by kernel_rfl) ?_
    (repeat' first | with_reducible (first | refine Asm.intro fun _ => ?_ | refine Chk.g ?_ | refine AnyI.i64 fun _ _ => ?_ | refine LetW.g ?_ | refine LetW.h ?_ | refine Ite.t fun _ => ?_ | refine Ite.f fun _ => ?_ | refine Ite.decide (fun _ => ?_) fun _ => ?_ | refine Ite.bool (fun _ => ?_) fun _ => ?_ | refine And.intro ?_ ?_) | omega | simp (maxSteps := 1000000) only [go_sem, reduceCtorEq, Nat.reduceLT, Nat.reduceLeDiff, reduceIte, ↓reduceIte, Nat.reduceEqDiff, Nat.reduceAdd, Nat.reduceMul, Nat.reduceSub, Int.reduceLE, Int.reduceLT, Int.reduceNeg, Int.reduceToNat, up_tmod, up_tdiv, hie, hje])
    have b1 : i * w ≤ 64 * 32 := Nat.mul_le_mul (by omega) hw
    have b2 : j * h ≤ 64 * 32 := Nat.mul_le_mul (by omega) hh
    have b3 : (i + 1) * w ≤ 64 * 32 := Nat.mul_le_mul (by omega) hw
    have b4 : (j + 1) * h ≤ 64 * 32 := Nat.mul_le_mul (by omega) hh
    have g1 : i * w / side = gx w side i := rfl
    have g2 : j * h / side = gx h side j := rfl
    have g3 : (i + 1) * w / side = gx w side (i + 1) := rfl
    have g4 : (j + 1) * h / side = gx h side (j + 1) := rfl
    have l1 := gx_le (w := w) (side := side) (i := i + 1) (by omega)
    have l2 := gx_le (w := h) (side := side) (i := j + 1) (by omega)
    have m1 := gx_mono (w := w) (side := side) (i := i)
    have m2 := gx_mono (w := h) (side := side) (i := j)
    refine VcDraw.lex [13, 14] [(0, [1]), (1, [1]), (2, [1]), (3, [1]), (4, [1]), (5, [1]), (6, [1]), (7, [1]), (8, [1]), (9, [1]), (10, [1]), (11, [1]), (12, [1])] (by kernel_rfl) (by kernel_rfl) ?_
    (repeat' first | with_reducible (first | refine Asm.intro fun _ => ?_ | refine Chk.g ?_ | refine AnyI.i64 fun _ _ => ?_ | refine LetW.g ?_ | refine LetW.h ?_ | refine Ite.t fun _ => ?_ | refine Ite.f fun _ => ?_ | refine Ite.decide (fun _ => ?_) fun _ => ?_ | refine Ite.bool (fun _ => ?_) fun _ => ?_ | refine And.intro ?_ ?_) | omega | simp (maxSteps := 1000000) only [go_sem, reduceCtorEq, Nat.reduceLT, Nat.reduceLeDiff, reduceIte, ↓reduceIte, Nat.reduceEqDiff, Nat.reduceAdd, Nat.reduceMul, Nat.reduceSub, Int.reduceLE, Int.reduceLT, Int.reduceNeg, Int.reduceToNat, up_mul, up_tdiv, g1, g2])
    refine VcDraw.lex [21, 23] [(10, [1]), (11, [1]), (12, [1]), (13, [1]), (14, [1]), (15, [1]), (16, [1]), (19, [1])] (by kernel_rfl) (by kernel_rfl) ?_
    have e1 : ((gx w side (i + 1) : Nat) : Int) - (gx w side i : Nat) = ((gx w side (i + 1) - gx w side i : Nat) : Int) := by omega
    have e2 : ((gx h side (j + 1) : Nat) : Int) - (gx h side j : Nat) = ((gx h side (j + 1) - gx h side j : Nat) : Int) := by omega
    have hV : gridV p w h side i j = ((if 0 < (gx w side (i + 1) - gx w side i) * (gx h side (j + 1) - gx h side j) then
      inkN p w (gx w side i) (gx h side j) (gx w side (i + 1) - gx w side i) (gx h side (j + 1) - gx h side j) * 1000 / ((gx w side (i + 1) - gx w side i) * (gx h side (j + 1) - gx h side j)) else 0 : Nat) : Int) := rfl
    have hI := hin (gx w side i) (gx h side j) (gx w side (i + 1) - gx w side i) (gx h side (j + 1) - gx h side j) (by omega) (by omega)
    rw [inkN_rect] at hI
    have hle := inkN_le p w (gx w side i) (gx h side j) (gx w side (i + 1) - gx w side i) (gx h side (j + 1) - gx h side j)
    have q1 : gx w side (i + 1) - gx w side i ≤ 32 := by omega
    have q2 : gx h side (j + 1) - gx h side j ≤ 32 := by omega
    generalize inkN p w (gx w side i) (gx h side j) (gx w side (i + 1) - gx w side i) (gx h side (j + 1) - gx h side j) = N at *
    have hWH : (gx w side (i + 1) - gx w side i) * (gx h side (j + 1) - gx h side j) ≤ 32 * 32 := Nat.mul_le_mul q1 q2
    have hcm : (gx h side (j + 1) - gx h side j) * (gx w side (i + 1) - gx w side i) = (gx w side (i + 1) - gx w side i) * (gx h side (j + 1) - gx h side j) := Nat.mul_comm _ _
    rw [hcm] at hle
    generalize gx w side (i + 1) - gx w side i = W at *
    generalize gx h side (j + 1) - gx h side j = H at *
    generalize hA : W * H = A at *
    (repeat' first | with_reducible (first | refine Asm.intro fun _ => ?_ | refine Chk.g ?_ | refine AnyI.i64 fun _ _ => ?_ | refine LetW.g ?_ | refine LetW.h ?_ | refine Ite.t fun _ => ?_ | refine Ite.f fun _ => ?_ | refine Ite.decide (fun _ => ?_) fun _ => ?_ | refine Ite.bool (fun _ => ?_) fun _ => ?_ | refine And.intro ?_ ?_) | omega | simp (maxSteps := 1000000) only [go_sem, reduceCtorEq, Nat.reduceLT, Nat.reduceLeDiff, reduceIte, ↓reduceIte, Nat.reduceEqDiff, Nat.reduceAdd, Nat.reduceMul, Nat.reduceSub, Int.reduceLE, Int.reduceLT, Int.reduceNeg, Int.reduceToNat, up_add, up_one, up_mul, up_tdiv, g3, g4, e1, e2, hA])
    · rename_i hpos
      rw [if_pos (by omega)] at hV
      have hq : N * 1000 / A ≤ N * 1000 := Nat.div_le_self _ _
      refine VcCall.fr (FnFr.of_ok hI rfl rfl) (by simp only [noIdR_ok, argOkL, argOk, allOk, argOkN, List.drop_zero, lk, reduceIte, reduceCtorEq, Nat.reduceEqDiff, Option.some.injEq, Item.row.injEq, Item.box.injEq, AV.ro.injEq, exists_eq_left, exists_and_left, exists_eq_left', exists_eq_right, and_assoc, and_true, true_and, List.cons.injEq, exists_eq', exists_eq]) 0 rfl (by simp [rowsB]) ?_
      have eN : (N : Int) * 1000 = ((N * 1000 : Nat) : Int) := by omega
      have eD : ((N * 1000 : Nat) : Int).tdiv (A : Int) = ((N * 1000 / A : Nat) : Int) := up_tdiv _ _
      generalize N * 1000 / A = D at *
      (repeat' first | with_reducible (first | refine Asm.intro fun _ => ?_ | refine Chk.g ?_ | refine AnyI.i64 fun _ _ => ?_ | refine LetW.g ?_ | refine LetW.h ?_ | refine Ite.t fun _ => ?_ | refine Ite.f fun _ => ?_ | refine Ite.decide (fun _ => ?_) fun _ => ?_ | refine Ite.bool (fun _ => ?_) fun _ => ?_ | refine And.intro ?_ ?_) | omega | simp (maxSteps := 1000000) only [go_sem, reduceCtorEq, Nat.reduceLT, Nat.reduceLeDiff, reduceIte, ↓reduceIte, Nat.reduceEqDiff, Nat.reduceAdd, Nat.reduceMul, Nat.reduceSub, Int.reduceLE, Int.reduceLT, Int.reduceNeg, Int.reduceToNat, eN, eD, List.length_append, List.length_replicate, hr])
      rw [hV] at hset
      refine ⟨k + 1, Ent.auto0 rfl ?_ ?_, by omega, by omega⟩ <;> simp only [go_sem, reduceCtorEq, reduceIte, Nat.reduceEqDiff, Nat.reduceLT, Nat.reduceLeDiff, Int.natCast_succ]
      all_goals first | exact hset | rfl
    · rename_i hpos
      rw [if_neg (by omega)] at hV
      have hnk : n - k = (n - (k + 1)) + 1 := by omega
      refine ⟨k + 1, Ent.auto0 rfl ?_ ?_, by omega, by omega⟩ <;> simp only [go_sem, reduceCtorEq, reduceIte, Nat.reduceEqDiff, Nat.reduceLT, Nat.reduceLeDiff, Int.natCast_succ]
      have key : rowsOf side (gridV p w h side) k ++ List.replicate (n - k) 0 = rowsOf side (gridV p w h side) (k + 1) ++ List.replicate (n - (k + 1)) 0 := by
        unfold rowsOf
        rw [List.range_succ, List.map_append, hnk, List.replicate_succ]
        simp only [List.map_cons, List.map_nil, hie, hje, hV, List.append_assoc, List.cons_append, List.nil_append]
        rfl
      all_goals first | exact key | rfl
  · have e : k = n := by omega
    subst e
    refine Ret.auto 1 ?_ rfl ?_ <;> simp only [go_sem, reduceCtorEq, reduceIte, Nat.reduceEqDiff, Nat.reduceLT, Nat.reduceLeDiff, Int.natCast_succ, Post, Nat.sub_self, List.replicate_zero, List.append_nil]
end Go.Fv.S

namespace Go.Fv.S
open Go Go.Proofs
set_option linter.unusedSimpArgs false
set_option linter.unusedVariables false
set_option maxRecDepth 8000

set_option maxHeartbeats 4000000 in
theorem gridOf_ok (w h : Nat) (hw1 : 1 ≤ w) (hw : w ≤ 32) (hh1 : 1 ≤ h) (hh : h ≤ 32) (p : List Bool) (hp : p.length = w * h) (side : Nat) (hs1 : 1 ≤ side) (hs2 : side ≤ 64) :
    FnOk Tryd.prog 25 [.agg [.int .i64 w, .int .i64 h, .ro (.bools p)], .int .i64 side] (.own 0) [(0, .row 3 (.ints .i64 (rowsOf side (gridV p w h side) (side * side))))] := by
  have hin := inkOf_ok w h
  refine FnOk.of_vc Tryd.func25 rfl (by decide) (by simp [Tryd.f25]) [.tmp 4] rfl fun w0 T0 _ => ?_
  simp only [Tryd.f25, argEnv]
  (repeat' first | with_reducible (first | refine Asm.intro fun _ => ?_ | refine Chk.g ?_ | refine AnyI.i64 fun _ _ => ?_ | refine LetW.g ?_ | refine LetW.h ?_ | refine Ite.t fun _ => ?_ | refine Ite.f fun _ => ?_ | refine Ite.decide (fun _ => ?_) fun _ => ?_ | refine Ite.bool (fun _ => ?_) fun _ => ?_ | refine And.intro ?_ ?_) | omega | simp (maxSteps := 1000000) only [go_sem, reduceCtorEq, Nat.reduceLT, Nat.reduceLeDiff, reduceIte, ↓reduceIte, Nat.reduceEqDiff, Nat.reduceAdd, Nat.reduceMul, Nat.reduceSub, Int.reduceLE, Int.reduceLT, Int.reduceNeg, Int.reduceToNat])
  refine VcLoop.intro (fun j : Nat => ⟨76, [(14, .int .i64 j), (13, .int .i64 side), (5, .own 1), (2, .ptr 0 0), (1, .int .i64 side)], [(0, .box 27 [.int .i64 w, .int .i64 h, .ro (.bools p)]), (1, .row 3 (.ints .i64 (rowsOf side (gridV p w h side) (j * side))))], 2⟩) (fun j => j ≤ side) (fun j => side - j) 0 ?_ (Nat.zero_le _) fun j hj => ?_
  · refine Ent.auto0 rfl ?_ ?_ <;> simp only [go_sem, reduceCtorEq, reduceIte, Nat.reduceEqDiff, Nat.reduceLT, Nat.reduceLeDiff, Int.natCast_succ, zrow, rowsOf, Nat.zero_mul, List.range_zero, List.map_nil, List.replicate_zero]
  (repeat' first | with_reducible (first | refine Asm.intro fun _ => ?_ | refine Chk.g ?_ | refine AnyI.i64 fun _ _ => ?_ | refine LetW.g ?_ | refine LetW.h ?_ | refine Ite.t fun _ => ?_ | refine Ite.f fun _ => ?_ | refine Ite.decide (fun _ => ?_) fun _ => ?_ | refine Ite.bool (fun _ => ?_) fun _ => ?_ | refine And.intro ?_ ?_) | omega | simp (maxSteps := 1000000) only [go_sem, reduceCtorEq, Nat.reduceLT, Nat.reduceLeDiff, reduceIte, ↓reduceIte, Nat.reduceEqDiff, Nat.reduceAdd, Nat.reduceMul, Nat.reduceSub, Int.reduceLE, Int.reduceLT, Int.reduceNeg, Int.reduceToNat])
  · refine VcLoop.intro (fun i : Nat => ⟨76, [(18, .int .i64 i), (17, .int .i64 side), (6, .int .i64 j), (14, .int .i64 j), (13, .int .i64 side), (5, .own 1), (2, .ptr 0 0), (1, .int .i64 side)], [(0, .box 27 [.int .i64 w, .int .i64 h, .ro (.bools p)]), (1, .row 3 (.ints .i64 (rowsOf side (gridV p w h side) (j * side + i))))], 2⟩) (fun i => i ≤ side) (fun i => side - i) 0 ?_ (Nat.zero_le _) fun i hi => ?_
    · refine Ent.auto0 rfl ?_ ?_ <;> simp only [go_sem, reduceCtorEq, reduceIte, Nat.reduceEqDiff, Nat.reduceLT, Nat.reduceLeDiff, Int.natCast_succ, Nat.add_zero]
    (repeat' first | with_reducible (first | refine Asm.intro fun _ => ?_ | refine Chk.g ?_ | refine AnyI.i64 fun _ _ => ?_ | refine LetW.g ?_ | refine LetW.h ?_ | refine Ite.t fun _ => ?_ | refine Ite.f fun _ => ?_ | refine Ite.decide (fun _ => ?_) fun _ => ?_ | refine Ite.bool (fun _ => ?_) fun _ => ?_ | refine And.intro ?_ ?_) | omega | simp (maxSteps := 1000000) only [go_sem, reduceCtorEq, Nat.reduceLT, Nat.reduceLeDiff, reduceIte, ↓reduceIte, Nat.reduceEqDiff, Nat.reduceAdd, Nat.reduceMul, Nat.reduceSub, Int.reduceLE, Int.reduceLT, Int.reduceNeg, Int.reduceToNat])
    · have b1 : i * w ≤ 64 * 32 := Nat.mul_le_mul (by omega) hw
      have b2 : j * h ≤ 64 * 32 := Nat.mul_le_mul (by omega) hh
      have b3 : (i + 1) * w ≤ 64 * 32 := Nat.mul_le_mul (by omega) hw
      have b4 : (j + 1) * h ≤ 64 * 32 := Nat.mul_le_mul (by omega) hh
      have b5 : j * side ≤ 64 * 64 := Nat.mul_le_mul (by omega) hs2
      have g1 : i * w / side = gx w side i := rfl
      have g2 : j * h / side = gx h side j := rfl
      have g3 : (i + 1) * w / side = gx w side (i + 1) := rfl
      have g4 : (j + 1) * h / side = gx h side (j + 1) := rfl
      have l1 := gx_le (w := w) (side := side) (i := i + 1) (by omega)
      have l2 := gx_le (w := h) (side := side) (i := j + 1) (by omega)
      have m1 := gx_mono (w := w) (side := side) (i := i)
      have m2 := gx_mono (w := h) (side := side) (i := j)
      have hr := rowsOf_len side (gridV p w h side) (j * side + i)
      have hs := rowsOf_succ (gridV p w h side) (x := i) (y := j) (w := side) (by omega)
      refine VcDraw.lex [] [] (by kernel_rfl) (by kernel_rfl) ?_
      (repeat' first | with_reducible (first | refine Asm.intro fun _ => ?_ | refine Chk.g ?_ | refine AnyI.i64 fun _ _ => ?_ | refine LetW.g ?_ | refine LetW.h ?_ | refine Ite.t fun _ => ?_ | refine Ite.f fun _ => ?_ | refine Ite.decide (fun _ => ?_) fun _ => ?_ | refine Ite.bool (fun _ => ?_) fun _ => ?_ | refine And.intro ?_ ?_) | omega | simp (maxSteps := 1000000) only [go_sem, reduceCtorEq, Nat.reduceLT, Nat.reduceLeDiff, reduceIte, ↓reduceIte, Nat.reduceEqDiff, Nat.reduceAdd, Nat.reduceMul, Nat.reduceSub, Int.reduceLE, Int.reduceLT, Int.reduceNeg, Int.reduceToNat, up_mul, up_tdiv, g1, g2])
      refine VcDraw.lex [] [] (by kernel_rfl) (by kernel_rfl) ?_
      have e1 : ((gx w side (i + 1) : Nat) : Int) - (gx w side i : Nat) = ((gx w side (i + 1) - gx w side i : Nat) : Int) := by omega
      have e2 : ((gx h side (j + 1) : Nat) : Int) - (gx h side j : Nat) = ((gx h side (j + 1) - gx h side j : Nat) : Int) := by omega
      have hV : gridV p w h side i j = ((if 0 < (gx w side (i + 1) - gx w side i) * (gx h side (j + 1) - gx h side j) then
        inkN p w (gx w side i) (gx h side j) (gx w side (i + 1) - gx w side i) (gx h side (j + 1) - gx h side j) * 1000 / ((gx w side (i + 1) - gx w side i) * (gx h side (j + 1) - gx h side j)) else 0 : Nat) : Int) := rfl
      have hI := hin (gx w side i) (gx h side j) (gx w side (i + 1) - gx w side i) (gx h side (j + 1) - gx h side j) (by omega) (by omega) p hp (by omega) (by omega)
      have hle := inkN_le p w (gx w side i) (gx h side j) (gx w side (i + 1) - gx w side i) (gx h side (j + 1) - gx h side j)
      have q1 : gx w side (i + 1) - gx w side i ≤ 32 := by omega
      have q2 : gx h side (j + 1) - gx h side j ≤ 32 := by omega
      generalize inkN p w (gx w side i) (gx h side j) (gx w side (i + 1) - gx w side i) (gx h side (j + 1) - gx h side j) = N at *
      have hWH : (gx w side (i + 1) - gx w side i) * (gx h side (j + 1) - gx h side j) ≤ 32 * 32 := Nat.mul_le_mul q1 q2
      have hcm : (gx h side (j + 1) - gx h side j) * (gx w side (i + 1) - gx w side i) = (gx w side (i + 1) - gx w side i) * (gx h side (j + 1) - gx h side j) := Nat.mul_comm _ _
      rw [hcm] at hle
      generalize gx w side (i + 1) - gx w side i = W at *
      generalize gx h side (j + 1) - gx h side j = H at *
      have hpp : 0 < W * H ↔ 0 < W ∧ 0 < H := by
        constructor
        · intro h0
          refine ⟨Nat.pos_of_ne_zero fun e => ?_, Nat.pos_of_ne_zero fun e => ?_⟩
          · subst e; simp at h0
          · subst e; simp at h0
        · exact fun h0 => Nat.mul_pos h0.1 h0.2
      generalize hA : W * H = A at *
      have eN : (N : Int) * 1000 = ((N * 1000 : Nat) : Int) := by omega
      (repeat' first | with_reducible (first | refine Asm.intro fun _ => ?_ | refine Chk.g ?_ | refine AnyI.i64 fun _ _ => ?_ | refine LetW.g ?_ | refine LetW.h ?_ | refine Ite.t fun _ => ?_ | refine Ite.f fun _ => ?_ | refine Ite.decide (fun _ => ?_) fun _ => ?_ | refine Ite.bool (fun _ => ?_) fun _ => ?_ | refine And.intro ?_ ?_) | omega | simp (maxSteps := 1000000) only [go_sem, reduceCtorEq, Nat.reduceLT, Nat.reduceLeDiff, reduceIte, ↓reduceIte, Nat.reduceEqDiff, Nat.reduceAdd, Nat.reduceMul, Nat.reduceSub, Int.reduceLE, Int.reduceLT, Int.reduceNeg, Int.reduceToNat, up_add, up_one, up_mul, up_tdiv, g3, g4, e1, e2])
      · rename_i hpos
        have hpos' : 0 < A := hpp.2 ⟨by omega, by omega⟩
        rw [if_pos hpos'] at hV
        have hq : N * 1000 / A ≤ N * 1000 := Nat.div_le_self _ _
        have eD : ((N * 1000 : Nat) : Int).tdiv (A : Int) = ((N * 1000 / A : Nat) : Int) := up_tdiv _ _
        generalize N * 1000 / A = D at *
        refine VcCall.fr (FnFr.of_ok hI rfl rfl) (by simp only [noIdR_ok, argOkL, argOk, allOk, argOkN, List.drop_zero, lk, reduceIte, reduceCtorEq, Nat.reduceEqDiff, Option.some.injEq, Item.row.injEq, Item.box.injEq, AV.ro.injEq, exists_eq_left, exists_and_left, exists_eq_left', exists_eq_right, and_assoc, and_true, true_and, List.cons.injEq, exists_eq', exists_eq]) 0 rfl (by simp [rowsB]) ?_
        (repeat' first | with_reducible (first | refine Asm.intro fun _ => ?_ | refine Chk.g ?_ | refine AnyI.i64 fun _ _ => ?_ | refine LetW.g ?_ | refine LetW.h ?_ | refine Ite.t fun _ => ?_ | refine Ite.f fun _ => ?_ | refine Ite.decide (fun _ => ?_) fun _ => ?_ | refine Ite.bool (fun _ => ?_) fun _ => ?_ | refine And.intro ?_ ?_) | omega | simp (maxSteps := 1000000) only [go_sem, reduceCtorEq, Nat.reduceLT, Nat.reduceLeDiff, reduceIte, ↓reduceIte, Nat.reduceEqDiff, Nat.reduceAdd, Nat.reduceMul, Nat.reduceSub, Int.reduceLE, Int.reduceLT, Int.reduceNeg, Int.reduceToNat, up_mul, hA, eN, eD, hr])
        refine ⟨i + 1, Ent.auto0 rfl ?_ ?_, by omega, by omega⟩ <;> simp only [go_sem, reduceCtorEq, reduceIte, Nat.reduceEqDiff, Nat.reduceLT, Nat.reduceLeDiff, Int.natCast_succ]
        all_goals first | (rw [hs, hV]; done) | (rw [hs, hV]; rfl) | rfl
      · rename_i hpos
        rw [if_neg (fun h0 => hpos ⟨by omega, by omega⟩)] at hV
        refine ⟨i + 1, Ent.auto0 rfl ?_ ?_, by omega, by omega⟩ <;> simp only [go_sem, reduceCtorEq, reduceIte, Nat.reduceEqDiff, Nat.reduceLT, Nat.reduceLeDiff, Int.natCast_succ]
        all_goals first | (rw [hs, hV]; done) | (rw [hs, hV]; rfl) | rfl
    · have e : i = side := by omega
      refine ⟨j + 1, Ent.auto0 rfl ?_ ?_, by omega, by omega⟩ <;> simp only [go_sem, reduceCtorEq, reduceIte, Nat.reduceEqDiff, Nat.reduceLT, Nat.reduceLeDiff, Int.natCast_succ]
      all_goals first | (rw [e, Nat.succ_mul]; done) | rfl
  · have e : j = side := by omega
    rw [e]
    refine Ret.auto 1 ?_ rfl ?_ <;> simp only [go_sem, reduceCtorEq, reduceIte, Nat.reduceEqDiff, Nat.reduceLT, Nat.reduceLeDiff, Int.natCast_succ, Post]
end Go.Fv.S
