/-
  A part of the proof of the claim: walks over the program's functions and the plain laws that these need. No condition of its own.
-/
import Derived.Test.YtingcghleidhmaaGreatDoorQLinesMatchCardPart1
namespace Go.Fv.Q
open Go Go.Proofs
set_option linter.unusedSimpArgs false
set_option linter.unusedVariables false
set_option maxRecDepth 8000
/-- Ink as a number. -/
def inkV (p : List Bool) (i : Nat) : Int := if p.getD i false = true then 1 else 0
theorem inkV_bd (p : List Bool) (i : Nat) : 0 ≤ inkV p i ∧ inkV p i ≤ 255 := by unfold inkV; split <;> omega
theorem inkSums1_ok (W H : Int) (p : List Bool) (i : Nat) (hi : i < p.length) :
    FnOk Tryz.prog 81 [.int .i64 i, .cell [.int .i64 W, .int .i64 H, .ro (.bools p)]] (.int .i64 (inkV p i)) [] := by
  refine FnOk.of_vc Tryz.func81 rfl (by decide) (by simp [Tryz.f81]) [.tmp 3] rfl fun w0 T0 _ => ?_
  simp only [Tryz.f81, argEnv]
  (repeat' first | with_reducible (first | refine Asm.intro fun _ => ?_ | refine Chk.g ?_ | refine AnyI.i64 fun _ _ => ?_ | refine LetW.g ?_ | refine LetW.h ?_ | refine Ite.t fun _ => ?_ | refine Ite.f fun _ => ?_ | refine Ite.decide (fun _ => ?_) fun _ => ?_ | refine Ite.bool (fun _ => ?_) fun _ => ?_ | refine And.intro ?_ ?_) | omega | simp (maxSteps := 1000000) only [go_sem, reduceCtorEq, Nat.reduceLT, Nat.reduceLeDiff, reduceIte, ↓reduceIte, Nat.reduceEqDiff, Nat.reduceAdd, Nat.reduceMul, Nat.reduceSub, Int.reduceLE, Int.reduceLT, Int.reduceNeg, Int.reduceToNat])
  · rename_i h1
    refine Ret.auto 0 ?_ rfl ?_ <;> simp only [go_sem, reduceCtorEq, reduceIte, Nat.reduceEqDiff, Nat.reduceLT, Nat.reduceLeDiff, Int.natCast_succ, Post, inkV, h1, reduceIte]
  · rename_i h1
    refine Ret.auto 0 ?_ rfl ?_ <;> simp only [go_sem, reduceCtorEq, reduceIte, Nat.reduceEqDiff, Nat.reduceLT, Nat.reduceLeDiff, Int.natCast_succ, Post, inkV, h1, reduceIte]
set_option maxHeartbeats 2000000 in
theorem inkSums_ok (w h : Nat) (hw : w ≤ 4000) (hh : h ≤ 4000) (p : List Bool) (hp : p.length = w * h) :
    FnOk Tryz.prog 48 [.agg [.int .i64 w, .int .i64 h, .ro (.bools p)]] (.ptr 0 0) [(0, .box 160 [.int .i64 w, .int .i64 h, .own 1]), (1, .row 3 (.ints .i64 (sumsAt (inkV p) w ((w + 1) * (h + 1)) ((w + 1) * (h + 1)))))] := by
  haveI c1 : CapsOk [.cell [.int .i64 w, .int .i64 h, .ro (.bools p)]] := ⟨rfl⟩
  have k1 := sumsOf_ok w h hw hh 81 [.cell [.int .i64 w, .int .i64 h, .ro (.bools p)]] (inkV p) (inkV_bd p) (fun i hi => FnFr.of_ok (inkSums1_ok w h p i (by omega)) rfl rfl)
  generalize sumsAt (inkV p) w ((w + 1) * (h + 1)) ((w + 1) * (h + 1)) = L at *
  refine FnOk.of_vc Tryz.func48 rfl (by decide) (by simp [Tryz.f48]) [.tmp 2] rfl fun w0 T0 _ => ?_
  simp only [Tryz.f48, argEnv]
  (repeat' first | with_reducible (first | refine Asm.intro fun _ => ?_ | refine Chk.g ?_ | refine AnyI.i64 fun _ _ => ?_ | refine LetW.g ?_ | refine LetW.h ?_ | refine Ite.t fun _ => ?_ | refine Ite.f fun _ => ?_ | refine Ite.decide (fun _ => ?_) fun _ => ?_ | refine Ite.bool (fun _ => ?_) fun _ => ?_ | refine And.intro ?_ ?_) | omega | simp (maxSteps := 1000000) only [go_sem, reduceCtorEq, Nat.reduceLT, Nat.reduceLeDiff, reduceIte, ↓reduceIte, Nat.reduceEqDiff, Nat.reduceAdd, Nat.reduceMul, Nat.reduceSub, Int.reduceLE, Int.reduceLT, Int.reduceNeg, Int.reduceToNat])
  refine VcCall.fr (FnFr.of_ok k1 rfl rfl) (by simp only [noIdR_ok, argOkL, argOk, allOk, argOkN, List.drop_zero, lk, reduceIte, reduceCtorEq, Nat.reduceEqDiff, Option.some.injEq, Item.row.injEq, Item.box.injEq, AV.ro.injEq, exists_eq_left, exists_and_left, exists_eq_left', exists_eq_right, and_assoc, and_true, true_and, List.cons.injEq, exists_eq', exists_eq]) 2 rfl (by simp [rowsB, Item.below, Fv.below, belowL]) ?_
  (repeat' first | with_reducible (first | refine Asm.intro fun _ => ?_ | refine Chk.g ?_ | refine AnyI.i64 fun _ _ => ?_ | refine LetW.g ?_ | refine LetW.h ?_ | refine Ite.t fun _ => ?_ | refine Ite.f fun _ => ?_ | refine Ite.decide (fun _ => ?_) fun _ => ?_ | refine Ite.bool (fun _ => ?_) fun _ => ?_ | refine And.intro ?_ ?_) | omega | simp (maxSteps := 1000000) only [go_sem, reduceCtorEq, Nat.reduceLT, Nat.reduceLeDiff, reduceIte, ↓reduceIte, Nat.reduceEqDiff, Nat.reduceAdd, Nat.reduceMul, Nat.reduceSub, Int.reduceLE, Int.reduceLT, Int.reduceNeg, Int.reduceToNat])
  refine Ret.auto 2 ?_ rfl ?_ <;> simp only [go_sem, reduceCtorEq, reduceIte, Nat.reduceEqDiff, Nat.reduceLT, Nat.reduceLeDiff, Int.natCast_succ, Post]
end Go.Fv.Q

namespace Go.Fv.Q
open Go Go.Proofs
set_option linter.unusedSimpArgs false
set_option linter.unusedVariables false
set_option maxRecDepth 8000
theorem refIn_ok (n lo hi : Int) : FnOk Tryz.prog 66 [.int .i64 n, .int .i64 lo, .int .i64 hi] (.bool (decide (lo ≤ n ∧ n ≤ hi))) [] := by
  refine FnOk.of_vc Tryz.func66 rfl (by decide) (by simp [Tryz.f66]) [.tmp 6] rfl fun w0 T0 _ => ?_
  simp only [Tryz.f66, argEnv]
  (repeat' first | with_reducible (first | refine Asm.intro fun _ => ?_ | refine Chk.g ?_ | refine AnyI.i64 fun _ _ => ?_ | refine LetW.g ?_ | refine LetW.h ?_ | refine Ite.t fun _ => ?_ | refine Ite.f fun _ => ?_ | refine Ite.decide (fun _ => ?_) fun _ => ?_ | refine Ite.bool (fun _ => ?_) fun _ => ?_ | refine And.intro ?_ ?_) | omega | simp (maxSteps := 1000000) only [go_sem, reduceCtorEq, Nat.reduceLT, Nat.reduceLeDiff, reduceIte, ↓reduceIte, Nat.reduceEqDiff, Nat.reduceAdd, Nat.reduceMul, Nat.reduceSub, Int.reduceLE, Int.reduceLT, Int.reduceNeg, Int.reduceToNat])
  refine Ret.auto 0 ?_ rfl ?_ <;> simp only [go_sem, reduceCtorEq, reduceIte, Nat.reduceEqDiff, Nat.reduceLT, Nat.reduceLeDiff, Int.natCast_succ, Post]
def atB (p : List Bool) (w h : Nat) (i j : Int) : Bool := decide (0 ≤ i ∧ i < w ∧ 0 ≤ j ∧ j < h) && p.getD (j * w + i).toNat false
theorem atB_in (p : List Bool) {w h i j : Nat} (hi : i < w) (hj : j < h) : atB p w h i j = p.getD (j * w + i) false := by
  unfold atB
  rw [decide_eq_true (show 0 ≤ (i : Int) ∧ (i : Int) < w ∧ 0 ≤ (j : Int) ∧ (j : Int) < h by omega), Bool.true_and, up_mul, up_add, Int.toNat_natCast]
theorem atB_out (p : List Bool) {w h : Nat} {i j : Int} (h' : ¬ (0 ≤ i ∧ i < w ∧ 0 ≤ j ∧ j < h)) : atB p w h i j = false := by
  unfold atB; rw [decide_eq_false h', Bool.false_and]
set_option maxHeartbeats 2000000 in
theorem refAt_ok (w h : Nat) (hw : w ≤ 4000) (hh : h ≤ 4000) (p : List Bool) (hp : p.length = w * h) (i j : Int) : FnOk Tryz.prog 43 [.agg [.int .i64 w, .int .i64 h, .ro (.bools p)], .int .i64 i, .int .i64 j] (.bool (atB p w h i j)) [] := by
  refine FnOk.of_vc Tryz.func43 rfl (by decide) (by simp [Tryz.f43]) [.tmp 6] rfl fun w0 T0 _ => ?_
  simp only [Tryz.f43, argEnv]
  by_cases hin : 0 ≤ i ∧ i < w ∧ 0 ≤ j ∧ j < h
  · obtain ⟨i, rfl⟩ : ∃ k : Nat, i = k := ⟨i.toNat, by omega⟩
    obtain ⟨j, rfl⟩ : ∃ k : Nat, j = k := ⟨j.toNat, by omega⟩
    rw [atB_in p (by omega) (by omega)]
    have b1 : j * w + w ≤ h * w := by rw [← Nat.succ_mul]; exact Nat.mul_le_mul_right _ (by omega)
    have b2 : h * w ≤ 4000 * 4000 := Nat.mul_le_mul hh hw
    have b3 : w * h = h * w := Nat.mul_comm _ _
    (repeat' first | with_reducible (first | refine Asm.intro fun _ => ?_ | refine Chk.g ?_ | refine AnyI.i64 fun _ _ => ?_ | refine LetW.g ?_ | refine LetW.h ?_ | refine Ite.t fun _ => ?_ | refine Ite.f fun _ => ?_ | refine Ite.decide (fun _ => ?_) fun _ => ?_ | refine Ite.bool (fun _ => ?_) fun _ => ?_ | refine And.intro ?_ ?_) | omega | simp (maxSteps := 1000000) only [go_sem, reduceCtorEq, Nat.reduceLT, Nat.reduceLeDiff, reduceIte, ↓reduceIte, Nat.reduceEqDiff, Nat.reduceAdd, Nat.reduceMul, Nat.reduceSub, Int.reduceLE, Int.reduceLT, Int.reduceNeg, Int.reduceToNat])
    refine VcCall.fr (FnFr.of_ok (refIn_ok i 0 (w - 1)) rfl rfl) (by simp only [noIdR_ok, argOkL, argOk, allOk, argOkN, List.drop_zero, lk, reduceIte, reduceCtorEq, Nat.reduceEqDiff, Option.some.injEq, Item.row.injEq, Item.box.injEq, AV.ro.injEq, exists_eq_left, exists_and_left, exists_eq_left', exists_eq_right, and_assoc, and_true, true_and, List.cons.injEq, exists_eq', exists_eq]) 0 rfl (by simp [rowsB]) ?_
    rw [decide_eq_true (show 0 ≤ (i : Int) ∧ (i : Int) ≤ w - 1 by omega)]
    (repeat' first | with_reducible (first | refine Asm.intro fun _ => ?_ | refine Chk.g ?_ | refine AnyI.i64 fun _ _ => ?_ | refine LetW.g ?_ | refine LetW.h ?_ | refine Ite.t fun _ => ?_ | refine Ite.f fun _ => ?_ | refine Ite.decide (fun _ => ?_) fun _ => ?_ | refine Ite.bool (fun _ => ?_) fun _ => ?_ | refine And.intro ?_ ?_) | omega | simp (maxSteps := 1000000) only [go_sem, reduceCtorEq, Nat.reduceLT, Nat.reduceLeDiff, reduceIte, ↓reduceIte, Nat.reduceEqDiff, Nat.reduceAdd, Nat.reduceMul, Nat.reduceSub, Int.reduceLE, Int.reduceLT, Int.reduceNeg, Int.reduceToNat])
    refine VcCall.fr (FnFr.of_ok (refIn_ok j 0 (h - 1)) rfl rfl) (by simp only [noIdR_ok, argOkL, argOk, allOk, argOkN, List.drop_zero, lk, reduceIte, reduceCtorEq, Nat.reduceEqDiff, Option.some.injEq, Item.row.injEq, Item.box.injEq, AV.ro.injEq, exists_eq_left, exists_and_left, exists_eq_left', exists_eq_right, and_assoc, and_true, true_and, List.cons.injEq, exists_eq', exists_eq]) 0 rfl (by simp [rowsB]) ?_
    rw [decide_eq_true (show 0 ≤ (j : Int) ∧ (j : Int) ≤ h - 1 by omega)]
    (repeat' first | with_reducible (first | refine Asm.intro fun _ => ?_ | refine Chk.g ?_ | refine AnyI.i64 fun _ _ => ?_ | refine LetW.g ?_ | refine LetW.h ?_ | refine Ite.t fun _ => ?_ | refine Ite.f fun _ => ?_ | refine Ite.decide (fun _ => ?_) fun _ => ?_ | refine Ite.bool (fun _ => ?_) fun _ => ?_ | refine And.intro ?_ ?_) | omega | simp (maxSteps := 1000000) only [go_sem, reduceCtorEq, Nat.reduceLT, Nat.reduceLeDiff, reduceIte, ↓reduceIte, Nat.reduceEqDiff, Nat.reduceAdd, Nat.reduceMul, Nat.reduceSub, Int.reduceLE, Int.reduceLT, Int.reduceNeg, Int.reduceToNat, up_mul, up_add, Int.toNat_natCast])
    refine Ret.auto 0 ?_ rfl ?_ <;> simp only [go_sem, reduceCtorEq, reduceIte, Nat.reduceEqDiff, Nat.reduceLT, Nat.reduceLeDiff, Int.natCast_succ, Post]
  · rw [atB_out p hin]
    (repeat' first | with_reducible (first | refine Asm.intro fun _ => ?_ | refine Chk.g ?_ | refine AnyI.i64 fun _ _ => ?_ | refine LetW.g ?_ | refine LetW.h ?_ | refine Ite.t fun _ => ?_ | refine Ite.f fun _ => ?_ | refine Ite.decide (fun _ => ?_) fun _ => ?_ | refine Ite.bool (fun _ => ?_) fun _ => ?_ | refine And.intro ?_ ?_) | omega | simp (maxSteps := 1000000) only [go_sem, reduceCtorEq, Nat.reduceLT, Nat.reduceLeDiff, reduceIte, ↓reduceIte, Nat.reduceEqDiff, Nat.reduceAdd, Nat.reduceMul, Nat.reduceSub, Int.reduceLE, Int.reduceLT, Int.reduceNeg, Int.reduceToNat])
    refine VcCall.fr (FnFr.of_ok (refIn_ok i 0 (w - 1)) rfl rfl) (by simp only [noIdR_ok, argOkL, argOk, allOk, argOkN, List.drop_zero, lk, reduceIte, reduceCtorEq, Nat.reduceEqDiff, Option.some.injEq, Item.row.injEq, Item.box.injEq, AV.ro.injEq, exists_eq_left, exists_and_left, exists_eq_left', exists_eq_right, and_assoc, and_true, true_and, List.cons.injEq, exists_eq', exists_eq]) 0 rfl (by simp [rowsB]) ?_
    (repeat' first | with_reducible (first | refine Asm.intro fun _ => ?_ | refine Chk.g ?_ | refine AnyI.i64 fun _ _ => ?_ | refine LetW.g ?_ | refine LetW.h ?_ | refine Ite.t fun _ => ?_ | refine Ite.f fun _ => ?_ | refine Ite.decide (fun _ => ?_) fun _ => ?_ | refine Ite.bool (fun _ => ?_) fun _ => ?_ | refine And.intro ?_ ?_) | omega | simp (maxSteps := 1000000) only [go_sem, reduceCtorEq, Nat.reduceLT, Nat.reduceLeDiff, reduceIte, ↓reduceIte, Nat.reduceEqDiff, Nat.reduceAdd, Nat.reduceMul, Nat.reduceSub, Int.reduceLE, Int.reduceLT, Int.reduceNeg, Int.reduceToNat])
    · refine VcCall.fr (FnFr.of_ok (refIn_ok j 0 (h - 1)) rfl rfl) (by simp only [noIdR_ok, argOkL, argOk, allOk, argOkN, List.drop_zero, lk, reduceIte, reduceCtorEq, Nat.reduceEqDiff, Option.some.injEq, Item.row.injEq, Item.box.injEq, AV.ro.injEq, exists_eq_left, exists_and_left, exists_eq_left', exists_eq_right, and_assoc, and_true, true_and, List.cons.injEq, exists_eq', exists_eq]) 0 rfl (by simp [rowsB]) ?_
      rw [decide_eq_false (show ¬ (0 ≤ (j : Int) ∧ (j : Int) ≤ h - 1) by omega)]
      (repeat' first | with_reducible (first | refine Asm.intro fun _ => ?_ | refine Chk.g ?_ | refine AnyI.i64 fun _ _ => ?_ | refine LetW.g ?_ | refine LetW.h ?_ | refine Ite.t fun _ => ?_ | refine Ite.f fun _ => ?_ | refine Ite.decide (fun _ => ?_) fun _ => ?_ | refine Ite.bool (fun _ => ?_) fun _ => ?_ | refine And.intro ?_ ?_) | omega | simp (maxSteps := 1000000) only [go_sem, reduceCtorEq, Nat.reduceLT, Nat.reduceLeDiff, reduceIte, ↓reduceIte, Nat.reduceEqDiff, Nat.reduceAdd, Nat.reduceMul, Nat.reduceSub, Int.reduceLE, Int.reduceLT, Int.reduceNeg, Int.reduceToNat])
      refine Ret.auto 0 ?_ rfl ?_ <;> simp only [go_sem, reduceCtorEq, reduceIte, Nat.reduceEqDiff, Nat.reduceLT, Nat.reduceLeDiff, Int.natCast_succ, Post]
    · refine Ret.auto 0 ?_ rfl ?_ <;> simp only [go_sem, reduceCtorEq, reduceIte, Nat.reduceEqDiff, Nat.reduceLT, Nat.reduceLeDiff, Int.natCast_succ, Post]
end Go.Fv.Q

namespace Go.Fv.Q
open Go Go.Proofs
set_option linter.unusedSimpArgs false
set_option linter.unusedVariables false
set_option maxRecDepth 8000

def b2i (b : Bool) : Int := if b = true then 1 else 0
/-- A pixel of a part of a page. -/
def cutAt (p : List Bool) (w X Y x y : Nat) : Bool := p.getD ((Y + y) * w + X + x) false
theorem rows_box (p : List Bool) (w X Y W : Nat) : ∀ m : Nat, (rowsOf W (cutAt p w X Y) (m * W)).map b2i = boxL (inkV p) w Y X W m
  | 0 => by simp [rowsOf, boxL]
  | m + 1 => by
    have aux : ∀ k, k ≤ W → (rowsOf W (cutAt p w X Y) (m * W + k)).map b2i = boxL (inkV p) w Y X W m ++ segL (inkV p) w (Y + m) X k := by
      intro k
      induction k with
      | zero => intro _; rw [Nat.add_zero, rows_box p w X Y W m]; simp [segL]
      | succ k ih =>
        intro hk
        rw [rowsOf_succ _ (by omega), List.map_append, ih (by omega), segL_succ, List.append_assoc]
        simp [b2i, cutAt, inkV, Nat.add_assoc]
    rw [Nat.succ_mul, aux W (Nat.le_refl _), boxL]
/-- The ink of a part of a page, counted. -/
def inkN (p : List Bool) (w X Y W H : Nat) : Nat := (boxL (inkV p) w Y X W H).sum.toNat
theorem inkN_eq (p : List Bool) (w X Y W H : Nat) : (boxL (inkV p) w Y X W H).sum = ((inkN p w X Y W H : Nat) : Int) := by
  have h := sum_bd (boxL_mem (inkV_bd p) w Y X W H)
  unfold inkN; omega
theorem inkN_rect (p : List Bool) (w X Y W H : Nat) : rect (inkV p) w X (X + W) Y (Y + H) = ((inkN p w X Y W H : Nat) : Int) := by
  rw [← sum_box, inkN_eq]
theorem inkN_rows (p : List Bool) (w X Y W H : Nat) : ((rowsOf W (cutAt p w X Y) (H * W)).map b2i).sum = ((inkN p w X Y W H : Nat) : Int) := by
  rw [rows_box, inkN_eq]
theorem sum01_bd {l : List Int} (h : ∀ x, x ∈ l → 0 ≤ x ∧ x ≤ 1) : 0 ≤ l.sum ∧ l.sum ≤ (l.length : Int) := by
  induction l with
  | nil => simp
  | cons x l ih =>
    have h1 := h x (.head _)
    have h2 := ih fun y hy => h y (.tail _ hy)
    simp only [List.sum_cons, List.length_cons]
    omega
theorem boxL_mem1 (p : List Bool) (w t l n : Nat) : ∀ m x, x ∈ boxL (inkV p) w t l n m → 0 ≤ x ∧ x ≤ 1
  | 0, x, h => by simp [boxL] at h
  | m + 1, x, h => by
    rcases List.mem_append.1 h with h | h
    · exact boxL_mem1 p w t l n m x h
    · obtain ⟨i, _, rfl⟩ := List.mem_map.1 h
      unfold inkV; split <;> omega
theorem segL_mem1 (p : List Bool) (w y l n : Nat) : ∀ x, x ∈ segL (inkV p) w y l n → 0 ≤ x ∧ x ≤ 1 := by
  intro x h
  obtain ⟨i, _, rfl⟩ := List.mem_map.1 h
  unfold inkV; split <;> omega
theorem inkN_le (p : List Bool) (w X Y W H : Nat) : inkN p w X Y W H ≤ H * W := by
  have h := sum01_bd (boxL_mem1 p w Y X W H)
  rw [inkN_eq, boxL_len] at h
  omega
theorem box_bd (p : List Bool) (w t l n m : Nat) : 0 ≤ (boxL (inkV p) w t l n m).sum ∧ (boxL (inkV p) w t l n m).sum ≤ ((m * n : Nat) : Int) := by
  have h := sum01_bd (boxL_mem1 p w t l n m)
  rwa [boxL_len] at h
theorem seg_bd (p : List Bool) (w y l n : Nat) : 0 ≤ (segL (inkV p) w y l n).sum ∧ (segL (inkV p) w y l n).sum ≤ (n : Int) := by
  have h := sum01_bd (segL_mem1 p w y l n)
  rwa [segL_len] at h
end Go.Fv.Q

/-! Boxes of a page that are cut where there is no ink: plain law. -/
namespace Go.Fv.Q
open Go
set_option linter.unusedSimpArgs false
set_option linter.unusedVariables false

/-- A box of a page. -/
structure Nb where
  (x y w h : Nat)
def Nb.av (b : Nb) : List AV := [.int .i64 b.x, .int .i64 b.y, .int .i64 b.w, .int .i64 b.h]
def Nb.zero : Nb := ⟨0, 0, 0, 0⟩
section
variable (p : List Bool) (w : Nat)
def inkB (b : Nb) : Nat := inkN p w b.x b.y b.w b.h
def colN (b : Nb) (i : Nat) : Nat := inkN p w i b.y 1 b.h
def rowN (b : Nb) (j : Nat) : Nat := inkN p w b.x j b.w 1
theorem inkN_split (X Y a c H : Nat) : inkN p w X Y (a + c) H = inkN p w X Y a H + inkN p w (X + a) Y c H := by
  have h1 := inkN_rect p w X Y (a + c) H
  have h2 := inkN_rect p w X Y a H
  have h3 := inkN_rect p w (X + a) Y c H
  rw [Nat.add_assoc] at h3
  unfold rect at *
  omega
theorem inkN_splitV (X Y W a c : Nat) : inkN p w X Y W (a + c) = inkN p w X Y W a + inkN p w X (Y + a) W c := by
  have h1 := inkN_rect p w X Y W (a + c)
  have h2 := inkN_rect p w X Y W a
  have h3 := inkN_rect p w X (Y + a) W c
  rw [Nat.add_assoc] at h3
  unfold rect at *
  omega
theorem inkN_w0 (X Y H : Nat) : inkN p w X Y 0 H = 0 := by have := inkN_le p w X Y 0 H; omega
theorem inkN_h0 (X Y W : Nat) : inkN p w X Y W 0 = 0 := by have := inkN_le p w X Y W 0; omega
/-- Part of a part. -/
theorem inkN_mono {X Y W H X' Y' W' H' : Nat} (h1 : X ≤ X') (h2 : X' + W' ≤ X + W) (h3 : Y ≤ Y') (h4 : Y' + H' ≤ Y + H) : inkN p w X' Y' W' H' ≤ inkN p w X Y W H := by
  have e1 : W = (X' - X) + (W' + (X + W - (X' + W'))) := by omega
  have e2 : H = (Y' - Y) + (H' + (Y + H - (Y' + H'))) := by omega
  rw [e1, inkN_split, inkN_split]
  rw [e2, inkN_splitV p w (X + (X' - X)) Y W', inkN_splitV p w (X + (X' - X)) (Y + (Y' - Y)) W']
  rw [show X + (X' - X) = X' by omega, show Y + (Y' - Y) = Y' by omega]
  omega
/-- Empty columns together are empty. -/
theorem cols_zero (X Y H : Nat) : ∀ n, (∀ i, i < n → inkN p w (X + i) Y 1 H = 0) → inkN p w X Y n H = 0
  | 0, _ => inkN_w0 p w X Y H
  | n + 1, h => by rw [inkN_split, cols_zero X Y H n fun i hi => h i (by omega), h n (by omega)]
theorem rows_zero (X Y W : Nat) : ∀ n, (∀ i, i < n → inkN p w X (Y + i) W 1 = 0) → inkN p w X Y W n = 0
  | 0, _ => inkN_h0 p w X Y W
  | n + 1, h => by rw [inkN_splitV, rows_zero X Y W n fun i hi => h i (by omega), h n (by omega)]

/-! ### As small as the ink permits -/
def trimL : Nat → Nb → Nb
  | 0, b => b
  | n + 1, b => if colN p w b b.x = 0 then trimL n ⟨b.x + 1, b.y, b.w - 1, b.h⟩ else b
def trimR : Nat → Nb → Nb
  | 0, b => b
  | n + 1, b => if colN p w b (b.x + b.w - 1) = 0 then trimR n ⟨b.x, b.y, b.w - 1, b.h⟩ else b
def trimT : Nat → Nb → Nb
  | 0, b => b
  | n + 1, b => if rowN p w b b.y = 0 then trimT n ⟨b.x, b.y + 1, b.w, b.h - 1⟩ else b
def trimB : Nat → Nb → Nb
  | 0, b => b
  | n + 1, b => if rowN p w b (b.y + b.h - 1) = 0 then trimB n ⟨b.x, b.y, b.w, b.h - 1⟩ else b
theorem trimL_step {b : Nb} (h0 : 0 < b.w) (h : colN p w b b.x = 0) : inkB p w ⟨b.x + 1, b.y, b.w - 1, b.h⟩ = inkB p w b := by
  obtain ⟨x, y, W, H⟩ := b
  simp only [inkB, colN] at *
  obtain ⟨W, rfl⟩ : ∃ n, W = 1 + n := ⟨W - 1, by omega⟩
  rw [inkN_split, h, Nat.add_sub_cancel_left, Nat.zero_add]
theorem trimR_step {b : Nb} (h0 : 0 < b.w) (h : colN p w b (b.x + b.w - 1) = 0) : inkB p w ⟨b.x, b.y, b.w - 1, b.h⟩ = inkB p w b := by
  obtain ⟨x, y, W, H⟩ := b
  simp only [inkB, colN] at *
  obtain ⟨W, rfl⟩ : ∃ n, W = n + 1 := ⟨W - 1, by omega⟩
  rw [show x + (W + 1) - 1 = x + W by omega] at h
  rw [inkN_split, h, Nat.add_sub_cancel, Nat.add_zero]
theorem trimT_step {b : Nb} (h0 : 0 < b.h) (h : rowN p w b b.y = 0) : inkB p w ⟨b.x, b.y + 1, b.w, b.h - 1⟩ = inkB p w b := by
  obtain ⟨x, y, W, H⟩ := b
  simp only [inkB, rowN] at *
  obtain ⟨H, rfl⟩ : ∃ n, H = 1 + n := ⟨H - 1, by omega⟩
  rw [inkN_splitV, h, Nat.add_sub_cancel_left, Nat.zero_add]
theorem trimB_step {b : Nb} (h0 : 0 < b.h) (h : rowN p w b (b.y + b.h - 1) = 0) : inkB p w ⟨b.x, b.y, b.w, b.h - 1⟩ = inkB p w b := by
  obtain ⟨x, y, W, H⟩ := b
  simp only [inkB, rowN] at *
  obtain ⟨H, rfl⟩ : ∃ n, H = n + 1 := ⟨H - 1, by omega⟩
  rw [show y + (H + 1) - 1 = y + H by omega] at h
  rw [inkN_splitV, h, Nat.add_sub_cancel, Nat.add_zero]
theorem ink_w {b : Nb} (h : 0 < inkB p w b) : 0 < b.w := by
  refine Nat.pos_of_ne_zero fun e => ?_
  unfold inkB at h; rw [e, inkN_w0] at h; omega
theorem ink_h {b : Nb} (h : 0 < inkB p w b) : 0 < b.h := by
  refine Nat.pos_of_ne_zero fun e => ?_
  unfold inkB at h; rw [e, inkN_h0] at h; omega
/-- A part of a box with the same ink. -/
def PartOf (a b : Nb) : Prop := b.x ≤ a.x ∧ a.x + a.w ≤ b.x + b.w ∧ b.y ≤ a.y ∧ a.y + a.h ≤ b.y + b.h
theorem PartOf.refl (b : Nb) : PartOf b b := by unfold PartOf; omega
theorem PartOf.trans {a b c : Nb} (h : PartOf a b) (h' : PartOf b c) : PartOf a c := by unfold PartOf at *; omega
def tightB (b : Nb) : Nb :=
  let a := trimL p w b.w b
  let c := trimR p w a.w a
  let d := trimT p w c.h c
  trimB p w d.h d
end

/-! ### Stretches -/
/-- The end of a stretch, 'n' steps looked at. -/
def runE (is : Nat → Bool) : Nat → Nat → Nat
  | 0, k => k
  | n + 1, k => if is k = true then runE is n (k + 1) else k
theorem runE_bd (is : Nat → Bool) : ∀ n k, k ≤ runE is n k ∧ runE is n k ≤ k + n
  | 0, k => by simp [runE]
  | n + 1, k => by
    have := runE_bd is n (k + 1)
    unfold runE; split <;> omega
theorem runE_in (is : Nat → Bool) : ∀ n k i, k ≤ i → i < runE is n k → is i = true
  | 0, k, i, h1, h2 => by simp [runE] at h2; omega
  | n + 1, k, i, h1, h2 => by
    unfold runE at h2
    split at h2
    · rename_i hk
      by_cases e : i = k
      · rw [e]; exact hk
      · exact runE_in is n (k + 1) i (by omega) h2
    · omega
/-- The stretches, 'n' steps to go from 'i' on. -/
def strs (is : Nat → Bool) : Nat → Nat → List (Nat × Nat)
  | 0, _ => []
  | n + 1, i => if is i = true then (i, runE is (n + 1) i - i) :: strs is (n - (runE is (n + 1) i - i)) (runE is (n + 1) i + 1) else strs is n (i + 1)
termination_by n => n
decreasing_by all_goals omega
theorem strs_mem (is : Nat → Bool) : ∀ (n i : Nat) (s : Nat × Nat), s ∈ strs is n i → i ≤ s.1 ∧ s.1 + s.2 ≤ i + n ∧ 0 < s.2 ∧ ∀ j, s.1 ≤ j → j < s.1 + s.2 → is j = true
  | 0, i, s, h => by unfold strs at h; simp at h
  | n + 1, i, s, h => by
    unfold strs at h
    have hb := runE_bd is (n + 1) i
    have hin := runE_in is (n + 1) i
    split at h
    · rename_i hi
      have hp : i + 1 ≤ runE is (n + 1) i := by
        have : runE is (n + 1) i = runE is n (i + 1) := by rw [runE, if_pos hi]
        rw [this]; exact (runE_bd is n (i + 1)).1
      rcases List.mem_cons.1 h with rfl | h
      · dsimp only
        refine ⟨Nat.le_refl _, by omega, by omega, fun j h1 h2 => hin j h1 (by omega)⟩
      · obtain ⟨a1, a2, a3, a4⟩ := strs_mem is _ _ s h
        exact ⟨by omega, by omega, a3, a4⟩
    · obtain ⟨a1, a2, a3, a4⟩ := strs_mem is n (i + 1) s h
      exact ⟨by omega, by omega, a3, a4⟩
termination_by n => n
decreasing_by all_goals omega
end Go.Fv.Q

/-! Cutting: the blocks do not overlap and have all ink. -/
namespace Go.Fv.Q
open Go
set_option linter.unusedSimpArgs false
set_option linter.unusedVariables false
section
variable (p : List Bool) (w : Nat)
def colE (b : Nb) (i : Nat) : Bool := decide (colN p w b i = 0)
def rowE (b : Nb) (j : Nat) : Bool := decide (rowN p w b j = 0)
/-- Whether a box is cut at columns. -/
def atCols (c r : Nat × Nat) (gx gy : Nat) : Prop := 0 < c.2 ∧ (r.2 = 0 ∨ r.2 * gx < c.2 * gy)
instance (c r : Nat × Nat) (gx gy : Nat) : Decidable (atCols c r gx gy) := inferInstanceAs (Decidable (_ ∧ _))
/-- Two boxes without a common pixel. -/
def Apart (a b : Nb) : Prop := a.x + a.w ≤ b.x ∨ b.x + b.w ≤ a.x ∨ a.y + a.h ≤ b.y ∨ b.y + b.h ≤ a.y
/-- What a list of blocks of a box is to be. -/
structure Cuts (b : Nb) (l : List Nb) : Prop where
  part : ∀ x, x ∈ l → PartOf x b
  ink : ∀ x, x ∈ l → 0 < inkB p w x
  sum : (l.map (inkB p w)).sum = inkB p w b
  apart : l.Pairwise Apart
theorem Cuts.of {b t : Nb} {l : List Nb} (h : Cuts p w t l) (hp : PartOf t b) (hi : inkB p w t = inkB p w b) : Cuts p w b l where
  part := fun x hx => (h.part x hx).trans hp
  ink := h.ink
  sum := h.sum.trans hi
  apart := h.apart
theorem Cuts.len {b : Nb} {l : List Nb} (h : Cuts p w b l) : l.length ≤ inkB p w b := by
  rw [← h.sum]
  have := h.ink
  clear h
  induction l with
  | nil => simp
  | cons x l ih =>
    have h1 := this x (.head _)
    have h2 := ih fun y hy => this y (.tail _ hy)
    simp only [List.length_cons, List.map_cons, List.sum_cons]
    omega
end
end Go.Fv.Q

/-! The reference's ways to cut a box: plain law. -/
namespace Go.Fv.Q
open Go
set_option linter.unusedSimpArgs false
set_option linter.unusedVariables false
section
variable (p : List Bool) (w : Nat)
theorem trimL_eq : ∀ (f n : Nat) (b : Nb), f < n → (∀ i, i < f → colN p w b (b.x + i) = 0) → colN p w b (b.x + f) ≠ 0 → trimL p w n b = ⟨b.x + f, b.y, b.w - f, b.h⟩
  | 0, n + 1, b, _, _, h => by rw [Nat.add_zero] at h ⊢; unfold trimL; rw [if_neg h]; rfl
  | f + 1, n + 1, b, hn, hz, h => by
    have hz0 := hz 0 (by omega)
    rw [Nat.add_zero] at hz0
    unfold trimL
    rw [if_pos hz0]
    rw [trimL_eq f n ⟨b.x + 1, b.y, b.w - 1, b.h⟩ (by omega) (fun i hi => by
      have := hz (i + 1) (by omega)
      rw [show b.x + (i + 1) = b.x + 1 + i by omega] at this
      exact this) (by rw [show b.x + (f + 1) = b.x + 1 + f by omega] at h; exact h)]
    rw [show b.x + 1 + f = b.x + (f + 1) by omega, show b.w - 1 - f = b.w - (f + 1) by omega]
theorem trimR_eq (l : Nat) : ∀ (d n : Nat) (b : Nb), d < n → b.w = l + 1 + d → (∀ i, l < i → i < b.w → colN p w b (b.x + i) = 0) → colN p w b (b.x + l) ≠ 0 → trimR p w n b = ⟨b.x, b.y, l + 1, b.h⟩
  | 0, n + 1, b, _, hw, _, h => by
    unfold trimR
    rw [if_neg (by rw [show b.x + b.w - 1 = b.x + l by omega]; exact h)]
    obtain ⟨x, y, W, H⟩ := b
    dsimp only at hw
    rw [hw]
  | d + 1, n + 1, b, hn, hw, hz, h => by
    unfold trimR
    rw [if_pos (by have := hz (b.w - 1) (by omega) (by omega); rw [show b.x + b.w - 1 = b.x + (b.w - 1) by omega]; exact this)]
    rw [trimR_eq l d n ⟨b.x, b.y, b.w - 1, b.h⟩ (by omega) (by dsimp only; omega) (fun i h1 h2 => hz i h1 (by dsimp only at h2; omega)) h]
theorem trimT_eq : ∀ (f n : Nat) (b : Nb), f < n → (∀ i, i < f → rowN p w b (b.y + i) = 0) → rowN p w b (b.y + f) ≠ 0 → trimT p w n b = ⟨b.x, b.y + f, b.w, b.h - f⟩
  | 0, n + 1, b, _, _, h => by rw [Nat.add_zero] at h ⊢; unfold trimT; rw [if_neg h]; rfl
  | f + 1, n + 1, b, hn, hz, h => by
    have hz0 := hz 0 (by omega)
    rw [Nat.add_zero] at hz0
    unfold trimT
    rw [if_pos hz0]
    rw [trimT_eq f n ⟨b.x, b.y + 1, b.w, b.h - 1⟩ (by omega) (fun i hi => by
      have := hz (i + 1) (by omega)
      rw [show b.y + (i + 1) = b.y + 1 + i by omega] at this
      exact this) (by rw [show b.y + (f + 1) = b.y + 1 + f by omega] at h; exact h)]
    rw [show b.y + 1 + f = b.y + (f + 1) by omega, show b.h - 1 - f = b.h - (f + 1) by omega]
theorem trimB_eq (l : Nat) : ∀ (d n : Nat) (b : Nb), d < n → b.h = l + 1 + d → (∀ i, l < i → i < b.h → rowN p w b (b.y + i) = 0) → rowN p w b (b.y + l) ≠ 0 → trimB p w n b = ⟨b.x, b.y, b.w, l + 1⟩
  | 0, n + 1, b, _, hw, _, h => by
    unfold trimB
    rw [if_neg (by rw [show b.y + b.h - 1 = b.y + l by omega]; exact h)]
    obtain ⟨x, y, W, H⟩ := b
    dsimp only at hw
    rw [hw]
  | d + 1, n + 1, b, hn, hw, hz, h => by
    unfold trimB
    rw [if_pos (by have := hz (b.h - 1) (by omega) (by omega); rw [show b.y + b.h - 1 = b.y + (b.h - 1) by omega]; exact this)]
    rw [trimB_eq l d n ⟨b.x, b.y, b.w, b.h - 1⟩ (by omega) (by dsimp only; omega) (fun i h1 h2 => hz i h1 (by dsimp only at h2; omega)) h]
/-- The first and the last place of 'n' places that is not 0. -/
structure EndsAt (g : Nat → Nat) (n f l : Nat) : Prop where
  fl : f ≤ l
  ln : l < n
  lo : ∀ i, i < f → g i = 0
  hi : ∀ i, l < i → i < n → g i = 0
  atf : g f ≠ 0
  atl : g l ≠ 0
theorem endsAt_ex (g : Nat → Nat) : ∀ n, (∃ i, i < n ∧ g i ≠ 0) → ∃ f l, EndsAt g n f l
  | 0, ⟨i, h, _⟩ => absurd h (by omega)
  | n + 1, h => by
    by_cases hr : ∃ i, i < n ∧ g i ≠ 0
    · obtain ⟨f, l, e⟩ := endsAt_ex g n hr
      by_cases h0 : g n = 0
      · exact ⟨f, l, e.fl, by have := e.ln; omega, e.lo, fun i h1 h2 => if hi : i < n then e.hi i h1 hi else by rw [show i = n by omega]; exact h0, e.atf, e.atl⟩
      · exact ⟨f, n, by have := e.fl; have := e.ln; omega, by omega, e.lo, fun i h1 h2 => absurd h1 (by omega), e.atf, h0⟩
    · obtain ⟨i, h1, h2⟩ := h
      have hin : i = n := by
        refine Classical.byContradiction fun hc => hr ⟨i, by omega, h2⟩
      subst hin
      exact ⟨i, i, Nat.le_refl _, by omega, fun j hj => Classical.byContradiction fun hc => hr ⟨j, hj, hc⟩, fun j h3 h4 => absurd h3 (by omega), h2, h2⟩
theorem ink_col {b : Nb} (h : inkB p w b ≠ 0) : ∃ i, i < b.w ∧ colN p w b (b.x + i) ≠ 0 :=
  Classical.byContradiction fun hc => h (cols_zero p w b.x b.y b.h b.w fun i hi => Classical.byContradiction fun h2 => hc ⟨i, hi, h2⟩)
theorem ink_row {b : Nb} (h : inkB p w b ≠ 0) : ∃ i, i < b.h ∧ rowN p w b (b.y + i) ≠ 0 :=
  Classical.byContradiction fun hc => h (rows_zero p w b.x b.y b.w b.h fun i hi => Classical.byContradiction fun h2 => hc ⟨i, hi, h2⟩)
/-- Rows hold the same ink where empty columns are left out. -/
theorem row_narrow {b : Nb} {f l : Nat} (he : EndsAt (fun i => colN p w b (b.x + i)) b.w f l) {j : Nat} (h1 : b.y ≤ j) (h2 : j < b.y + b.h) : rowN p w ⟨b.x + f, b.y, l - f + 1, b.h⟩ j = rowN p w b j := by
  obtain ⟨x, y, W, H⟩ := b
  have hfl := he.fl
  have hln := he.ln
  dsimp only at *
  have e : W = f + ((l - f + 1) + (W - (l + 1))) := by omega
  unfold rowN
  dsimp only
  have z1 : inkN p w x y f H = 0 := cols_zero p w x y H f fun i hi => he.lo i hi
  have z2 : inkN p w (x + (l + 1)) y (W - (l + 1)) H = 0 := cols_zero p w _ y H _ fun i hi => by
    have := he.hi (l + 1 + i) (by omega) (by omega)
    rw [← Nat.add_assoc] at this
    exact this
  have m1 : inkN p w x j f 1 ≤ inkN p w x y f H := inkN_mono p w (Nat.le_refl _) (Nat.le_refl _) h1 (by omega)
  have m2 : inkN p w (x + (l + 1)) j (W - (l + 1)) 1 ≤ inkN p w (x + (l + 1)) y (W - (l + 1)) H := inkN_mono p w (Nat.le_refl _) (Nat.le_refl _) h1 (by omega)
  rw [show inkN p w x j W 1 = inkN p w x j (f + ((l - f + 1) + (W - (l + 1)))) 1 from congrArg (fun z => inkN p w x j z 1) e]
  rw [inkN_split p w x j f, inkN_split p w (x + f) j (l - f + 1), show x + f + (l - f + 1) = x + (l + 1) by omega]
  omega
theorem tightB_eq {b : Nb} {f l f' l' : Nat} (hc : EndsAt (fun i => colN p w b (b.x + i)) b.w f l) (hr : EndsAt (fun i => rowN p w b (b.y + i)) b.h f' l') :
    tightB p w b = ⟨b.x + f, b.y + f', l - f + 1, l' - f' + 1⟩ := by
  have q1 := hc.fl
  have q2 := hc.ln
  have q3 := hr.fl
  have q4 := hr.ln
  have e1 := trimL_eq p w f b.w b (by omega) hc.lo hc.atf
  have e2 := trimR_eq p w (l - f) (b.w - f - (l - f + 1)) (b.w - f) ⟨b.x + f, b.y, b.w - f, b.h⟩ (by omega) (by dsimp only; omega) (fun i h1 h2 => by
    have := hc.hi (f + i) (by omega) (by dsimp only at h2; omega)
    rw [← Nat.add_assoc] at this
    exact this) (by
    have := hc.atl
    show colN p w b (b.x + f + (l - f)) ≠ 0
    rw [show b.x + f + (l - f) = b.x + l by omega]
    exact this)
  have hn := fun j h1 h2 => row_narrow p w hc (j := j) h1 h2
  have e3 := trimT_eq p w f' b.h ⟨b.x + f, b.y, l - f + 1, b.h⟩ (by omega) (fun i hi => by
    rw [hn _ (by dsimp only; omega) (by dsimp only; omega)]; exact hr.lo i hi) (by
    rw [hn _ (by dsimp only; omega) (by dsimp only; omega)]; exact hr.atf)
  have e4 := trimB_eq p w (l' - f') (b.h - f' - (l' - f' + 1)) (b.h - f') ⟨b.x + f, b.y + f', l - f + 1, b.h - f'⟩ (by omega) (by dsimp only; omega) (fun i h1 h2 => by
    have := hr.hi (f' + i) (by omega) (by dsimp only at h2; omega)
    rw [← Nat.add_assoc] at this
    have q5 := hn (b.y + f' + i) (by omega) (by dsimp only at h2; omega)
    rw [this] at q5
    exact q5) (by
    have := hr.atl
    have q5 := hn (b.y + l') (by omega) (by omega)
    show rowN p w ⟨b.x + f, b.y, l - f + 1, b.h⟩ (b.y + f' + (l' - f')) ≠ 0
    rw [show b.y + f' + (l' - f') = b.y + l' by omega, q5]
    exact this)
  unfold tightB
  dsimp only
  rw [e1]
  dsimp only
  rw [e2]
  dsimp only
  rw [e3]
  dsimp only
  rw [e4]
end
theorem runE_stop (is : Nat → Bool) : ∀ n k, runE is n k < k + n → is (runE is n k) = false
  | 0, k, h => by simp [runE] at h
  | n + 1, k, h => by
    unfold runE at h ⊢
    split
    · rename_i hk
      rw [if_pos hk] at h
      exact runE_stop is n (k + 1) (by omega)
    · rename_i hk
      simpa using hk
theorem runE_shift (is : Nat → Bool) (x : Nat) : ∀ n k, runE is n (x + k) = x + runE (fun j => is (x + j)) n k
  | 0, k => rfl
  | n + 1, k => by
    unfold runE
    by_cases h : is (x + k) = true
    · rw [if_pos h, if_pos h, Nat.add_assoc, runE_shift is x n (k + 1)]
    · rw [if_neg h, if_neg h]
theorem strs_shift (is : Nat → Bool) (x : Nat) : ∀ n i, strs is n (x + i) = (strs (fun j => is (x + j)) n i).map fun s => (x + s.1, s.2)
  | 0, i => by unfold strs; rfl
  | n + 1, i => by
    unfold strs
    by_cases h : is (x + i) = true
    · rw [if_pos h, if_pos h, List.map_cons, runE_shift]
      have hb := runE_bd (fun j => is (x + j)) (n + 1) i
      rw [show x + runE (fun j => is (x + j)) (n + 1) i - (x + i) = runE (fun j => is (x + j)) (n + 1) i - i by omega]
      rw [show x + runE (fun j => is (x + j)) (n + 1) i + 1 = x + (runE (fun j => is (x + j)) (n + 1) i + 1) by omega, strs_shift is x _ _]
    · rw [if_neg h, if_neg h, Nat.add_assoc, strs_shift is x n (i + 1)]
termination_by n => n
decreasing_by all_goals omega
end Go.Fv.Q

/-! The ink of a page that is cut out. -/
namespace Go.Fv.Q
open Go
set_option linter.unusedSimpArgs false
set_option linter.unusedVariables false

theorem boxL_cut (p : List Bool) (w X Y W H x y a : Nat) (hx : x + a ≤ W) : ∀ m, y + m ≤ H → boxL (inkV (rowsOf W (cutAt p w X Y) (H * W))) W y x a m = boxL (inkV p) w (Y + y) (X + x) a m
  | 0, _ => rfl
  | m + 1, h => by
    unfold boxL
    rw [boxL_cut p w X Y W H x y a hx m (by omega)]
    congr 1
    unfold segL
    refine List.map_congr_left fun i hi => ?_
    have hi' := List.mem_range.1 hi
    unfold inkV
    rw [rowsOf_get (by omega) (by omega)]
    unfold cutAt
    rw [show (Y + (y + m)) * w + X + (x + i) = (Y + y + m) * w + (X + x + i) by rw [Nat.add_assoc Y y m]; omega]
theorem ink_cut (p : List Bool) (w X Y W H : Nat) {x y a c : Nat} (hx : x + a ≤ W) (hy : y + c ≤ H) : inkN (rowsOf W (cutAt p w X Y) (H * W)) W x y a c = inkN p w (X + x) (Y + y) a c := by
  unfold inkN
  rw [boxL_cut p w X Y W H x y a hx c hy]
theorem cut_col (p : List Bool) (w : Nat) (b : Nb) {i : Nat} (hi : i < b.w) : inkN (rowsOf b.w (cutAt p w b.x b.y) (b.h * b.w)) b.w i 0 1 b.h = colN p w b (b.x + i) := by
  rw [ink_cut p w b.x b.y b.w b.h (by omega) (by omega)]; rfl
theorem cut_row (p : List Bool) (w : Nat) (b : Nb) {i : Nat} (hi : i < b.h) : inkN (rowsOf b.w (cutAt p w b.x b.y) (b.h * b.w)) b.w 0 i b.w 1 = rowN p w b (b.y + i) := by
  rw [ink_cut p w b.x b.y b.w b.h (by omega) (by omega)]; rfl
theorem range_getD (g : Nat → Int) {n i : Nat} (h : i < n) : ((List.range n).map g).getD i 0 = g i := by
  rw [List.getD_eq_getElem?_getD, List.getElem?_map, List.getElem?_range h]; rfl
end Go.Fv.Q

/-! Columns and rows of a box, and the box as small as its ink permits: the walk. -/
namespace Go.Fv.Q
open Go Go.Proofs
set_option linter.unusedSimpArgs false
set_option linter.unusedVariables false
set_option linter.unnecessarySimpa false
set_option maxRecDepth 8000

/-- The sums of a page; a cutter. -/
def sumL (p : List Bool) (w h : Nat) : List AV := [.int .i64 w, .int .i64 h, .ro (.ints .i64 (sumsAt (inkV p) w ((w + 1) * (h + 1)) ((w + 1) * (h + 1))))]
def nbs (l : List Nb) : RowV := .objs 4 (l.map Nb.av)
instance : FNoId Nb.av := ⟨fun _ => rfl⟩
def ctr (p : List Bool) (w h gx gy : Nat) (o : AV) : List AV := [.int .i64 w, .int .i64 h, .ro (.bools p), .cell (sumL p w h), .int .i64 gx, .int .i64 gy, o]
/-- A box that lies in a page. -/
def InP (b : Nb) (w h : Nat) : Prop := b.x + b.w ≤ w ∧ b.y + b.h ≤ h
theorem InP.of {a b : Nb} {w h : Nat} (h1 : InP b w h) (h2 : PartOf a b) : InP a w h := by unfold InP PartOf at *; omega
theorem sumsIn_ok (p : List Bool) (w h : Nat) (hw : w ≤ 4000) (hh : h ≤ 4000) (X Y W H : Nat) (hX : X + W ≤ w) (hY : Y + H ≤ h) :
    FnOk Tryz.prog 96 [.cell (sumL p w h), .agg [.int .i64 X, .int .i64 Y, .int .i64 W, .int .i64 H]] (.int .i64 (inkN p w X Y W H)) [] := by
  have k := in_ok w h hw hh (inkV p) (inkV_bd p) X Y W H hX hY
  rw [inkN_rect] at k
  exact k
set_option maxHeartbeats 1000000 in
theorem column_ok (p : List Bool) (w h : Nat) (hw : w ≤ 4000) (hh : h ≤ 4000) (gx gy : Nat) (o : List Nb) (b : Nb) (i : Nat) (hi : i < w) (hb : InP b w h) :
    FnOk Tryz.prog 65 [.cell (ctr p w h gx gy (.ro (nbs o))), .agg b.av, .int .i64 i] (.bool (decide (0 < (colN p w b i : Int)))) [] := by
  have k : FnOk Tryz.prog 96 [.cell (sumL p w h), .agg [.int .i64 i, .int .i64 b.y, .int .i64 1, .int .i64 b.h]] (.int .i64 (colN p w b i)) [] := sumsIn_ok p w h hw hh i b.y 1 b.h (by omega) hb.2
  generalize colN p w b i = n at *
  obtain ⟨x, y, W, H⟩ := b
  unfold InP at hb
  dsimp only at *
  unfold ctr Nb.av
  generalize sumL p w h = sc at *
  refine FnOk.of_vc Tryz.func65 rfl (by decide) (by simp [Tryz.f65]) [.tmp 6] rfl fun w0 T0 _ => ?_
  simp only [Tryz.f65, argEnv]
  (repeat' first | with_reducible (first | refine Asm.intro fun _ => ?_ | refine Chk.g ?_ | refine AnyI.i64 fun _ _ => ?_ | refine LetW.g ?_ | refine LetW.h ?_ | refine Ite.t fun _ => ?_ | refine Ite.f fun _ => ?_ | refine Ite.decide (fun _ => ?_) fun _ => ?_ | refine Ite.bool (fun _ => ?_) fun _ => ?_ | refine And.intro ?_ ?_) | omega | simp (maxSteps := 1000000) only [go_sem, reduceCtorEq, Nat.reduceLT, Nat.reduceLeDiff, reduceIte, ↓reduceIte, Nat.reduceEqDiff, Nat.reduceAdd, Nat.reduceMul, Nat.reduceSub, Int.reduceLE, Int.reduceLT, Int.reduceNeg, Int.reduceToNat])
  refine VcDraw.lex [] [] (by kernel_rfl) (by kernel_rfl) ?_
  (repeat' first | with_reducible (first | refine Asm.intro fun _ => ?_ | refine Chk.g ?_ | refine AnyI.i64 fun _ _ => ?_ | refine LetW.g ?_ | refine LetW.h ?_ | refine Ite.t fun _ => ?_ | refine Ite.f fun _ => ?_ | refine Ite.decide (fun _ => ?_) fun _ => ?_ | refine Ite.bool (fun _ => ?_) fun _ => ?_ | refine And.intro ?_ ?_) | omega | simp (maxSteps := 1000000) only [go_sem, reduceCtorEq, Nat.reduceLT, Nat.reduceLeDiff, reduceIte, ↓reduceIte, Nat.reduceEqDiff, Nat.reduceAdd, Nat.reduceMul, Nat.reduceSub, Int.reduceLE, Int.reduceLT, Int.reduceNeg, Int.reduceToNat])
  refine QV.intro (.int .i64 n) ?_ ?_
  · (repeat' first | with_reducible (first | refine Asm.intro fun _ => ?_ | refine Chk.g ?_ | refine AnyI.i64 fun _ _ => ?_ | refine LetW.g ?_ | refine LetW.h ?_ | refine Ite.t fun _ => ?_ | refine Ite.f fun _ => ?_ | refine Ite.decide (fun _ => ?_) fun _ => ?_ | refine Ite.bool (fun _ => ?_) fun _ => ?_ | refine And.intro ?_ ?_) | omega | simp (maxSteps := 1000000) only [go_sem, reduceCtorEq, Nat.reduceLT, Nat.reduceLeDiff, reduceIte, ↓reduceIte, Nat.reduceEqDiff, Nat.reduceAdd, Nat.reduceMul, Nat.reduceSub, Int.reduceLE, Int.reduceLT, Int.reduceNeg, Int.reduceToNat])
    refine VcCall.fr (FnFr.of_ok (k) rfl rfl) (by simp only [noIdR_ok, argOkL, argOk, allOk, argOkN, List.drop_zero, lk, reduceIte, reduceCtorEq, Nat.reduceEqDiff, Option.some.injEq, Item.row.injEq, Item.box.injEq, AV.ro.injEq, exists_eq_left, exists_and_left, exists_eq_left', exists_eq_right, and_assoc, and_true, true_and, List.cons.injEq, exists_eq', exists_eq]) 0 rfl (by simp [rowsB]) ?_
    (repeat' first | with_reducible (first | refine Asm.intro fun _ => ?_ | refine Chk.g ?_ | refine AnyI.i64 fun _ _ => ?_ | refine LetW.g ?_ | refine LetW.h ?_ | refine Ite.t fun _ => ?_ | refine Ite.f fun _ => ?_ | refine Ite.decide (fun _ => ?_) fun _ => ?_ | refine Ite.bool (fun _ => ?_) fun _ => ?_ | refine And.intro ?_ ?_) | omega | simp (maxSteps := 1000000) only [go_sem, reduceCtorEq, Nat.reduceLT, Nat.reduceLeDiff, reduceIte, ↓reduceIte, Nat.reduceEqDiff, Nat.reduceAdd, Nat.reduceMul, Nat.reduceSub, Int.reduceLE, Int.reduceLT, Int.reduceNeg, Int.reduceToNat])
  (repeat' first | with_reducible (first | refine Asm.intro fun _ => ?_ | refine Chk.g ?_ | refine AnyI.i64 fun _ _ => ?_ | refine LetW.g ?_ | refine LetW.h ?_ | refine Ite.t fun _ => ?_ | refine Ite.f fun _ => ?_ | refine Ite.decide (fun _ => ?_) fun _ => ?_ | refine Ite.bool (fun _ => ?_) fun _ => ?_ | refine And.intro ?_ ?_) | omega | simp (maxSteps := 1000000) only [go_sem, reduceCtorEq, Nat.reduceLT, Nat.reduceLeDiff, reduceIte, ↓reduceIte, Nat.reduceEqDiff, Nat.reduceAdd, Nat.reduceMul, Nat.reduceSub, Int.reduceLE, Int.reduceLT, Int.reduceNeg, Int.reduceToNat])
  refine Ret.auto 0 ?_ rfl ?_ <;> simp only [go_sem, reduceCtorEq, reduceIte, Nat.reduceEqDiff, Nat.reduceLT, Nat.reduceLeDiff, Int.natCast_succ, Post]
set_option maxHeartbeats 1000000 in
theorem row_ok (p : List Bool) (w h : Nat) (hw : w ≤ 4000) (hh : h ≤ 4000) (gx gy : Nat) (o : List Nb) (b : Nb) (i : Nat) (hi : i < h) (hb : InP b w h) :
    FnOk Tryz.prog 62 [.cell (ctr p w h gx gy (.ro (nbs o))), .agg b.av, .int .i64 i] (.bool (decide (0 < (rowN p w b i : Int)))) [] := by
  have k : FnOk Tryz.prog 96 [.cell (sumL p w h), .agg [.int .i64 b.x, .int .i64 i, .int .i64 b.w, .int .i64 1]] (.int .i64 (rowN p w b i)) [] := sumsIn_ok p w h hw hh b.x i b.w 1 hb.1 (by omega)
  generalize rowN p w b i = n at *
  obtain ⟨x, y, W, H⟩ := b
  unfold InP at hb
  dsimp only at *
  unfold ctr Nb.av
  generalize sumL p w h = sc at *
  refine FnOk.of_vc Tryz.func62 rfl (by decide) (by simp [Tryz.f62]) [.tmp 6] rfl fun w0 T0 _ => ?_
  simp only [Tryz.f62, argEnv]
  (repeat' first | with_reducible (first | refine Asm.intro fun _ => ?_ | refine Chk.g ?_ | refine AnyI.i64 fun _ _ => ?_ | refine LetW.g ?_ | refine LetW.h ?_ | refine Ite.t fun _ => ?_ | refine Ite.f fun _ => ?_ | refine Ite.decide (fun _ => ?_) fun _ => ?_ | refine Ite.bool (fun _ => ?_) fun _ => ?_ | refine And.intro ?_ ?_) | omega | simp (maxSteps := 1000000) only [go_sem, reduceCtorEq, Nat.reduceLT, Nat.reduceLeDiff, reduceIte, ↓reduceIte, Nat.reduceEqDiff, Nat.reduceAdd, Nat.reduceMul, Nat.reduceSub, Int.reduceLE, Int.reduceLT, Int.reduceNeg, Int.reduceToNat])
  refine VcDraw.lex [] [] (by kernel_rfl) (by kernel_rfl) ?_
  (repeat' first | with_reducible (first | refine Asm.intro fun _ => ?_ | refine Chk.g ?_ | refine AnyI.i64 fun _ _ => ?_ | refine LetW.g ?_ | refine LetW.h ?_ | refine Ite.t fun _ => ?_ | refine Ite.f fun _ => ?_ | refine Ite.decide (fun _ => ?_) fun _ => ?_ | refine Ite.bool (fun _ => ?_) fun _ => ?_ | refine And.intro ?_ ?_) | omega | simp (maxSteps := 1000000) only [go_sem, reduceCtorEq, Nat.reduceLT, Nat.reduceLeDiff, reduceIte, ↓reduceIte, Nat.reduceEqDiff, Nat.reduceAdd, Nat.reduceMul, Nat.reduceSub, Int.reduceLE, Int.reduceLT, Int.reduceNeg, Int.reduceToNat])
  refine QV.intro (.int .i64 n) ?_ ?_
  · (repeat' first | with_reducible (first | refine Asm.intro fun _ => ?_ | refine Chk.g ?_ | refine AnyI.i64 fun _ _ => ?_ | refine LetW.g ?_ | refine LetW.h ?_ | refine Ite.t fun _ => ?_ | refine Ite.f fun _ => ?_ | refine Ite.decide (fun _ => ?_) fun _ => ?_ | refine Ite.bool (fun _ => ?_) fun _ => ?_ | refine And.intro ?_ ?_) | omega | simp (maxSteps := 1000000) only [go_sem, reduceCtorEq, Nat.reduceLT, Nat.reduceLeDiff, reduceIte, ↓reduceIte, Nat.reduceEqDiff, Nat.reduceAdd, Nat.reduceMul, Nat.reduceSub, Int.reduceLE, Int.reduceLT, Int.reduceNeg, Int.reduceToNat])
    refine VcCall.fr (FnFr.of_ok (k) rfl rfl) (by simp only [noIdR_ok, argOkL, argOk, allOk, argOkN, List.drop_zero, lk, reduceIte, reduceCtorEq, Nat.reduceEqDiff, Option.some.injEq, Item.row.injEq, Item.box.injEq, AV.ro.injEq, exists_eq_left, exists_and_left, exists_eq_left', exists_eq_right, and_assoc, and_true, true_and, List.cons.injEq, exists_eq', exists_eq]) 0 rfl (by simp [rowsB]) ?_
    (repeat' first | with_reducible (first | refine Asm.intro fun _ => ?_ | refine Chk.g ?_ | refine AnyI.i64 fun _ _ => ?_ | refine LetW.g ?_ | refine LetW.h ?_ | refine Ite.t fun _ => ?_ | refine Ite.f fun _ => ?_ | refine Ite.decide (fun _ => ?_) fun _ => ?_ | refine Ite.bool (fun _ => ?_) fun _ => ?_ | refine And.intro ?_ ?_) | omega | simp (maxSteps := 1000000) only [go_sem, reduceCtorEq, Nat.reduceLT, Nat.reduceLeDiff, reduceIte, ↓reduceIte, Nat.reduceEqDiff, Nat.reduceAdd, Nat.reduceMul, Nat.reduceSub, Int.reduceLE, Int.reduceLT, Int.reduceNeg, Int.reduceToNat])
  (repeat' first | with_reducible (first | refine Asm.intro fun _ => ?_ | refine Chk.g ?_ | refine AnyI.i64 fun _ _ => ?_ | refine LetW.g ?_ | refine LetW.h ?_ | refine Ite.t fun _ => ?_ | refine Ite.f fun _ => ?_ | refine Ite.decide (fun _ => ?_) fun _ => ?_ | refine Ite.bool (fun _ => ?_) fun _ => ?_ | refine And.intro ?_ ?_) | omega | simp (maxSteps := 1000000) only [go_sem, reduceCtorEq, Nat.reduceLT, Nat.reduceLeDiff, reduceIte, ↓reduceIte, Nat.reduceEqDiff, Nat.reduceAdd, Nat.reduceMul, Nat.reduceSub, Int.reduceLE, Int.reduceLT, Int.reduceNeg, Int.reduceToNat])
  refine Ret.auto 0 ?_ rfl ?_ <;> simp only [go_sem, reduceCtorEq, reduceIte, Nat.reduceEqDiff, Nat.reduceLT, Nat.reduceLeDiff, Int.natCast_succ, Post]
end Go.Fv.Q

/-! Stretches: the walk. -/
namespace Go.Fv.Q
open Go Go.Proofs
set_option linter.unusedSimpArgs false
set_option linter.unusedVariables false
set_option linter.unnecessarySimpa false
set_option maxRecDepth 8000

def stAv (s : Nat × Nat) : List AV := [.int .i64 s.1, .int .i64 s.2]
instance : FNoId stAv := ⟨fun _ => rfl⟩
def stR (l : List (Nat × Nat)) : RowV := .objs 2 (l.map stAv)
theorem st_elem (l : List (Nat × Nat)) {i : Nat} (h : i < l.length) : (l.map stAv).getD i [] = [.int .i64 (l.getD i (0, 0)).1, .int .i64 (l.getD i (0, 0)).2] := by
  rw [getD_lt (by simpa using h), getD_lt h, List.getElem_map]; rfl
theorem strs_len (is : Nat → Bool) : ∀ n i, (strs is n i).length ≤ n
  | 0, i => by unfold strs; simp
  | n + 1, i => by
    unfold strs
    split
    · have := strs_len is (n - (runE is (n + 1) i - i)) (runE is (n + 1) i + 1)
      simp only [List.length_cons]; omega
    · have := strs_len is n (i + 1)
      omega
termination_by n => n
decreasing_by all_goals omega
set_option maxHeartbeats 4000000 in
theorem stretches_ok (a z : Nat) (haz : a ≤ z) (hz : z ≤ 10000) (f : Nat) (caps : List AV) [CapsOk caps] (is : Nat → Bool) (hq : ∀ i : Nat, a ≤ i → i < z → FnFr Tryz.prog f ([.int .i64 i] ++ caps) (.bool (is i)) []) :
    FnOk Tryz.prog 60 [.int .i64 a, .int .i64 z, .fn f caps] (.own 0) [(0, .row 114 (stR (strs is (z - a) a)))] := by
  have hsl := strs_len is (z - a) a
  refine FnOk.of_vc Tryz.func60 rfl (by decide) (by simp [Tryz.f60]) [.tmp 6] rfl fun w0 T0 _ => ?_
  simp only [Tryz.f60, argEnv]
  (repeat' first | with_reducible (first | refine Asm.intro fun _ => ?_ | refine Chk.g ?_ | refine AnyI.i64 fun _ _ => ?_ | refine LetW.g ?_ | refine LetW.h ?_ | refine Ite.t fun _ => ?_ | refine Ite.f fun _ => ?_ | refine Ite.decide (fun _ => ?_) fun _ => ?_ | refine Ite.bool (fun _ => ?_) fun _ => ?_ | refine And.intro ?_ ?_) | omega | simp (maxSteps := 1000000) only [go_sem, reduceCtorEq, Nat.reduceLT, Nat.reduceLeDiff, reduceIte, ↓reduceIte, Nat.reduceEqDiff, Nat.reduceAdd, Nat.reduceMul, Nat.reduceSub, Int.reduceLE, Int.reduceLT, Int.reduceNeg, Int.reduceToNat])
  refine VcLoop.intro (fun x : Nat × List (Nat × Nat) => ⟨41, [(7, .own 0), (8, .int .i64 x.1), (1, .int .i64 z), (2, .fn f caps)], [(0, .row 114 (.objs 2 (x.2.map stAv)))], 1⟩) (fun x => a ≤ x.1 ∧ x.1 ≤ z + 1 ∧ x.2 ++ strs is (z - x.1) x.1 = strs is (z - a) a) (fun x => z + 1 - x.1) (a, []) ?_ ⟨Nat.le_refl _, by omega, rfl⟩ fun x hx => ?_
  · refine Ent.auto0 rfl ?_ ?_ <;> simp only [go_sem, reduceCtorEq, reduceIte, Nat.reduceEqDiff, Nat.reduceLT, Nat.reduceLeDiff, Int.natCast_succ, List.map_nil, zrow]
  obtain ⟨i, l⟩ := x
  obtain ⟨h1, h2, h3⟩ := hx
  dsimp only at h1 h2 h3 ⊢
  have hll : l.length ≤ 10000 := by
    have := congrArg List.length h3
    rw [List.length_append] at this
    omega
  by_cases hlt : i < z
  · obtain ⟨n, hn⟩ : ∃ n, z - i = n + 1 := ⟨z - i - 1, by omega⟩
    have hqi := hq i h1 hlt
    have hnx : strs is (n + 1) i = if is i = true then (i, runE is (n + 1) i - i) :: strs is (n - (runE is (n + 1) i - i)) (runE is (n + 1) i + 1) else strs is n (i + 1) := by rw [strs]
    rw [hn] at h3
    cases hi : is i with
    | false =>
      rw [hi] at hqi
      rw [if_neg (by rw [hi]; decide)] at hnx
      (repeat' first | with_reducible (first | refine Asm.intro fun _ => ?_ | refine Chk.g ?_ | refine AnyI.i64 fun _ _ => ?_ | refine LetW.g ?_ | refine LetW.h ?_ | refine Ite.t fun _ => ?_ | refine Ite.f fun _ => ?_ | refine Ite.decide (fun _ => ?_) fun _ => ?_ | refine Ite.bool (fun _ => ?_) fun _ => ?_ | refine And.intro ?_ ?_) | omega | simp (maxSteps := 1000000) only [go_sem, reduceCtorEq, Nat.reduceLT, Nat.reduceLeDiff, reduceIte, ↓reduceIte, Nat.reduceEqDiff, Nat.reduceAdd, Nat.reduceMul, Nat.reduceSub, Int.reduceLE, Int.reduceLT, Int.reduceNeg, Int.reduceToNat])
      refine VcCall.fr (args' := [.int .i64 i] ++ caps) hqi (by simp [argOkL, allOk, argOkN, allOk_caps]) 0 rfl (by simp [rowsB]) ?_
      (repeat' first | with_reducible (first | refine Asm.intro fun _ => ?_ | refine Chk.g ?_ | refine AnyI.i64 fun _ _ => ?_ | refine LetW.g ?_ | refine LetW.h ?_ | refine Ite.t fun _ => ?_ | refine Ite.f fun _ => ?_ | refine Ite.decide (fun _ => ?_) fun _ => ?_ | refine Ite.bool (fun _ => ?_) fun _ => ?_ | refine And.intro ?_ ?_) | omega | simp (maxSteps := 1000000) only [go_sem, reduceCtorEq, Nat.reduceLT, Nat.reduceLeDiff, reduceIte, ↓reduceIte, Nat.reduceEqDiff, Nat.reduceAdd, Nat.reduceMul, Nat.reduceSub, Int.reduceLE, Int.reduceLT, Int.reduceNeg, Int.reduceToNat])
      refine ⟨(i + 1, l), Ent.auto0 rfl ?_ ?_, ⟨by dsimp only; omega, by dsimp only; omega, ?_⟩, by dsimp only; omega⟩
      · simp only [go_sem, reduceCtorEq, reduceIte, Nat.reduceEqDiff, Nat.reduceLT, Nat.reduceLeDiff, Int.natCast_succ]
      · simp only [go_sem, reduceCtorEq, reduceIte, Nat.reduceEqDiff, Nat.reduceLT, Nat.reduceLeDiff, Int.natCast_succ]
      · show l ++ strs is (z - (i + 1)) (i + 1) = _
        rw [show z - (i + 1) = n by omega, ← h3, hnx]
    | true =>
      rw [hi] at hqi
      rw [if_pos hi] at hnx
      (repeat' first | with_reducible (first | refine Asm.intro fun _ => ?_ | refine Chk.g ?_ | refine AnyI.i64 fun _ _ => ?_ | refine LetW.g ?_ | refine LetW.h ?_ | refine Ite.t fun _ => ?_ | refine Ite.f fun _ => ?_ | refine Ite.decide (fun _ => ?_) fun _ => ?_ | refine Ite.bool (fun _ => ?_) fun _ => ?_ | refine And.intro ?_ ?_) | omega | simp (maxSteps := 1000000) only [go_sem, reduceCtorEq, Nat.reduceLT, Nat.reduceLeDiff, reduceIte, ↓reduceIte, Nat.reduceEqDiff, Nat.reduceAdd, Nat.reduceMul, Nat.reduceSub, Int.reduceLE, Int.reduceLT, Int.reduceNeg, Int.reduceToNat])
      refine VcCall.fr (args' := [.int .i64 i] ++ caps) hqi (by simp [argOkL, allOk, argOkN, allOk_caps]) 0 rfl (by simp [rowsB]) ?_
      (repeat' first | with_reducible (first | refine Asm.intro fun _ => ?_ | refine Chk.g ?_ | refine AnyI.i64 fun _ _ => ?_ | refine LetW.g ?_ | refine LetW.h ?_ | refine Ite.t fun _ => ?_ | refine Ite.f fun _ => ?_ | refine Ite.decide (fun _ => ?_) fun _ => ?_ | refine Ite.bool (fun _ => ?_) fun _ => ?_ | refine And.intro ?_ ?_) | omega | simp (maxSteps := 1000000) only [go_sem, reduceCtorEq, Nat.reduceLT, Nat.reduceLeDiff, reduceIte, ↓reduceIte, Nat.reduceEqDiff, Nat.reduceAdd, Nat.reduceMul, Nat.reduceSub, Int.reduceLE, Int.reduceLT, Int.reduceNeg, Int.reduceToNat])
      refine VcLoop.intro (fun k : Nat => ⟨41, [(9, .int .i64 k), (7, .own 0), (8, .int .i64 i), (1, .int .i64 z), (2, .fn f caps)], [(0, .row 114 (.objs 2 (l.map stAv)))], 1⟩) (fun k => i ≤ k ∧ k ≤ z ∧ runE is (z - k) k = runE is (n + 1) i) (fun k => z - k) i ?_ ⟨Nat.le_refl _, by omega, by rw [hn]⟩ fun k hk => ?_
      · refine Ent.auto0 rfl ?_ ?_ <;> simp only [go_sem, reduceCtorEq, reduceIte, Nat.reduceEqDiff, Nat.reduceLT, Nat.reduceLeDiff, Int.natCast_succ]
      obtain ⟨k1, k2, k3⟩ := hk
      have hcast : ((k - i : Nat) : Int) = (k : Int) - i := by omega
      by_cases hkz : k < z
      · have hqk := hq k (by omega) hkz
        have hdk : decide ((k : Int) < z) = true := by simp; exact hkz
        obtain ⟨m, hm⟩ : ∃ m, z - k = m + 1 := ⟨z - k - 1, by omega⟩
        have hrn : runE is (m + 1) k = if is k = true then runE is m (k + 1) else k := rfl
        rw [hm] at k3
        cases hik : is k with
        | true =>
          rw [hik] at hqk
          rw [if_pos hik] at hrn
          (repeat' first | with_reducible (first | refine Asm.intro fun _ => ?_ | refine Chk.g ?_ | refine AnyI.i64 fun _ _ => ?_ | refine LetW.g ?_ | refine LetW.h ?_ | refine Ite.t fun _ => ?_ | refine Ite.f fun _ => ?_ | refine Ite.decide (fun _ => ?_) fun _ => ?_ | refine Ite.bool (fun _ => ?_) fun _ => ?_ | refine And.intro ?_ ?_) | omega | simp (maxSteps := 1000000) only [go_sem, reduceCtorEq, Nat.reduceLT, Nat.reduceLeDiff, reduceIte, ↓reduceIte, Nat.reduceEqDiff, Nat.reduceAdd, Nat.reduceMul, Nat.reduceSub, Int.reduceLE, Int.reduceLT, Int.reduceNeg, Int.reduceToNat, hdk])
          refine VcCall.fr (args' := [.int .i64 k] ++ caps) hqk (by simp [argOkL, allOk, argOkN, allOk_caps]) 0 rfl (by simp [rowsB]) ?_
          (repeat' first | with_reducible (first | refine Asm.intro fun _ => ?_ | refine Chk.g ?_ | refine AnyI.i64 fun _ _ => ?_ | refine LetW.g ?_ | refine LetW.h ?_ | refine Ite.t fun _ => ?_ | refine Ite.f fun _ => ?_ | refine Ite.decide (fun _ => ?_) fun _ => ?_ | refine Ite.bool (fun _ => ?_) fun _ => ?_ | refine And.intro ?_ ?_) | omega | simp (maxSteps := 1000000) only [go_sem, reduceCtorEq, Nat.reduceLT, Nat.reduceLeDiff, reduceIte, ↓reduceIte, Nat.reduceEqDiff, Nat.reduceAdd, Nat.reduceMul, Nat.reduceSub, Int.reduceLE, Int.reduceLT, Int.reduceNeg, Int.reduceToNat, hdk])
          refine ⟨k + 1, Ent.auto0 rfl ?_ ?_, ⟨by omega, by omega, by rw [show z - (k + 1) = m by omega, ← hrn]; exact k3⟩, by omega⟩ <;> simp only [go_sem, reduceCtorEq, reduceIte, Nat.reduceEqDiff, Nat.reduceLT, Nat.reduceLeDiff, Int.natCast_succ]
        | false =>
          rw [hik] at hqk
          rw [if_neg (by rw [hik]; decide)] at hrn
          rw [hrn] at k3
          (repeat' first | with_reducible (first | refine Asm.intro fun _ => ?_ | refine Chk.g ?_ | refine AnyI.i64 fun _ _ => ?_ | refine LetW.g ?_ | refine LetW.h ?_ | refine Ite.t fun _ => ?_ | refine Ite.f fun _ => ?_ | refine Ite.decide (fun _ => ?_) fun _ => ?_ | refine Ite.bool (fun _ => ?_) fun _ => ?_ | refine And.intro ?_ ?_) | omega | simp (maxSteps := 1000000) only [go_sem, reduceCtorEq, Nat.reduceLT, Nat.reduceLeDiff, reduceIte, ↓reduceIte, Nat.reduceEqDiff, Nat.reduceAdd, Nat.reduceMul, Nat.reduceSub, Int.reduceLE, Int.reduceLT, Int.reduceNeg, Int.reduceToNat, hdk])
          refine VcCall.fr (args' := [.int .i64 k] ++ caps) hqk (by simp [argOkL, allOk, argOkN, allOk_caps]) 0 rfl (by simp [rowsB]) ?_
          (repeat' first | with_reducible (first | refine Asm.intro fun _ => ?_ | refine Chk.g ?_ | refine AnyI.i64 fun _ _ => ?_ | refine LetW.g ?_ | refine LetW.h ?_ | refine Ite.t fun _ => ?_ | refine Ite.f fun _ => ?_ | refine Ite.decide (fun _ => ?_) fun _ => ?_ | refine Ite.bool (fun _ => ?_) fun _ => ?_ | refine And.intro ?_ ?_) | omega | simp (maxSteps := 1000000) only [go_sem, reduceCtorEq, Nat.reduceLT, Nat.reduceLeDiff, reduceIte, ↓reduceIte, Nat.reduceEqDiff, Nat.reduceAdd, Nat.reduceMul, Nat.reduceSub, Int.reduceLE, Int.reduceLT, Int.reduceNeg, Int.reduceToNat, hdk, List.length_map])
          refine ⟨(k + 1, l ++ [(i, k - i)]), Ent.auto0 rfl ?_ ?_, ⟨by dsimp only; omega, by dsimp only; omega, ?_⟩, by dsimp only; omega⟩
          · simp only [go_sem, reduceCtorEq, reduceIte, Nat.reduceEqDiff, Nat.reduceLT, Nat.reduceLeDiff, Int.natCast_succ]
          · simp only [go_sem, reduceCtorEq, reduceIte, Nat.reduceEqDiff, Nat.reduceLT, Nat.reduceLeDiff, Int.natCast_succ, List.map_append, List.map_cons, List.map_nil, stAv, hcast]
          · show (l ++ [(i, k - i)]) ++ strs is (z - (k + 1)) (k + 1) = _
            rw [← h3, hnx, ← k3, List.append_assoc, show z - (k + 1) = n - (k - i) by omega]; rfl
      · have e : k = z := by omega
        subst e
        have hdk : decide ((k : Int) < k) = false := by simp
        have k3' : k = runE is (n + 1) i := by rw [← k3, Nat.sub_self]; rfl
        (repeat' first | with_reducible (first | refine Asm.intro fun _ => ?_ | refine Chk.g ?_ | refine AnyI.i64 fun _ _ => ?_ | refine LetW.g ?_ | refine LetW.h ?_ | refine Ite.t fun _ => ?_ | refine Ite.f fun _ => ?_ | refine Ite.decide (fun _ => ?_) fun _ => ?_ | refine Ite.bool (fun _ => ?_) fun _ => ?_ | refine And.intro ?_ ?_) | omega | simp (maxSteps := 1000000) only [go_sem, reduceCtorEq, Nat.reduceLT, Nat.reduceLeDiff, reduceIte, ↓reduceIte, Nat.reduceEqDiff, Nat.reduceAdd, Nat.reduceMul, Nat.reduceSub, Int.reduceLE, Int.reduceLT, Int.reduceNeg, Int.reduceToNat, hdk, List.length_map])
        refine ⟨(k + 1, l ++ [(i, k - i)]), Ent.auto0 rfl ?_ ?_, ⟨by dsimp only; omega, by dsimp only; omega, ?_⟩, by dsimp only; omega⟩
        · simp only [go_sem, reduceCtorEq, reduceIte, Nat.reduceEqDiff, Nat.reduceLT, Nat.reduceLeDiff, Int.natCast_succ]
        · simp only [go_sem, reduceCtorEq, reduceIte, Nat.reduceEqDiff, Nat.reduceLT, Nat.reduceLeDiff, Int.natCast_succ, List.map_append, List.map_cons, List.map_nil, stAv, hcast]
        · show (l ++ [(i, k - i)]) ++ strs is (k - (k + 1)) (k + 1) = _
          rw [← h3, hnx, ← k3', List.append_assoc, show k - (k + 1) = n - (k - i) by omega]; rfl
  · have e0 : strs is (z - i) i = [] := by rw [show z - i = 0 by omega]; unfold strs; rfl
    rw [e0, List.append_nil] at h3
    subst h3
    (repeat' first | with_reducible (first | refine Asm.intro fun _ => ?_ | refine Chk.g ?_ | refine AnyI.i64 fun _ _ => ?_ | refine LetW.g ?_ | refine LetW.h ?_ | refine Ite.t fun _ => ?_ | refine Ite.f fun _ => ?_ | refine Ite.decide (fun _ => ?_) fun _ => ?_ | refine Ite.bool (fun _ => ?_) fun _ => ?_ | refine And.intro ?_ ?_) | omega | simp (maxSteps := 1000000) only [go_sem, reduceCtorEq, Nat.reduceLT, Nat.reduceLeDiff, reduceIte, ↓reduceIte, Nat.reduceEqDiff, Nat.reduceAdd, Nat.reduceMul, Nat.reduceSub, Int.reduceLE, Int.reduceLT, Int.reduceNeg, Int.reduceToNat])
    refine Ret.auto 1 ?_ rfl ?_ <;> simp only [go_sem, reduceCtorEq, reduceIte, Nat.reduceEqDiff, Nat.reduceLT, Nat.reduceLeDiff, Int.natCast_succ, Post, stR]
end Go.Fv.Q

/-! Lines and words: stretches that are joined; plain law. -/
namespace Go.Fv.Q
open Go
set_option linter.unusedSimpArgs false
set_option linter.unusedVariables false

/-- Stretches told by their first place and the place behind their last. -/
def toE (s : Nat × Nat) : Nat × Nat := (s.1, s.1 + s.2)
def jnE (gap : Nat) (out : List (Nat × Nat)) (s : Nat × Nat) : List (Nat × Nat) := match out.getLast? with
  | some t => if s.1 < t.2 + gap then out.dropLast ++ [(t.1, s.1 + s.2)] else out ++ [toE s]
  | none => [toE s]
theorem jnE_nil (gap : Nat) (s : Nat × Nat) : jnE gap [] s = [toE s] := rfl
theorem jnE_snoc (gap : Nat) (o : List (Nat × Nat)) (t s : Nat × Nat) : jnE gap (o ++ [t]) s = if s.1 < t.2 + gap then o ++ [(t.1, s.1 + s.2)] else o ++ [t] ++ [toE s] := by
  unfold jnE; simp
/-- The reference's way, place by place. -/
def rfGo (is : Nat → Bool) (gap : Nat) : Nat → Nat → List (Nat × Nat) → List (Nat × Nat)
  | 0, _, out => out
  | k + 1, i, out => if is i = true then rfGo is gap k (i + 1) (jnE gap out (i, 1)) else rfGo is gap k (i + 1) out
theorem rfGo_run (is : Nat → Bool) (gap : Nat) (hg : 1 ≤ gap) (a : Nat) (o : List (Nat × Nat)) : ∀ k i, rfGo is gap k i (o ++ [(a, i)]) = rfGo is gap (k - (runE is k i - i)) (runE is k i) (o ++ [(a, runE is k i)])
  | 0, i => by simp [runE, rfGo]
  | k + 1, i => by
    by_cases h : is i = true
    · have hb := (runE_bd is k (i + 1)).1
      have e : runE is (k + 1) i = runE is k (i + 1) := by rw [runE, if_pos h]
      rw [e, rfGo, if_pos h, jnE_snoc, if_pos (by dsimp only; omega)]
      rw [show (((a, i) : Nat × Nat).1, ((i, 1) : Nat × Nat).1 + ((i, 1) : Nat × Nat).2) = (a, i + 1) from rfl, rfGo_run is gap hg a o k (i + 1)]
      congr 1; omega
    · have e : runE is (k + 1) i = i := by rw [runE, if_neg h]
      rw [e, Nat.sub_self, Nat.sub_zero]
theorem rfGo_strs (is : Nat → Bool) (gap : Nat) (hg : 1 ≤ gap) : ∀ (k i : Nat) (out : List (Nat × Nat)), rfGo is gap k i out = (strs is k i).foldl (jnE gap) out
  | 0, i, out => by unfold strs; rfl
  | k + 1, i, out => by
    by_cases h : is i = true
    · have e : runE is (k + 1) i = runE is k (i + 1) := by rw [runE, if_pos h]
      have hb := runE_bd is k (i + 1)
      have hst : strs is (k + 1) i = (i, runE is (k + 1) i - i) :: strs is (k - (runE is (k + 1) i - i)) (runE is (k + 1) i + 1) := by rw [strs, if_pos h]
      rw [hst, List.foldl_cons, rfGo, if_pos h]
      have step : ∃ o a, jnE gap out (i, 1) = o ++ [(a, i + 1)] ∧ jnE gap out (i, runE is (k + 1) i - i) = o ++ [(a, runE is (k + 1) i)] := by
        rcases List.eq_nil_or_concat out with rfl | ⟨o, t, rfl⟩
        · refine ⟨[], i, rfl, ?_⟩
          rw [jnE_nil]; unfold toE; dsimp only
          rw [show i + (runE is (k + 1) i - i) = runE is (k + 1) i by omega]; rfl
        · rw [List.concat_eq_append, jnE_snoc, jnE_snoc]
          dsimp only
          by_cases hc : i < t.2 + gap
          · rw [if_pos hc, if_pos hc]
            exact ⟨o, t.1, rfl, by rw [show i + (runE is (k + 1) i - i) = runE is (k + 1) i by omega]⟩
          · rw [if_neg hc, if_neg hc]
            exact ⟨o ++ [t], i, rfl, by unfold toE; dsimp only; rw [show i + (runE is (k + 1) i - i) = runE is (k + 1) i by omega]⟩
      obtain ⟨o, a, s1, s2⟩ := step
      rw [s1, s2, rfGo_run is gap hg a o k (i + 1), ← e]
      by_cases hend : runE is (k + 1) i < i + 1 + k
      · have hs := runE_stop is k (i + 1) (by rw [← e]; omega)
        rw [← e] at hs
        obtain ⟨m, hm⟩ : ∃ m, k - (runE is (k + 1) i - (i + 1)) = m + 1 := ⟨k - (runE is (k + 1) i - (i + 1)) - 1, by omega⟩
        rw [hm, rfGo, if_neg (by rw [hs]; decide), show k - (runE is (k + 1) i - i) = m by omega]
        exact rfGo_strs is gap hg m (runE is (k + 1) i + 1) _
      · rw [show k - (runE is (k + 1) i - (i + 1)) = 0 by omega, show k - (runE is (k + 1) i - i) = 0 by omega]
        unfold strs; rfl
    · have hst : strs is (k + 1) i = strs is k (i + 1) := by rw [strs, if_neg h]
      rw [hst, rfGo, if_neg h]
      exact rfGo_strs is gap hg k (i + 1) out
termination_by k => k
decreasing_by all_goals omega
def shE (x : Nat) (s : Nat × Nat) : Nat × Nat := (x + s.1, x + s.2)
theorem jnE_shift (gap x : Nat) (out : List (Nat × Nat)) (s : Nat × Nat) : jnE gap (out.map (shE x)) (x + s.1, s.2) = (jnE gap out s).map (shE x) := by
  rcases List.eq_nil_or_concat out with rfl | ⟨o, t, rfl⟩
  · show [toE (x + s.1, s.2)] = [shE x (toE s)]
    unfold toE shE; dsimp only; rw [Nat.add_assoc]
  · rw [List.concat_eq_append, List.map_append, List.map_cons, List.map_nil, jnE_snoc, jnE_snoc]
    by_cases hc : s.1 < t.2 + gap
    · rw [if_pos hc, if_pos (by unfold shE; dsimp only; omega), List.map_append]
      unfold shE; dsimp only [List.map_cons, List.map_nil]; rw [Nat.add_assoc]; rfl
    · rw [if_neg hc, if_neg (by unfold shE; dsimp only; omega), List.map_append, List.map_append]
      unfold shE toE; dsimp only [List.map_cons, List.map_nil]; rw [Nat.add_assoc]; rfl
theorem foldl_jnE_shift (gap x : Nat) : ∀ (l out : List (Nat × Nat)), (l.map fun s => (x + s.1, s.2)).foldl (jnE gap) (out.map (shE x)) = (l.foldl (jnE gap) out).map (shE x)
  | [], out => rfl
  | s :: l, out => by rw [List.map_cons, List.foldl_cons, List.foldl_cons, jnE_shift, foldl_jnE_shift gap x l]
/-- Lines of places: those of the program are those of the reference. -/
theorem joined_ref (is : Nat → Bool) (gap n x : Nat) (hg : 1 ≤ gap) : (strs is n x).foldl (jnE gap) [] = (rfGo (fun j => is (x + j)) gap n 0 []).map (shE x) := by
  have h := strs_shift is x n 0
  rw [Nat.add_zero] at h
  rw [h, rfGo_strs _ gap hg]
  exact foldl_jnE_shift gap x _ []
structure StOk (is : Nat → Bool) (n : Nat) (t : Nat × Nat) : Prop where
  lt : t.1 < t.2
  le : t.2 ≤ n
  at1 : is t.1 = true
theorem rfGo_ok (is : Nat → Bool) (gap : Nat) : ∀ (k i : Nat) (out : List (Nat × Nat)), (∀ t, t ∈ out → StOk is i t) → ∀ t, t ∈ rfGo is gap k i out → StOk is (i + k) t
  | 0, i, out, h, t, ht => h t ht
  | k + 1, i, out, h, t, ht => by
    have up : ∀ t, StOk is i t → StOk is (i + 1) t := fun t h => ⟨h.lt, by have := h.le; omega, h.at1⟩
    unfold rfGo at ht
    rw [show i + (k + 1) = i + 1 + k by omega]
    split at ht
    · rename_i hi
      refine rfGo_ok is gap k (i + 1) _ ?_ t ht
      rcases List.eq_nil_or_concat out with rfl | ⟨o, u, rfl⟩
      · intro t ht
        rw [jnE_nil, List.mem_singleton] at ht
        subst ht
        exact ⟨by show i < i + 1; omega, Nat.le_refl _, hi⟩
      · rw [List.concat_eq_append] at h ⊢
        have hu := h u (by simp)
        intro t ht
        rw [jnE_snoc] at ht
        split at ht
        · rcases List.mem_append.1 ht with ht | ht
          · exact up t (h t (by simp [ht]))
          · rw [List.mem_singleton] at ht
            subst ht
            exact ⟨by show u.1 < i + 1; have := hu.lt; have := hu.le; omega, Nat.le_refl _, hu.at1⟩
        · rcases List.mem_append.1 ht with ht | ht
          · exact up t (h t ht)
          · rw [List.mem_singleton] at ht
            subst ht
            exact ⟨by show i < i + 1; omega, Nat.le_refl _, hi⟩
    · exact rfGo_ok is gap k (i + 1) out (fun t ht => up t (h t ht)) t ht
theorem rfGo_len (is : Nat → Bool) (gap : Nat) : ∀ (k i : Nat) (out : List (Nat × Nat)), (rfGo is gap k i out).length ≤ out.length + k
  | 0, i, out => Nat.le_refl _
  | k + 1, i, out => by
    unfold rfGo
    split
    · have h := rfGo_len is gap k (i + 1) (jnE gap out (i, 1))
      have h2 : (jnE gap out (i, 1)).length ≤ out.length + 1 := by
        rcases List.eq_nil_or_concat out with rfl | ⟨o, u, rfl⟩
        · rw [jnE_nil]; simp
        · rw [List.concat_eq_append, jnE_snoc]; split <;> simp
      omega
    · have h := rfGo_len is gap k (i + 1) out
      omega
/-- With a gap of one nothing is joined. -/
theorem jn_one (is : Nat → Bool) : ∀ (k i : Nat) (out : List (Nat × Nat)), (∀ t, out.getLast? = some t → t.2 < i ∨ out = []) → (strs is k i).foldl (jnE 1) out = out ++ (strs is k i).map toE
  | 0, i, out, _ => by unfold strs; simp
  | k + 1, i, out, h => by
    by_cases hi : is i = true
    · have hst : strs is (k + 1) i = (i, runE is (k + 1) i - i) :: strs is (k - (runE is (k + 1) i - i)) (runE is (k + 1) i + 1) := by rw [strs, if_pos hi]
      have hb := runE_bd is (k + 1) i
      have e : jnE 1 out (i, runE is (k + 1) i - i) = out ++ [toE (i, runE is (k + 1) i - i)] := by
        rcases List.eq_nil_or_concat out with rfl | ⟨o, u, rfl⟩
        · rfl
        · rw [List.concat_eq_append, jnE_snoc, if_neg]
          rw [List.concat_eq_append] at h
          have := h u (by simp)
          simp at this
          dsimp only; omega
      rw [hst, List.foldl_cons, e, jn_one is _ _ _ (fun t ht => by
        simp at ht
        subst ht
        unfold toE; dsimp only
        exact .inl (by omega))]
      simp
    · have hst : strs is (k + 1) i = strs is k (i + 1) := by rw [strs, if_neg hi]
      rw [hst]
      exact jn_one is k (i + 1) out fun t ht => (h t ht).imp (fun h => by omega) id
termination_by k => k
decreasing_by all_goals omega
theorem rfGo_one (is : Nat → Bool) (n : Nat) : rfGo is 1 n 0 [] = (strs is n 0).map toE := by
  rw [rfGo_strs is 1 (Nat.le_refl 1), jn_one is n 0 [] (fun t ht => by cases ht), List.nil_append]
end Go.Fv.Q
