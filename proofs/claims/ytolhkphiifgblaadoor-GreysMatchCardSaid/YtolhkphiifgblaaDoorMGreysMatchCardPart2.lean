/-
  A part of the proof of the claim: walks over the program's functions and the plain laws that these need. No condition of its own.
-/
import Derived.Test.YtolhkphiifgblaaDoorMGreysMatchCardPart1
import Derived.Test.YtolhkphiifgblaaDoorFvPart9
/- Stretch and the reference's: the walk. -/
namespace Go.Fv.M
open Go Go.Proofs
set_option linter.unusedSimpArgs false
set_option linter.unusedVariables false
set_option linter.unnecessarySimpa false
set_option maxRecDepth 8000

def rnd (a b : Int) : Int := (2 * a + b) / (2 * b)
theorem rnd_bd {a b c : Int} (ha : 0 ≤ a) (hb : 1 ≤ b) (h : a ≤ c * b) : 0 ≤ rnd a b ∧ rnd a b ≤ c := by
  unfold rnd
  refine ⟨Int.ediv_nonneg (by omega) (by omega), ?_⟩
  have h2 : (2 * a + b) / (2 * b) < c + 1 := by
    rw [Int.ediv_lt_iff_lt_mul (by omega)]
    have e : (c + 1) * (2 * b) = 2 * (c * b) + 2 * b := by rw [Int.add_mul, Int.one_mul, Int.mul_left_comm]
    omega
  omega
theorem floor_ok (x y : Int) (hx : 0 ≤ x ∧ x ≤ 1000000000000) (hy : 1 ≤ y ∧ y ≤ 1000000000000) : FnOk Tryd.prog 94 [.int .i64 x, .int .i64 y] (.int .i64 (x / y)) [] := by
  have h1 : x.tdiv y = x / y := Int.tdiv_eq_ediv_of_nonneg hx.1
  have h2 : x.tmod y = x % y := Int.tmod_eq_emod_of_nonneg hx.1
  have h3 := Int.emod_nonneg x (show y ≠ 0 by omega)
  have h4 : 0 ≤ x / y := Int.ediv_nonneg hx.1 (by omega)
  have h5 : x / y ≤ x := Int.ediv_le_self y hx.1
  refine FnOk.of_vc Tryd.func94 rfl (by decide) (by simp [Tryd.f94]) [.tmp 4] rfl fun w0 T0 _ => ?_
  simp only [Tryd.f94, argEnv]
  (repeat' first | with_reducible (first | refine Asm.intro fun _ => ?_ | refine Chk.g ?_ | refine AnyI.i64 fun _ _ => ?_ | refine LetW.g ?_ | refine LetW.h ?_ | refine Ite.t fun _ => ?_ | refine Ite.f fun _ => ?_ | refine Ite.decide (fun _ => ?_) fun _ => ?_ | refine Ite.bool (fun _ => ?_) fun _ => ?_ | refine And.intro ?_ ?_) | omega | simp (maxSteps := 1000000) only [go_sem, reduceCtorEq, Nat.reduceLT, Nat.reduceLeDiff, reduceIte, ↓reduceIte, Nat.reduceEqDiff, Nat.reduceAdd, Nat.reduceMul, Nat.reduceSub, Int.reduceLE, Int.reduceLT, Int.reduceNeg, Int.reduceToNat, h1, h2])
  refine Ret.auto 0 ?_ rfl ?_ <;> simp only [go_sem, reduceCtorEq, reduceIte, Nat.reduceEqDiff, Nat.reduceLT, Nat.reduceLeDiff, Int.natCast_succ, Post]
theorem down_ok (x y : Int) (hx : 0 ≤ x ∧ x ≤ 1000000000000) (hy : 1 ≤ y ∧ y ≤ 1000000000000) : FnOk Tryd.prog 95 [.int .i64 x, .int .i64 y] (.int .i64 (x / y)) [] := by
  have h1 : x.tdiv y = x / y := Int.tdiv_eq_ediv_of_nonneg hx.1
  have h4 : 0 ≤ x / y := Int.ediv_nonneg hx.1 (by omega)
  have h5 : x / y ≤ x := Int.ediv_le_self y hx.1
  have h6 : x / y * y ≤ x := Int.ediv_mul_le x (by omega)
  have h7 : 0 ≤ x / y * y := Int.mul_nonneg h4 (by omega)
  refine FnOk.of_vc Tryd.func95 rfl (by decide) (by simp [Tryd.f95]) [.tmp 4] rfl fun w0 T0 _ => ?_
  simp only [Tryd.f95, argEnv]
  (repeat' first | with_reducible (first | refine Asm.intro fun _ => ?_ | refine Chk.g ?_ | refine AnyI.i64 fun _ _ => ?_ | refine LetW.g ?_ | refine LetW.h ?_ | refine Ite.t fun _ => ?_ | refine Ite.f fun _ => ?_ | refine Ite.decide (fun _ => ?_) fun _ => ?_ | refine Ite.bool (fun _ => ?_) fun _ => ?_ | refine And.intro ?_ ?_) | omega | simp (maxSteps := 1000000) only [go_sem, reduceCtorEq, Nat.reduceLT, Nat.reduceLeDiff, reduceIte, ↓reduceIte, Nat.reduceEqDiff, Nat.reduceAdd, Nat.reduceMul, Nat.reduceSub, Int.reduceLE, Int.reduceLT, Int.reduceNeg, Int.reduceToNat, h1])
  generalize x / y = q at *
  refine VcLoop.intro (fun _ : Unit => ⟨17, [(5, .int .i64 q), (0, .int .i64 x), (1, .int .i64 y)], [], 0⟩) (fun _ => True) (fun _ => 0) () ?_ trivial fun _ _ => ?_
  · refine Ent.auto0 rfl ?_ ?_ <;> simp only [go_sem, reduceCtorEq, reduceIte, Nat.reduceEqDiff, Nat.reduceLT, Nat.reduceLeDiff, Int.natCast_succ]
  (repeat' first | with_reducible (first | refine Asm.intro fun _ => ?_ | refine Chk.g ?_ | refine AnyI.i64 fun _ _ => ?_ | refine LetW.g ?_ | refine LetW.h ?_ | refine Ite.t fun _ => ?_ | refine Ite.f fun _ => ?_ | refine Ite.decide (fun _ => ?_) fun _ => ?_ | refine Ite.bool (fun _ => ?_) fun _ => ?_ | refine And.intro ?_ ?_) | omega | simp (maxSteps := 1000000) only [go_sem, reduceCtorEq, Nat.reduceLT, Nat.reduceLeDiff, reduceIte, ↓reduceIte, Nat.reduceEqDiff, Nat.reduceAdd, Nat.reduceMul, Nat.reduceSub, Int.reduceLE, Int.reduceLT, Int.reduceNeg, Int.reduceToNat])
  refine Ret.auto 0 ?_ rfl ?_ <;> simp only [go_sem, reduceCtorEq, reduceIte, Nat.reduceEqDiff, Nat.reduceLT, Nat.reduceLeDiff, Int.natCast_succ, Post]
theorem rounded_ok (a b : Int) (ha : 0 ≤ a ∧ a ≤ 100000000000) (hb : 1 ≤ b ∧ b ≤ 100000000000) : FnOk Tryd.prog 65 [.int .i64 a, .int .i64 b] (.int .i64 (rnd a b)) [] := by
  have k := floor_ok (2 * a + b) (2 * b) (by omega) (by omega)
  have e : (2 * a + b) / (2 * b) = rnd a b := rfl
  rw [e] at k
  generalize rnd a b = r at *
  refine FnOk.of_vc Tryd.func65 rfl (by decide) (by simp [Tryd.f65]) [.tmp 4] rfl fun w0 T0 _ => ?_
  simp only [Tryd.f65, argEnv]
  (repeat' first | with_reducible (first | refine Asm.intro fun _ => ?_ | refine Chk.g ?_ | refine AnyI.i64 fun _ _ => ?_ | refine LetW.g ?_ | refine LetW.h ?_ | refine Ite.t fun _ => ?_ | refine Ite.f fun _ => ?_ | refine Ite.decide (fun _ => ?_) fun _ => ?_ | refine Ite.bool (fun _ => ?_) fun _ => ?_ | refine And.intro ?_ ?_) | omega | simp (maxSteps := 1000000) only [go_sem, reduceCtorEq, Nat.reduceLT, Nat.reduceLeDiff, reduceIte, ↓reduceIte, Nat.reduceEqDiff, Nat.reduceAdd, Nat.reduceMul, Nat.reduceSub, Int.reduceLE, Int.reduceLT, Int.reduceNeg, Int.reduceToNat])
  refine VcCall.fr (FnFr.of_ok (k) rfl rfl) (by simp only [noIdR_ok, argOkL, argOk, allOk, argOkN, List.drop_zero, lk, reduceIte, reduceCtorEq, Nat.reduceEqDiff, Option.some.injEq, Item.row.injEq, Item.box.injEq, AV.ro.injEq, exists_eq_left, exists_and_left, exists_eq_left', exists_eq_right, and_assoc, and_true, true_and, List.cons.injEq, exists_eq', exists_eq]) 0 rfl (by simp [rowsB]) ?_
  (repeat' first | with_reducible (first | refine Asm.intro fun _ => ?_ | refine Chk.g ?_ | refine AnyI.i64 fun _ _ => ?_ | refine LetW.g ?_ | refine LetW.h ?_ | refine Ite.t fun _ => ?_ | refine Ite.f fun _ => ?_ | refine Ite.decide (fun _ => ?_) fun _ => ?_ | refine Ite.bool (fun _ => ?_) fun _ => ?_ | refine And.intro ?_ ?_) | omega | simp (maxSteps := 1000000) only [go_sem, reduceCtorEq, Nat.reduceLT, Nat.reduceLeDiff, reduceIte, ↓reduceIte, Nat.reduceEqDiff, Nat.reduceAdd, Nat.reduceMul, Nat.reduceSub, Int.reduceLE, Int.reduceLT, Int.reduceNeg, Int.reduceToNat])
  refine Ret.auto 0 ?_ rfl ?_ <;> simp only [go_sem, reduceCtorEq, reduceIte, Nat.reduceEqDiff, Nat.reduceLT, Nat.reduceLeDiff, Int.natCast_succ, Post]
theorem round_ok (a b : Int) (ha : 0 ≤ a ∧ a ≤ 100000000000) (hb : 1 ≤ b ∧ b ≤ 100000000000) : FnOk Tryd.prog 67 [.int .i64 a, .int .i64 b] (.int .i64 (rnd a b)) [] := by
  have k := down_ok (2 * a + b) (2 * b) (by omega) (by omega)
  have e : (2 * a + b) / (2 * b) = rnd a b := rfl
  rw [e] at k
  generalize rnd a b = r at *
  refine FnOk.of_vc Tryd.func67 rfl (by decide) (by simp [Tryd.f67]) [.tmp 4] rfl fun w0 T0 _ => ?_
  simp only [Tryd.f67, argEnv]
  (repeat' first | with_reducible (first | refine Asm.intro fun _ => ?_ | refine Chk.g ?_ | refine AnyI.i64 fun _ _ => ?_ | refine LetW.g ?_ | refine LetW.h ?_ | refine Ite.t fun _ => ?_ | refine Ite.f fun _ => ?_ | refine Ite.decide (fun _ => ?_) fun _ => ?_ | refine Ite.bool (fun _ => ?_) fun _ => ?_ | refine And.intro ?_ ?_) | omega | simp (maxSteps := 1000000) only [go_sem, reduceCtorEq, Nat.reduceLT, Nat.reduceLeDiff, reduceIte, ↓reduceIte, Nat.reduceEqDiff, Nat.reduceAdd, Nat.reduceMul, Nat.reduceSub, Int.reduceLE, Int.reduceLT, Int.reduceNeg, Int.reduceToNat])
  refine VcCall.fr (FnFr.of_ok (k) rfl rfl) (by simp only [noIdR_ok, argOkL, argOk, allOk, argOkN, List.drop_zero, lk, reduceIte, reduceCtorEq, Nat.reduceEqDiff, Option.some.injEq, Item.row.injEq, Item.box.injEq, AV.ro.injEq, exists_eq_left, exists_and_left, exists_eq_left', exists_eq_right, and_assoc, and_true, true_and, List.cons.injEq, exists_eq', exists_eq]) 0 rfl (by simp [rowsB]) ?_
  (repeat' first | with_reducible (first | refine Asm.intro fun _ => ?_ | refine Chk.g ?_ | refine AnyI.i64 fun _ _ => ?_ | refine LetW.g ?_ | refine LetW.h ?_ | refine Ite.t fun _ => ?_ | refine Ite.f fun _ => ?_ | refine Ite.decide (fun _ => ?_) fun _ => ?_ | refine Ite.bool (fun _ => ?_) fun _ => ?_ | refine And.intro ?_ ?_) | omega | simp (maxSteps := 1000000) only [go_sem, reduceCtorEq, Nat.reduceLT, Nat.reduceLeDiff, reduceIte, ↓reduceIte, Nat.reduceEqDiff, Nat.reduceAdd, Nat.reduceMul, Nat.reduceSub, Int.reduceLE, Int.reduceLT, Int.reduceNeg, Int.reduceToNat])
  refine Ret.auto 0 ?_ rfl ?_ <;> simp only [go_sem, reduceCtorEq, reduceIte, Nat.reduceEqDiff, Nat.reduceLT, Nat.reduceLeDiff, Int.natCast_succ, Post]
def clampV (lo hi x : Int) : Int := min (max x lo) hi
def strV (lo hi x : Int) : Int := rnd ((clampV lo hi x - lo) * 255) (hi - lo)
theorem strV_bd {lo hi x : Int} (h : lo < hi) : 0 ≤ strV lo hi x ∧ strV lo hi x ≤ 255 := by
  have h1 : 0 ≤ clampV lo hi x - lo ∧ clampV lo hi x - lo ≤ hi - lo := by unfold clampV; omega
  unfold strV
  exact rnd_bd (by omega) (by omega) (by omega)
theorem rows_range {α : Type} (w h : Nat) (f : Nat → α) : rowsOf w (fun x y => f (y * w + x)) (h * w) = (List.range (w * h)).map f := by
  unfold rowsOf
  rw [Nat.mul_comm]
  refine List.map_congr_left fun k _ => ?_
  show f (k / w * w + k % w) = f k
  rw [Nat.div_add_mod' k w]
theorem stretch1_ok (W H : Int) (p : List Int) (hb : ∀ x, x ∈ p → 0 ≤ x ∧ x ≤ 255) (lo hi : Int) (h : 0 ≤ lo ∧ lo < hi ∧ hi ≤ 255) (i : Nat) (hi' : i < p.length) :
    FnOk Tryd.prog 64 [.int .i64 i, .cell [.int .i64 W, .int .i64 H, .ro (.ints .u8 p)], .cell [.int .i64 lo], .cell [.int .i64 hi]] (.int .i64 (strV lo hi (p.getD i 0))) [] := by
  have hv := getD_bd hb (by omega) (by omega) i
  generalize hx : p.getD i 0 = x at *
  have hcl : clampV lo hi x = min (max x lo) hi := rfl
  have k := rounded_ok ((clampV lo hi x - lo) * 255) (hi - lo) (by omega) (by omega)
  have e : rnd ((clampV lo hi x - lo) * 255) (hi - lo) = strV lo hi x := rfl
  rw [e, hcl] at k
  generalize strV lo hi x = r at *
  refine FnOk.of_vc Tryd.func64 rfl (by decide) (by simp [Tryd.f64]) [.tmp 5] rfl fun w0 T0 _ => ?_
  simp only [Tryd.f64, argEnv]
  (repeat' first | with_reducible (first | refine Asm.intro fun _ => ?_ | refine Chk.g ?_ | refine AnyI.i64 fun _ _ => ?_ | refine LetW.g ?_ | refine LetW.h ?_ | refine Ite.t fun _ => ?_ | refine Ite.f fun _ => ?_ | refine Ite.decide (fun _ => ?_) fun _ => ?_ | refine Ite.bool (fun _ => ?_) fun _ => ?_ | refine And.intro ?_ ?_) | omega | simp (maxSteps := 1000000) only [go_sem, reduceCtorEq, Nat.reduceLT, Nat.reduceLeDiff, reduceIte, ↓reduceIte, Nat.reduceEqDiff, Nat.reduceAdd, Nat.reduceMul, Nat.reduceSub, Int.reduceLE, Int.reduceLT, Int.reduceNeg, Int.reduceToNat])
  refine VcDraw.lex [] [] (by kernel_rfl) (by kernel_rfl) ?_
  (repeat' first | with_reducible (first | refine Asm.intro fun _ => ?_ | refine Chk.g ?_ | refine AnyI.i64 fun _ _ => ?_ | refine LetW.g ?_ | refine LetW.h ?_ | refine Ite.t fun _ => ?_ | refine Ite.f fun _ => ?_ | refine Ite.decide (fun _ => ?_) fun _ => ?_ | refine Ite.bool (fun _ => ?_) fun _ => ?_ | refine And.intro ?_ ?_) | omega | simp (maxSteps := 1000000) only [go_sem, reduceCtorEq, Nat.reduceLT, Nat.reduceLeDiff, reduceIte, ↓reduceIte, Nat.reduceEqDiff, Nat.reduceAdd, Nat.reduceMul, Nat.reduceSub, Int.reduceLE, Int.reduceLT, Int.reduceNeg, Int.reduceToNat, Int.toNat_natCast, hx, minmax])
  refine VcCall.fr (FnFr.of_ok (k) rfl rfl) (by simp only [noIdR_ok, argOkL, argOk, allOk, argOkN, List.drop_zero, lk, reduceIte, reduceCtorEq, Nat.reduceEqDiff, Option.some.injEq, Item.row.injEq, Item.box.injEq, AV.ro.injEq, exists_eq_left, exists_and_left, exists_eq_left', exists_eq_right, and_assoc, and_true, true_and, List.cons.injEq, exists_eq', exists_eq]) 0 rfl (by simp [rowsB]) ?_
  (repeat' first | with_reducible (first | refine Asm.intro fun _ => ?_ | refine Chk.g ?_ | refine AnyI.i64 fun _ _ => ?_ | refine LetW.g ?_ | refine LetW.h ?_ | refine Ite.t fun _ => ?_ | refine Ite.f fun _ => ?_ | refine Ite.decide (fun _ => ?_) fun _ => ?_ | refine Ite.bool (fun _ => ?_) fun _ => ?_ | refine And.intro ?_ ?_) | omega | simp (maxSteps := 1000000) only [go_sem, reduceCtorEq, Nat.reduceLT, Nat.reduceLeDiff, reduceIte, ↓reduceIte, Nat.reduceEqDiff, Nat.reduceAdd, Nat.reduceMul, Nat.reduceSub, Int.reduceLE, Int.reduceLT, Int.reduceNeg, Int.reduceToNat])
  refine Ret.auto 0 ?_ rfl ?_ <;> simp only [go_sem, reduceCtorEq, reduceIte, Nat.reduceEqDiff, Nat.reduceLT, Nat.reduceLeDiff, Int.natCast_succ, Post]
theorem refStretch1_ok (w h : Nat) (hw : w ≤ 4000) (hh : h ≤ 4000) (p : List Int) (hp : p.length = w * h) (hb : ∀ x, x ∈ p → 0 ≤ x ∧ x ≤ 255) (lo hi : Int) (hl : 0 ≤ lo ∧ lo < hi ∧ hi ≤ 255) (x y : Nat) (hx : x < w) (hy : y < h) :
    FnOk Tryd.prog 66 [.int .i64 x, .int .i64 y, .cell [.int .i64 w, .int .i64 h, .ro (.ints .u8 p)], .cell [.int .i64 lo], .cell [.int .i64 hi]] (.int .u8 (strV lo hi (p.getD (y * w + x) 0))) [] := by
  have b1 : y * w + w ≤ h * w := by rw [← Nat.succ_mul]; exact Nat.mul_le_mul_right _ (by omega)
  have b2 : h * w ≤ 4000 * 4000 := Nat.mul_le_mul hh hw
  have b3 : w * h = h * w := Nat.mul_comm _ _
  have hv := getD_bd hb (by omega) (by omega) (y * w + x)
  generalize hx2 : p.getD (y * w + x) 0 = v at *
  have hcl : clampV lo hi v = min (max v lo) hi := rfl
  have k := round_ok ((clampV lo hi v - lo) * 255) (hi - lo) (by omega) (by omega)
  have e : rnd ((clampV lo hi v - lo) * 255) (hi - lo) = strV lo hi v := rfl
  rw [e, hcl] at k
  have hr := strV_bd (x := v) hl.2.1
  generalize strV lo hi v = r at *
  refine FnOk.of_vc Tryd.func66 rfl (by decide) (by simp [Tryd.f66]) [.tmp 7] rfl fun w0 T0 _ => ?_
  simp only [Tryd.f66, argEnv]
  (repeat' first | with_reducible (first | refine Asm.intro fun _ => ?_ | refine Chk.g ?_ | refine AnyI.i64 fun _ _ => ?_ | refine LetW.g ?_ | refine LetW.h ?_ | refine Ite.t fun _ => ?_ | refine Ite.f fun _ => ?_ | refine Ite.decide (fun _ => ?_) fun _ => ?_ | refine Ite.bool (fun _ => ?_) fun _ => ?_ | refine And.intro ?_ ?_) | omega | simp (maxSteps := 1000000) only [go_sem, reduceCtorEq, Nat.reduceLT, Nat.reduceLeDiff, reduceIte, ↓reduceIte, Nat.reduceEqDiff, Nat.reduceAdd, Nat.reduceMul, Nat.reduceSub, Int.reduceLE, Int.reduceLT, Int.reduceNeg, Int.reduceToNat])
  refine VcDraw.lex [] [] (by kernel_rfl) (by kernel_rfl) ?_
  (repeat' first | with_reducible (first | refine Asm.intro fun _ => ?_ | refine Chk.g ?_ | refine AnyI.i64 fun _ _ => ?_ | refine LetW.g ?_ | refine LetW.h ?_ | refine Ite.t fun _ => ?_ | refine Ite.f fun _ => ?_ | refine Ite.decide (fun _ => ?_) fun _ => ?_ | refine Ite.bool (fun _ => ?_) fun _ => ?_ | refine And.intro ?_ ?_) | omega | simp (maxSteps := 1000000) only [go_sem, reduceCtorEq, Nat.reduceLT, Nat.reduceLeDiff, reduceIte, ↓reduceIte, Nat.reduceEqDiff, Nat.reduceAdd, Nat.reduceMul, Nat.reduceSub, Int.reduceLE, Int.reduceLT, Int.reduceNeg, Int.reduceToNat, up_mul, up_add, Int.toNat_natCast, hx2, minmax])
  refine VcCall.fr (FnFr.of_ok (k) rfl rfl) (by simp only [noIdR_ok, argOkL, argOk, allOk, argOkN, List.drop_zero, lk, reduceIte, reduceCtorEq, Nat.reduceEqDiff, Option.some.injEq, Item.row.injEq, Item.box.injEq, AV.ro.injEq, exists_eq_left, exists_and_left, exists_eq_left', exists_eq_right, and_assoc, and_true, true_and, List.cons.injEq, exists_eq', exists_eq]) 0 rfl (by simp [rowsB]) ?_
  (repeat' first | with_reducible (first | refine Asm.intro fun _ => ?_ | refine Chk.g ?_ | refine AnyI.i64 fun _ _ => ?_ | refine LetW.g ?_ | refine LetW.h ?_ | refine Ite.t fun _ => ?_ | refine Ite.f fun _ => ?_ | refine Ite.decide (fun _ => ?_) fun _ => ?_ | refine Ite.bool (fun _ => ?_) fun _ => ?_ | refine And.intro ?_ ?_) | omega | simp (maxSteps := 1000000) only [go_sem, reduceCtorEq, Nat.reduceLT, Nat.reduceLeDiff, reduceIte, ↓reduceIte, Nat.reduceEqDiff, Nat.reduceAdd, Nat.reduceMul, Nat.reduceSub, Int.reduceLE, Int.reduceLT, Int.reduceNeg, Int.reduceToNat])
  refine Ret.auto 0 ?_ rfl ?_ <;> simp only [go_sem, reduceCtorEq, reduceIte, Nat.reduceEqDiff, Nat.reduceLT, Nat.reduceLeDiff, Int.natCast_succ, Post]
set_option maxHeartbeats 4000000 in
theorem stretch_ok (w h : Nat) (hw1 : 1 ≤ w) (hw : w ≤ 1000) (hh1 : 1 ≤ h) (hh : h ≤ 1000) (p : List Int) (hp : p.length = w * h) (hb : ∀ x, x ∈ p → 0 ≤ x ∧ x ≤ 255) (lo hi : Int) (hl : 0 ≤ lo ∧ lo < hi ∧ hi ≤ 255) :
    FnOk Tryd.prog 28 [.agg [.int .i64 w, .int .i64 h, .ro (.ints .u8 p)], .int .i64 lo, .int .i64 hi] (.tup [.agg [.int .i64 w, .int .i64 h, .own 0], .int .i64 0]) [(0, .row 5 (.ints .u8 ((List.range (w * h)).map fun i => strV lo hi (p.getD i 0))))] := by
  haveI c1 : CapsOk [.cell [.int .i64 w, .int .i64 h, .ro (.ints .u8 p)], .cell [.int .i64 lo], .cell [.int .i64 hi]] := ⟨rfl⟩
  have k1 := gray_ok w h (by omega) (by omega) 64 [.cell [.int .i64 w, .int .i64 h, .ro (.ints .u8 p)], .cell [.int .i64 lo], .cell [.int .i64 hi]] (fun i => strV lo hi (p.getD i 0)) (fun i _ => strV_bd hl.2.1) (fun i hi' => FnFr.of_ok (stretch1_ok w h p hb lo hi hl i (by omega)) rfl rfl)
  generalize (List.range (w * h)).map (fun i => strV lo hi (p.getD i 0)) = R at *
  refine FnOk.of_vc Tryd.func28 rfl (by decide) (by simp [Tryd.f28]) [.cell 6 59, .tmp 7] rfl fun w0 T0 _ => ?_
  simp only [Tryd.f28, argEnv]
  (repeat' first | with_reducible (first | refine Asm.intro fun _ => ?_ | refine Chk.g ?_ | refine AnyI.i64 fun _ _ => ?_ | refine LetW.g ?_ | refine LetW.h ?_ | refine Ite.t fun _ => ?_ | refine Ite.f fun _ => ?_ | refine Ite.decide (fun _ => ?_) fun _ => ?_ | refine Ite.bool (fun _ => ?_) fun _ => ?_ | refine And.intro ?_ ?_) | omega | simp (maxSteps := 1000000) only [go_sem, reduceCtorEq, Nat.reduceLT, Nat.reduceLeDiff, reduceIte, ↓reduceIte, Nat.reduceEqDiff, Nat.reduceAdd, Nat.reduceMul, Nat.reduceSub, Int.reduceLE, Int.reduceLT, Int.reduceNeg, Int.reduceToNat])
  refine VcCall.fr (FnFr.of_ok (checkGray_ok w h p) rfl rfl) (by simp only [noIdR_ok, argOkL, argOk, allOk, argOkN, List.drop_zero, lk, reduceIte, reduceCtorEq, Nat.reduceEqDiff, Option.some.injEq, Item.row.injEq, Item.box.injEq, AV.ro.injEq, exists_eq_left, exists_and_left, exists_eq_left', exists_eq_right, and_assoc, and_true, true_and, List.cons.injEq, exists_eq', exists_eq]) 0 rfl (by simp [rowsB]) ?_
  rw [grayErr_ok hw1 hw hh1 hh hp]
  (repeat' first | with_reducible (first | refine Asm.intro fun _ => ?_ | refine Chk.g ?_ | refine AnyI.i64 fun _ _ => ?_ | refine LetW.g ?_ | refine LetW.h ?_ | refine Ite.t fun _ => ?_ | refine Ite.f fun _ => ?_ | refine Ite.decide (fun _ => ?_) fun _ => ?_ | refine Ite.bool (fun _ => ?_) fun _ => ?_ | refine And.intro ?_ ?_) | omega | simp (maxSteps := 1000000) only [go_sem, reduceCtorEq, Nat.reduceLT, Nat.reduceLeDiff, reduceIte, ↓reduceIte, Nat.reduceEqDiff, Nat.reduceAdd, Nat.reduceMul, Nat.reduceSub, Int.reduceLE, Int.reduceLT, Int.reduceNeg, Int.reduceToNat])
  refine VcCall.fr (FnFr.of_ok k1 rfl rfl) (by simp only [noIdR_ok, argOkL, argOk, allOk, argOkN, List.drop_zero, lk, reduceIte, reduceCtorEq, Nat.reduceEqDiff, Option.some.injEq, Item.row.injEq, Item.box.injEq, AV.ro.injEq, exists_eq_left, exists_and_left, exists_eq_left', exists_eq_right, and_assoc, and_true, true_and, List.cons.injEq, exists_eq', exists_eq]) 1 rfl (by simp [rowsB, Item.below, Fv.below, belowL]) ?_
  (repeat' first | with_reducible (first | refine Asm.intro fun _ => ?_ | refine Chk.g ?_ | refine AnyI.i64 fun _ _ => ?_ | refine LetW.g ?_ | refine LetW.h ?_ | refine Ite.t fun _ => ?_ | refine Ite.f fun _ => ?_ | refine Ite.decide (fun _ => ?_) fun _ => ?_ | refine Ite.bool (fun _ => ?_) fun _ => ?_ | refine And.intro ?_ ?_) | omega | simp (maxSteps := 1000000) only [go_sem, reduceCtorEq, Nat.reduceLT, Nat.reduceLeDiff, reduceIte, ↓reduceIte, Nat.reduceEqDiff, Nat.reduceAdd, Nat.reduceMul, Nat.reduceSub, Int.reduceLE, Int.reduceLT, Int.reduceNeg, Int.reduceToNat])
  refine Ret.auto 1 ?_ rfl ?_ <;> simp only [go_sem, reduceCtorEq, reduceIte, Nat.reduceEqDiff, Nat.reduceLT, Nat.reduceLeDiff, Int.natCast_succ, Post, List.drop_zero]
  all_goals simp (maxSteps := 1000000) only [go_sem, reduceCtorEq, Nat.reduceLT, Nat.reduceLeDiff, reduceIte, ↓reduceIte, Nat.reduceEqDiff, Nat.reduceAdd, Nat.reduceMul, Nat.reduceSub, Int.reduceLE, Int.reduceLT, Int.reduceNeg, Int.reduceToNat]
def strE (lo hi : Int) : Int := if lo < 0 ∨ 255 < lo ∨ hi < 0 ∨ 255 < hi then 3 else if hi ≤ lo then 7 else 0
set_option maxHeartbeats 4000000 in
theorem stretch_err (w h : Nat) (hw1 : 1 ≤ w) (hw : w ≤ 1000) (hh1 : 1 ≤ h) (hh : h ≤ 1000) (p : List Int) (hp : p.length = w * h) (lo hi : Int) (hl : strE lo hi ≠ 0) :
    FnOk Tryd.prog 28 [.agg [.int .i64 w, .int .i64 h, .ro (.ints .u8 p)], .int .i64 lo, .int .i64 hi] (.tup [.agg [.int .i64 0, .int .i64 0, .nilS], .int .i64 (strE lo hi)]) [] := by
  unfold strE at hl ⊢
  by_cases hr : lo < 0 ∨ 255 < lo ∨ hi < 0 ∨ 255 < hi
  all_goals
    first | rw [if_pos hr] at hl ⊢ | rw [if_neg hr] at hl ⊢
    refine FnOk.of_vc Tryd.func28 rfl (by decide) (by simp [Tryd.f28]) [.cell 6 59, .tmp 7] rfl fun w0 T0 _ => ?_
    simp only [Tryd.f28, argEnv]
    (repeat' first | with_reducible (first | refine Asm.intro fun _ => ?_ | refine Chk.g ?_ | refine AnyI.i64 fun _ _ => ?_ | refine LetW.g ?_ | refine LetW.h ?_ | refine Ite.t fun _ => ?_ | refine Ite.f fun _ => ?_ | refine Ite.decide (fun _ => ?_) fun _ => ?_ | refine Ite.bool (fun _ => ?_) fun _ => ?_ | refine And.intro ?_ ?_) | omega | simp (maxSteps := 1000000) only [go_sem, reduceCtorEq, Nat.reduceLT, Nat.reduceLeDiff, reduceIte, ↓reduceIte, Nat.reduceEqDiff, Nat.reduceAdd, Nat.reduceMul, Nat.reduceSub, Int.reduceLE, Int.reduceLT, Int.reduceNeg, Int.reduceToNat])
    refine VcCall.fr (FnFr.of_ok (checkGray_ok w h p) rfl rfl) (by simp only [noIdR_ok, argOkL, argOk, allOk, argOkN, List.drop_zero, lk, reduceIte, reduceCtorEq, Nat.reduceEqDiff, Option.some.injEq, Item.row.injEq, Item.box.injEq, AV.ro.injEq, exists_eq_left, exists_and_left, exists_eq_left', exists_eq_right, and_assoc, and_true, true_and, List.cons.injEq, exists_eq', exists_eq]) 0 rfl (by simp [rowsB]) ?_
    rw [grayErr_ok hw1 hw hh1 hh hp]
    (repeat' first | with_reducible (first | refine Asm.intro fun _ => ?_ | refine Chk.g ?_ | refine AnyI.i64 fun _ _ => ?_ | refine LetW.g ?_ | refine LetW.h ?_ | refine Ite.t fun _ => ?_ | refine Ite.f fun _ => ?_ | refine Ite.decide (fun _ => ?_) fun _ => ?_ | refine Ite.bool (fun _ => ?_) fun _ => ?_ | refine And.intro ?_ ?_) | omega | simp (maxSteps := 1000000) only [go_sem, reduceCtorEq, Nat.reduceLT, Nat.reduceLeDiff, reduceIte, ↓reduceIte, Nat.reduceEqDiff, Nat.reduceAdd, Nat.reduceMul, Nat.reduceSub, Int.reduceLE, Int.reduceLT, Int.reduceNeg, Int.reduceToNat])
    all_goals (try rw [if_pos (by omega)])
    all_goals refine Ret.auto 0 ?_ ?_ ?_ <;> simp only [go_sem, reduceCtorEq, reduceIte, Nat.reduceEqDiff, Nat.reduceLT, Nat.reduceLeDiff, Int.natCast_succ, Post, List.drop_zero]
set_option maxHeartbeats 4000000 in
theorem refStretch_ok (w h : Nat) (hw1 : 1 ≤ w) (hw : w ≤ 1000) (hh1 : 1 ≤ h) (hh : h ≤ 1000) (p : List Int) (hp : p.length = w * h) (hb : ∀ x, x ∈ p → 0 ≤ x ∧ x ≤ 255) (lo hi : Int) (hl : 0 ≤ lo ∧ lo < hi ∧ hi ≤ 255) :
    FnOk Tryd.prog 32 [.agg [.int .i64 w, .int .i64 h, .ro (.ints .u8 p)], .int .i64 lo, .int .i64 hi] (.agg [.int .i64 w, .int .i64 h, .own 0]) [(0, .row 5 (.ints .u8 ((List.range (w * h)).map fun i => strV lo hi (p.getD i 0))))] := by
  haveI c1 : CapsOk [.cell [.int .i64 w, .int .i64 h, .ro (.ints .u8 p)], .cell [.int .i64 lo], .cell [.int .i64 hi]] := ⟨rfl⟩
  have k1 := madeGray_ok w h (by omega) (by omega) 66 [.cell [.int .i64 w, .int .i64 h, .ro (.ints .u8 p)], .cell [.int .i64 lo], .cell [.int .i64 hi]] (fun x y => strV lo hi (p.getD (y * w + x) 0)) (fun x y hx hy => FnFr.of_ok (refStretch1_ok w h (by omega) (by omega) p hp hb lo hi hl x y hx hy) rfl rfl)
  rw [rows_range w h (fun i => strV lo hi (p.getD i 0))] at k1
  generalize (List.range (w * h)).map (fun i => strV lo hi (p.getD i 0)) = R at *
  refine FnOk.of_vc Tryd.func32 rfl (by decide) (by simp [Tryd.f32]) [.cell 6 59] rfl fun w0 T0 _ => ?_
  simp only [Tryd.f32, argEnv]
  (repeat' first | with_reducible (first | refine Asm.intro fun _ => ?_ | refine Chk.g ?_ | refine AnyI.i64 fun _ _ => ?_ | refine LetW.g ?_ | refine LetW.h ?_ | refine Ite.t fun _ => ?_ | refine Ite.f fun _ => ?_ | refine Ite.decide (fun _ => ?_) fun _ => ?_ | refine Ite.bool (fun _ => ?_) fun _ => ?_ | refine And.intro ?_ ?_) | omega | simp (maxSteps := 1000000) only [go_sem, reduceCtorEq, Nat.reduceLT, Nat.reduceLeDiff, reduceIte, ↓reduceIte, Nat.reduceEqDiff, Nat.reduceAdd, Nat.reduceMul, Nat.reduceSub, Int.reduceLE, Int.reduceLT, Int.reduceNeg, Int.reduceToNat])
  refine VcCall.fr (FnFr.of_ok k1 rfl rfl) (by simp only [noIdR_ok, argOkL, argOk, allOk, argOkN, List.drop_zero, lk, reduceIte, reduceCtorEq, Nat.reduceEqDiff, Option.some.injEq, Item.row.injEq, Item.box.injEq, AV.ro.injEq, exists_eq_left, exists_and_left, exists_eq_left', exists_eq_right, and_assoc, and_true, true_and, List.cons.injEq, exists_eq', exists_eq]) 1 rfl (by simp [rowsB, Item.below, Fv.below, belowL]) ?_
  (repeat' first | with_reducible (first | refine Asm.intro fun _ => ?_ | refine Chk.g ?_ | refine AnyI.i64 fun _ _ => ?_ | refine LetW.g ?_ | refine LetW.h ?_ | refine Ite.t fun _ => ?_ | refine Ite.f fun _ => ?_ | refine Ite.decide (fun _ => ?_) fun _ => ?_ | refine Ite.bool (fun _ => ?_) fun _ => ?_ | refine And.intro ?_ ?_) | omega | simp (maxSteps := 1000000) only [go_sem, reduceCtorEq, Nat.reduceLT, Nat.reduceLeDiff, reduceIte, ↓reduceIte, Nat.reduceEqDiff, Nat.reduceAdd, Nat.reduceMul, Nat.reduceSub, Int.reduceLE, Int.reduceLT, Int.reduceNeg, Int.reduceToNat])
  refine Ret.auto 1 ?_ rfl ?_ <;> simp only [go_sem, reduceCtorEq, reduceIte, Nat.reduceEqDiff, Nat.reduceLT, Nat.reduceLeDiff, Int.natCast_succ, Post, List.drop_zero]
  all_goals simp (maxSteps := 1000000) only [go_sem, reduceCtorEq, Nat.reduceLT, Nat.reduceLeDiff, reduceIte, ↓reduceIte, Nat.reduceEqDiff, Nat.reduceAdd, Nat.reduceMul, Nat.reduceSub, Int.reduceLE, Int.reduceLT, Int.reduceNeg, Int.reduceToNat]
end Go.Fv.M

/-! Shadows: the greatest value of each square, by maps with any keys. -/
namespace Go.Fv.M
open Go
set_option linter.unusedSimpArgs false
set_option linter.unusedVariables false

/-- The cells below n. -/
def evL {α : Type} (K : Nat → α) (q : Nat → Int) (n : Nat) : List (α × Int) := (List.range n).map fun i => (K i, q i)
theorem evL_succ {α : Type} (K : Nat → α) (q : Nat → Int) (n : Nat) : evL K q (n + 1) = evL K q n ++ [(K n, q n)] := by simp [evL, List.range_succ]
section
variable {α β : Type} [DecidableEq α] [DecidableEq β]
def uqG (l : List α) : List α := l.foldl insE []
theorem uqG_snoc (l : List α) (r : α) : uqG (l ++ [r]) = insE (uqG l) r := by simp [uqG, List.foldl_append]
theorem mem_foldl_insG : ∀ (l s : List α) (x : α), x ∈ l.foldl insE s ↔ x ∈ s ∨ x ∈ l
  | [], s, x => by simp
  | y :: l, s, x => by simp only [List.foldl_cons]; rw [mem_foldl_insG l, mem_insE, List.mem_cons, or_assoc]
theorem mem_uqG {l : List α} {x : α} : x ∈ uqG l ↔ x ∈ l := by unfold uqG; rw [mem_foldl_insG]; simp
theorem insG_nodup {s : List α} {x : α} (h : s.Nodup) : (insE s x).Nodup := by
  unfold insE; split
  · exact h
  · rename_i hx
    rw [List.nodup_append]
    refine ⟨h, by simp, ?_⟩
    intro a ha b hb e
    simp only [List.mem_singleton] at hb
    subst hb; subst e; exact hx ha
theorem foldl_insG_nodup : ∀ (l s : List α), s.Nodup → (l.foldl insE s).Nodup
  | [], s, h => h
  | y :: l, s, h => foldl_insG_nodup l _ (insG_nodup h)
theorem uqG_nodup (l : List α) : (uqG l).Nodup := foldl_insG_nodup l [] List.nodup_nil
/-- The light at a key, of cells with keys and values. -/
def lvV (l : List (α × Int)) (k : α) : Int := l.foldl (fun m e => if e.1 = k then max (max m e.2) 1 else m) 0
theorem lvV_snoc (l : List (α × Int)) (r : α) (v : Int) (k : α) : lvV (l ++ [(r, v)]) k = if r = k then max (max (lvV l k) v) 1 else lvV l k := by simp [lvV, List.foldl_append]
theorem foldl_lv_none (k : α) : ∀ (l : List (α × Int)) (m : Int), k ∉ l.map Prod.fst → l.foldl (fun m e => if e.1 = k then max (max m e.2) 1 else m) m = m
  | [], m, _ => rfl
  | e :: l, m, h => by
    simp only [List.map_cons, List.mem_cons, not_or] at h
    rw [List.foldl_cons, if_neg (fun h2 => h.1 h2.symm)]
    exact foldl_lv_none k l m h.2
theorem lvV_none {l : List (α × Int)} {k : α} (h : k ∉ l.map Prod.fst) : lvV l k = 0 := foldl_lv_none k l 0 h
def mKs (f : α → AV) (l : List (α × Int)) : List AV := (uqG (l.map Prod.fst)).map f
def mVs (l : List (α × Int)) : List AV := (uqG (l.map Prod.fst)).map fun k => .int .i64 (lvV l k)
theorem getI_m {f : α → AV} (hf : ∀ a b, eqKey (f a) (f b) = decide (a = b)) (l : List (α × Int)) (r : α) : getI (mKs f l) (mVs l) (f r) = lvV l r := by
  unfold getI getV mKs mVs
  rw [keyIdx_map hf]
  cases h : ixOf (uqG (l.map Prod.fst)) r with
  | none => simp [lvV_none (fun hm => ixOf_none.1 h (mem_uqG.2 hm))]
  | some j => simp [ixOf_some h]
theorem updKs_m {f : α → AV} (hf : ∀ a b, eqKey (f a) (f b) = decide (a = b)) (l : List (α × Int)) (r : α) (v : Int) : updKs (mKs f l) (f r) = mKs f (l ++ [(r, v)]) := by
  unfold mKs; rw [updKs_set hf, List.map_append, List.map_cons, List.map_nil, uqG_snoc]
theorem updVs_m {f : α → AV} (hf : ∀ a b, eqKey (f a) (f b) = decide (a = b)) (l : List (α × Int)) (r : α) (v : Int) : updVs (mKs f l) (mVs l) (f r) (.int .i64 (max (max (lvV l r) v) 1)) = mVs (l ++ [(r, v)]) := by
  unfold updVs mKs mVs
  rw [keyIdx_map hf, List.map_append, List.map_cons, List.map_nil, uqG_snoc]
  cases h : ixOf (uqG (l.map Prod.fst)) r with
  | none =>
    have hn := ixOf_none.1 h
    unfold insE
    rw [if_neg hn]
    simp only [List.map_append, List.map_cons, List.map_nil]
    congr 1
    · refine List.map_congr_left fun k hk => ?_
      rw [lvV_snoc, if_neg (fun e => hn (by rw [e]; exact hk))]
    · rw [lvV_snoc, if_pos rfl]
  | some j =>
    have hj := ixOf_some h
    have hm := List.mem_of_getElem? hj
    unfold insE
    rw [if_pos hm]
    refine List.ext_getElem? fun i => ?_
    show (((uqG (l.map Prod.fst)).map fun k => AV.int .i64 (lvV l k)).set j _)[i]? = _
    rw [List.getElem?_set]
    by_cases e : j = i
    · subst e
      have hlt := (List.getElem?_eq_some_iff.1 hj).1
      simp only [List.length_map, hlt, reduceIte, List.getElem?_map, hj, Option.map_some]
      rw [lvV_snoc, if_pos rfl]
    · rw [if_neg e, List.getElem?_map, List.getElem?_map]
      cases hi : (uqG (l.map Prod.fst))[i]? with
      | none => rfl
      | some k =>
        simp only [Option.map_some]
        rw [lvV_snoc, if_neg]
        intro ek
        subst ek
        obtain ⟨a1, a2⟩ := List.getElem?_eq_some_iff.1 hj
        obtain ⟨b1, b2⟩ := List.getElem?_eq_some_iff.1 hi
        exact e ((List.getElem_inj (uqG_nodup (l.map Prod.fst))).1 (a2.trans b2.symm))
theorem isI_m (l : List (α × Int)) : (mVs l).all (isI .i64) = true := by simp [mVs, isI]
theorem ren_mKs {f : α → AV} (hf : ∀ a, noId (f a) = true) (p : Nat → Nat) (l : List (α × Int)) : renL p (mKs f l) = mKs f l := renL_kmap p hf _
theorem ren_mVs (p : Nat → Nat) (l : List (α × Int)) : renL p (mVs l) = mVs l := renL_kmap p (fun _ => rfl) _
theorem below_mKs {f : α → AV} (hf : ∀ a, noId (f a) = true) (n : Nat) (l : List (α × Int)) : belowL n (mKs f l) = true := belowL_kmap n hf _
theorem below_mVs (n : Nat) (l : List (α × Int)) : belowL n (mVs l) = true := belowL_kmap n (fun _ => rfl) _
theorem mk_mKs {f : α → AV} (hf : ∀ a, noId (f a) = true) (l : List (α × Int)) (y : List AV) : mkL (mKs f l) y = [] := mkL_kmap hf _ _
theorem mk_mVs (l : List (α × Int)) (y : List AV) : mkL (mVs l) y = [] := mkL_kmap (fun _ => rfl) _ _
theorem lvV_eq (K : Nat → α) (K' : Nat → β) (q : Nat → Int) (j : Nat) : ∀ n : Nat, (∀ i, i < n → (K i = K j ↔ K' i = K' j)) → lvV (evL K q n) (K j) = lvV (evL K' q n) (K' j)
  | 0, _ => rfl
  | n + 1, h => by
    rw [evL_succ, evL_succ, lvV_snoc, lvV_snoc, lvV_eq K K' q j n fun i hi => h i (by omega)]
    by_cases e : K n = K j
    · rw [if_pos e, if_pos ((h n (by omega)).1 e)]
    · rw [if_neg e, if_neg fun e' => e ((h n (by omega)).2 e')]
theorem lvV_bd (K : Nat → α) (q : Nat → Int) (hq : ∀ i, 0 ≤ q i ∧ q i ≤ 255) (k : α) : ∀ n : Nat, 0 ≤ lvV (evL K q n) k ∧ lvV (evL K q n) k ≤ 255
  | 0 => ⟨Int.le_refl 0, show (0 : Int) ≤ 255 by decide⟩
  | n + 1 => by
    have ih := lvV_bd K q hq k n
    have := hq n
    rw [evL_succ, lvV_snoc]
    split <;> omega
theorem lvV_ge (K : Nat → α) (q : Nat → Int) (k : α) : ∀ (n i : Nat), i < n → K i = k → q i ≤ lvV (evL K q n) k ∧ 1 ≤ lvV (evL K q n) k
  | n + 1, i, hi, e => by
    rw [evL_succ, lvV_snoc]
    by_cases hn : i = n
    · subst hn; rw [if_pos e]; omega
    · have ih := lvV_ge K q k n i (by omega) e
      split <;> omega
end
theorem renKI (p : Nat → Nat) (l : List (Int × Int)) : renL p (mKs (.int .i64) l) = mKs (.int .i64) l := ren_mKs (fun _ => rfl) p l
theorem belowKI (n : Nat) (l : List (Int × Int)) : belowL n (mKs (.int .i64) l) = true := below_mKs (fun _ => rfl) n l
theorem mkKI (l : List (Int × Int)) (y : List AV) : mkL (mKs (.int .i64) l) y = [] := mk_mKs (fun _ => rfl) l y
/-- A cell's square, as one number and as a pair. -/
def sqK (w s i : Nat) : Int := (i / w / s * ((w + s - 1) / s) + i % w / s : Nat)
def ptK (w s i : Nat) : Int × Int := ((i % w / s : Nat), (i / w / s : Nat))
def ptAV (k : Int × Int) : AV := .agg [.int .i64 k.1, .int .i64 k.2]
theorem renKP (p : Nat → Nat) (l : List ((Int × Int) × Int)) : renL p (mKs ptAV l) = mKs ptAV l := ren_mKs (fun _ => rfl) p l
theorem belowKP (n : Nat) (l : List ((Int × Int) × Int)) : belowL n (mKs ptAV l) = true := below_mKs (fun _ => rfl) n l
theorem mkKP (l : List ((Int × Int) × Int)) (y : List AV) : mkL (mKs ptAV l) y = [] := mk_mKs (fun _ => rfl) l y
theorem eqKeyI (a b : Int) : eqKey (.int .i64 a) (.int .i64 b) = decide (a = b) := by simp [eqKey]
theorem eqKeyPt (a b : Int × Int) : eqKey (ptAV a) (ptAV b) = decide (a = b) := by
  obtain ⟨a1, a2⟩ := a
  obtain ⟨b1, b2⟩ := b
  simp [ptAV, eqKey, eqKeys]
theorem sq_lt {w s i : Nat} (hw : 0 < w) (hs : 0 < s) : i % w / s < (w + s - 1) / s := by
  have h1 := Nat.mod_lt i hw
  have h2 : i % w / s ≤ (w - 1) / s := Nat.div_le_div_right (by omega)
  have h3 : (w + s - 1) / s = (w - 1) / s + 1 := by
    rw [show w + s - 1 = (w - 1) + s by omega, Nat.add_div_right _ hs]
  omega
theorem sqK_iff {w s : Nat} (hw : 0 < w) (hs : 0 < s) (i j : Nat) : sqK w s i = sqK w s j ↔ ptK w s i = ptK w s j := by
  have a1 := sq_lt (i := i) hw hs
  have a2 := sq_lt (i := j) hw hs
  unfold sqK ptK
  rw [Prod.mk.injEq, Int.ofNat_inj, Int.ofNat_inj, Int.ofNat_inj]
  generalize (w + s - 1) / s = ac at *
  generalize i / w / s = x at *
  generalize j / w / s = y at *
  generalize i % w / s = u at *
  generalize j % w / s = v at *
  constructor
  · intro h
    have e1 : (x * ac + u) % ac = u := by rw [Nat.add_comm, Nat.add_mul_mod_self_right, Nat.mod_eq_of_lt a1]
    have e2 : (y * ac + v) % ac = v := by rw [Nat.add_comm, Nat.add_mul_mod_self_right, Nat.mod_eq_of_lt a2]
    have e3 : (x * ac + u) / ac = x := by rw [Nat.add_comm, Nat.add_mul_div_right _ _ (by omega), Nat.div_eq_of_lt a1, Nat.zero_add]
    have e4 : (y * ac + v) / ac = y := by rw [Nat.add_comm, Nat.add_mul_div_right _ _ (by omega), Nat.div_eq_of_lt a2, Nat.zero_add]
    rw [h] at e1 e3
    exact ⟨e1.symm.trans e2, e3.symm.trans e4⟩
  · rintro ⟨rfl, rfl⟩; rfl
def evV (w h s : Nat) (p : List Int) (i : Nat) : Int := min (rnd (p.getD i 0 * 255) (lvV (evL (sqK w s) (fun i => p.getD i 0) (w * h)) (sqK w s i))) 255
theorem evV_pt {w h s : Nat} (hw : 0 < w) (hs : 0 < s) (p : List Int) (i : Nat) : evV w h s p i = min 255 (rnd (p.getD i 0 * 255) (lvV (evL (ptK w s) (fun i => p.getD i 0) (w * h)) (ptK w s i))) := by
  unfold evV
  rw [Int.min_comm, lvV_eq (sqK w s) (ptK w s) _ i (w * h) fun j _ => sqK_iff hw hs j i]
theorem argKI (rows : List (Nat × Item)) (n : Nat) (l : List (Int × Int)) : allOk (argOkN rows (n + 1)) (mKs (.int .i64) l) (mKs (.int .i64) l) := allOk_ints_same rows n .i64 id _
theorem argV {α : Type} [DecidableEq α] (rows : List (Nat × Item)) (n : Nat) (l : List (α × Int)) : allOk (argOkN rows (n + 1)) (mVs l) (mVs l) := allOk_ints_same rows n .i64 _ _
theorem argKP (rows : List (Nat × Item)) (n : Nat) (l : List ((Int × Int) × Int)) : allOk (argOkN rows (n + 2)) (mKs ptAV l) (mKs ptAV l) := allOk_get rfl fun j h1 h2 => by
  simp [mKs, ptAV, argOkN, allOk]
end Go.Fv.M

/-! Even and the reference's: the walk. -/
namespace Go.Fv.M
open Go Go.Proofs
set_option linter.unusedSimpArgs false
set_option linter.unusedVariables false
set_option linter.unnecessarySimpa false
set_option maxRecDepth 8000

theorem laidOutE : laidOutB Tryd.prog = true := by kernel_rfl
theorem keyedPt : Maps.Keyed Tryd.prog 34 := keyed_deep laidOutE (of_decide_eq_true (by kernel_rfl)) (by kernel_rfl) (by rw [Tryd.underlying34])
theorem keyTPt (k : Int × Int) : KeyT Tryd.prog 34 (ptAV k) := by
  obtain ⟨a, b⟩ := k
  refine ⟨rfl, fun hw => ?_⟩
  simp only [ptAV, wfA, wfAs] at hw
  obtain ⟨ha, hb, _⟩ := hw
  have hn : 1 ≤ Tryd.prog.types.size := of_decide_eq_true (by kernel_rfl)
  obtain ⟨n, hn'⟩ : ∃ n, Tryd.prog.types.size + 1 = n + 2 := ⟨Tryd.prog.types.size - 1, by omega⟩
  have hk : Tryd.prog.keyType 34 = true := by kernel_rfl
  have hc : Tryd.prog.cellsOf 34 = 2 := by kernel_rfl
  have hce : Tryd.prog.cellsOf 3 = 1 := by kernel_rfl
  have k1 : Tryd.prog.keyLits (n + 1) 3 [.int .i64 a] = some [.int .i64 a] := by
    unfold Program.keyLits; rw [Tryd.underlying3]; simpa [Lit.wf, InK] using ha
  have k2 : Tryd.prog.keyLits (n + 1) 3 [.int .i64 b] = some [.int .i64 b] := by
    unfold Program.keyLits; rw [Tryd.underlying3]; simpa [Lit.wf, InK] using hb
  have h1 : Tryd.prog.keyLits (n + 2) 34 [.int .i64 a, .int .i64 b] = some [.int .i64 a, .int .i64 b] := by
    unfold Program.keyLits
    rw [Tryd.underlying34]
    simp [hc, hce, k1, k2]
  have hf : Value.formed Tryd.prog 34 (valK (ptAV (a, b))) = true := by simp [ptAV, valK, valKs, Value.formed, Tryd.underlying34, hc]
  unfold keyOf
  rw [Tryd.underlying34]
  simp only [hk, hf, Bool.and_self, if_true]
  rw [hn']
  have hcells : (valK (ptAV (a, b))).cells.toList = [.int .i64 a, .int .i64 b] := by simp [ptAV, valK, valKs, Value.cells]
  rw [hcells, h1]
  exact ⟨_, rfl⟩
theorem keyTsPt (l : List (Int × Int)) : KeysT Tryd.prog 34 (l.map ptAV) := KeysT_map keyTPt l
theorem keysI (l : List Int) : KeysT Tryd.prog 3 (l.map (.int .i64)) := KeysT_map (fun n => KeyT.int (by kernel_rfl) n) l
theorem even1_ok (w h s : Nat) (hw1 : 1 ≤ w) (hw : w ≤ 1000) (hh : h ≤ 1000) (hs1 : 1 ≤ s) (hs : s ≤ 4000) (p : List Int) (i : Nat) (hi : i < w * h) :
    FnOk Tryd.prog 72 [.int .i64 i, .cell [.int .i64 w, .int .i64 h, .ro (.ints .u8 p)], .cell [.int .i64 s], .cell [.int .i64 ((w + s - 1) / s : Nat)]] (.int .i64 (sqK w s i)) [] := by
  have b1 : w * h ≤ 1000 * 1000 := Nat.mul_le_mul hw hh
  have b2 : i / w / s ≤ i := Nat.le_trans (Nat.div_le_self _ _) (Nat.div_le_self _ _)
  have b3 : (w + s - 1) / s ≤ 1000 + 4000 := Nat.le_trans (Nat.div_le_self _ _) (by omega)
  have b4 : i / w / s * ((w + s - 1) / s) ≤ (1000 * 1000) * (1000 + 4000) := Nat.mul_le_mul (by omega) b3
  have b5 : i % w / s ≤ i := Nat.le_trans (Nat.div_le_self _ _) (Nat.mod_le _ _)
  have d1 : (i : Int).tdiv w = ((i / w : Nat) : Int) := by rw [Int.tdiv_eq_ediv_of_nonneg (Int.natCast_nonneg _)]; rfl
  have d2 : ((i / w : Nat) : Int).tdiv s = ((i / w / s : Nat) : Int) := by rw [Int.tdiv_eq_ediv_of_nonneg (Int.natCast_nonneg _)]; rfl
  have d3 : (i : Int).tmod w = ((i % w : Nat) : Int) := by rw [Int.tmod_eq_emod_of_nonneg (Int.natCast_nonneg _)]; rfl
  have d4 : ((i % w : Nat) : Int).tdiv s = ((i % w / s : Nat) : Int) := by rw [Int.tdiv_eq_ediv_of_nonneg (Int.natCast_nonneg _)]; rfl
  have b6 : i / w ≤ i := Nat.div_le_self _ _
  have b7 : i % w ≤ i := Nat.mod_le _ _
  have e : sqK w s i = ((i / w / s * ((w + s - 1) / s) + i % w / s : Nat) : Int) := rfl
  rw [e]
  generalize (w + s - 1) / s = ac at *
  generalize i / w / s = x at *
  generalize i % w / s = y at *
  generalize i / w = x2 at *
  generalize i % w = y2 at *
  refine FnOk.of_vc Tryd.func72 rfl (by decide) (by simp [Tryd.f72]) [.tmp 5] rfl fun w0 T0 _ => ?_
  simp only [Tryd.f72, argEnv]
  (repeat' first | with_reducible (first | refine Asm.intro fun _ => ?_ | refine Chk.g ?_ | refine AnyI.i64 fun _ _ => ?_ | refine LetW.g ?_ | refine LetW.h ?_ | refine Ite.t fun _ => ?_ | refine Ite.f fun _ => ?_ | refine Ite.decide (fun _ => ?_) fun _ => ?_ | refine Ite.bool (fun _ => ?_) fun _ => ?_ | refine And.intro ?_ ?_) | omega | simp (maxSteps := 1000000) only [go_sem, reduceCtorEq, Nat.reduceLT, Nat.reduceLeDiff, reduceIte, ↓reduceIte, Nat.reduceEqDiff, Nat.reduceAdd, Nat.reduceMul, Nat.reduceSub, Int.reduceLE, Int.reduceLT, Int.reduceNeg, Int.reduceToNat])
  refine VcDraw.lex [] [] (by kernel_rfl) (by kernel_rfl) ?_
  (repeat' first | with_reducible (first | refine Asm.intro fun _ => ?_ | refine Chk.g ?_ | refine AnyI.i64 fun _ _ => ?_ | refine LetW.g ?_ | refine LetW.h ?_ | refine Ite.t fun _ => ?_ | refine Ite.f fun _ => ?_ | refine Ite.decide (fun _ => ?_) fun _ => ?_ | refine Ite.bool (fun _ => ?_) fun _ => ?_ | refine And.intro ?_ ?_) | omega | simp (maxSteps := 1000000) only [go_sem, reduceCtorEq, Nat.reduceLT, Nat.reduceLeDiff, reduceIte, ↓reduceIte, Nat.reduceEqDiff, Nat.reduceAdd, Nat.reduceMul, Nat.reduceSub, Int.reduceLE, Int.reduceLT, Int.reduceNeg, Int.reduceToNat, d1, d2, d3, d4, up_mul, up_add])
  refine Ret.auto 0 ?_ rfl ?_ <;> simp only [go_sem, reduceCtorEq, reduceIte, Nat.reduceEqDiff, Nat.reduceLT, Nat.reduceLeDiff, Int.natCast_succ, Post]

theorem even2_ok (w h s : Nat) (hw1 : 1 ≤ w) (hw : w ≤ 1000) (hh : h ≤ 1000) (hs1 : 1 ≤ s) (hs : s ≤ 4000) (p : List Int) (hp : p.length = w * h) (hb : ∀ x, x ∈ p → 0 ≤ x ∧ x ≤ 255) (i : Nat) (hi : i < w * h) :
    FnOk Tryd.prog 73 [.int .i64 i, .cell [.int .i64 w, .int .i64 h, .ro (.ints .u8 p)], .cell [.mp (mKs (.int .i64) (evL (sqK w s) (fun i => p.getD i 0) (w * h))) (mVs (evL (sqK w s) (fun i => p.getD i 0) (w * h)))], .cell [.fn 72 [.cell [.int .i64 w, .int .i64 h, .ro (.ints .u8 p)], .cell [.int .i64 s], .cell [.int .i64 ((w + s - 1) / s : Nat)]]]] (.int .i64 (evV w h s p i)) [] := by
  have hq : ∀ i, 0 ≤ (fun i => p.getD i 0) i ∧ (fun i => p.getD i 0) i ≤ 255 := fun i => getD_bd hb (by omega) (by omega) i
  have g1 := lvV_bd (sqK w s) (fun i => p.getD i 0) hq (sqK w s i) (w * h)
  have g2 := lvV_ge (sqK w s) (fun i => p.getD i 0) (sqK w s i) (w * h) i hi rfl
  have g3 := getI_m eqKeyI (evL (sqK w s) (fun i => p.getD i 0) (w * h)) (sqK w s i)
  have g4 : KeysT Tryd.prog 3 (mKs (.int .i64) (evL (sqK w s) (fun i => p.getD i 0) (w * h))) := keysI _
  have g5 := isI_m (evL (sqK w s) (fun i => p.getD i 0) (w * h))
  have hv := hq i
  have ke := even1_ok w h s hw1 hw hh hs1 hs p i hi
  unfold evV
  dsimp only at g2 hv
  generalize evL (sqK w s) (fun i => p.getD i 0) (w * h) = L at *
  generalize hsk : sqK w s i = k at *
  generalize hx : p.getD i 0 = x at *
  have k2 := rounded_ok (x * 255) (lvV L k) (by omega) (by omega)
  generalize lvV L k = l at *
  generalize rnd (x * 255) l = r at *
  refine FnOk.of_vc Tryd.func73 rfl (by decide) (by simp [Tryd.f73]) [.tmp 5] rfl fun w0 T0 _ => ?_
  simp only [Tryd.f73, argEnv]
  (repeat' first | with_reducible (first | refine Asm.intro fun _ => ?_ | refine Chk.g ?_ | refine AnyI.i64 fun _ _ => ?_ | refine LetW.g ?_ | refine LetW.h ?_ | refine Ite.t fun _ => ?_ | refine Ite.f fun _ => ?_ | refine Ite.decide (fun _ => ?_) fun _ => ?_ | refine Ite.bool (fun _ => ?_) fun _ => ?_ | refine And.intro ?_ ?_) | omega | simp (maxSteps := 1000000) only [go_sem, reduceCtorEq, Nat.reduceLT, Nat.reduceLeDiff, reduceIte, ↓reduceIte, Nat.reduceEqDiff, Nat.reduceAdd, Nat.reduceMul, Nat.reduceSub, Int.reduceLE, Int.reduceLT, Int.reduceNeg, Int.reduceToNat])
  refine VcDraw.lex [] [] (by kernel_rfl) (by kernel_rfl) ?_
  (repeat' first | with_reducible (first | refine Asm.intro fun _ => ?_ | refine Chk.g ?_ | refine AnyI.i64 fun _ _ => ?_ | refine LetW.g ?_ | refine LetW.h ?_ | refine Ite.t fun _ => ?_ | refine Ite.f fun _ => ?_ | refine Ite.decide (fun _ => ?_) fun _ => ?_ | refine Ite.bool (fun _ => ?_) fun _ => ?_ | refine And.intro ?_ ?_) | omega | simp (maxSteps := 1000000) only [go_sem, reduceCtorEq, Nat.reduceLT, Nat.reduceLeDiff, reduceIte, ↓reduceIte, Nat.reduceEqDiff, Nat.reduceAdd, Nat.reduceMul, Nat.reduceSub, Int.reduceLE, Int.reduceLT, Int.reduceNeg, Int.reduceToNat, Int.toNat_natCast, hx])
  refine QV.intro (.int .i64 k) ?_ ?_
  · (repeat' first | with_reducible (first | refine Asm.intro fun _ => ?_ | refine Chk.g ?_ | refine AnyI.i64 fun _ _ => ?_ | refine LetW.g ?_ | refine LetW.h ?_ | refine Ite.t fun _ => ?_ | refine Ite.f fun _ => ?_ | refine Ite.decide (fun _ => ?_) fun _ => ?_ | refine Ite.bool (fun _ => ?_) fun _ => ?_ | refine And.intro ?_ ?_) | omega | simp (maxSteps := 1000000) only [go_sem, reduceCtorEq, Nat.reduceLT, Nat.reduceLeDiff, reduceIte, ↓reduceIte, Nat.reduceEqDiff, Nat.reduceAdd, Nat.reduceMul, Nat.reduceSub, Int.reduceLE, Int.reduceLT, Int.reduceNeg, Int.reduceToNat])
    refine VcCall.fr (FnFr.of_ok ke rfl rfl) (by simp only [noIdR_ok, argOkL, argOk, allOk, argOkN, List.drop_zero, lk, reduceIte, reduceCtorEq, Nat.reduceEqDiff, Option.some.injEq, Item.row.injEq, Item.box.injEq, AV.ro.injEq, exists_eq_left, exists_and_left, exists_eq_left', exists_eq_right, and_assoc, and_true, true_and, List.cons.injEq, exists_eq', exists_eq]) 0 rfl (by simp [rowsB]) ?_
    (repeat' first | with_reducible (first | refine Asm.intro fun _ => ?_ | refine Chk.g ?_ | refine AnyI.i64 fun _ _ => ?_ | refine LetW.g ?_ | refine LetW.h ?_ | refine Ite.t fun _ => ?_ | refine Ite.f fun _ => ?_ | refine Ite.decide (fun _ => ?_) fun _ => ?_ | refine Ite.bool (fun _ => ?_) fun _ => ?_ | refine And.intro ?_ ?_) | omega | simp (maxSteps := 1000000) only [go_sem, reduceCtorEq, Nat.reduceLT, Nat.reduceLeDiff, reduceIte, ↓reduceIte, Nat.reduceEqDiff, Nat.reduceAdd, Nat.reduceMul, Nat.reduceSub, Int.reduceLE, Int.reduceLT, Int.reduceNeg, Int.reduceToNat])
  (repeat' first | with_reducible (first | refine Asm.intro fun _ => ?_ | refine Chk.g ?_ | refine AnyI.i64 fun _ _ => ?_ | refine LetW.g ?_ | refine LetW.h ?_ | refine Ite.t fun _ => ?_ | refine Ite.f fun _ => ?_ | refine Ite.decide (fun _ => ?_) fun _ => ?_ | refine Ite.bool (fun _ => ?_) fun _ => ?_ | refine And.intro ?_ ?_) | omega | simp (maxSteps := 1000000) only [go_sem, reduceCtorEq, Nat.reduceLT, Nat.reduceLeDiff, reduceIte, ↓reduceIte, Nat.reduceEqDiff, Nat.reduceAdd, Nat.reduceMul, Nat.reduceSub, Int.reduceLE, Int.reduceLT, Int.reduceNeg, Int.reduceToNat, g3, g4, g5, minmax])
  refine QV.intro (.int .i64 r) ?_ ?_
  · (repeat' first | with_reducible (first | refine Asm.intro fun _ => ?_ | refine Chk.g ?_ | refine AnyI.i64 fun _ _ => ?_ | refine LetW.g ?_ | refine LetW.h ?_ | refine Ite.t fun _ => ?_ | refine Ite.f fun _ => ?_ | refine Ite.decide (fun _ => ?_) fun _ => ?_ | refine Ite.bool (fun _ => ?_) fun _ => ?_ | refine And.intro ?_ ?_) | omega | simp (maxSteps := 1000000) only [go_sem, reduceCtorEq, Nat.reduceLT, Nat.reduceLeDiff, reduceIte, ↓reduceIte, Nat.reduceEqDiff, Nat.reduceAdd, Nat.reduceMul, Nat.reduceSub, Int.reduceLE, Int.reduceLT, Int.reduceNeg, Int.reduceToNat, g3, g4, g5, minmax])
    refine VcCall.fr (FnFr.of_ok (k2) rfl rfl) (by simp only [noIdR_ok, argOkL, argOk, allOk, argOkN, List.drop_zero, lk, reduceIte, reduceCtorEq, Nat.reduceEqDiff, Option.some.injEq, Item.row.injEq, Item.box.injEq, AV.ro.injEq, exists_eq_left, exists_and_left, exists_eq_left', exists_eq_right, and_assoc, and_true, true_and, List.cons.injEq, exists_eq', exists_eq]) 0 rfl (by simp [rowsB]) ?_
    (repeat' first | with_reducible (first | refine Asm.intro fun _ => ?_ | refine Chk.g ?_ | refine AnyI.i64 fun _ _ => ?_ | refine LetW.g ?_ | refine LetW.h ?_ | refine Ite.t fun _ => ?_ | refine Ite.f fun _ => ?_ | refine Ite.decide (fun _ => ?_) fun _ => ?_ | refine Ite.bool (fun _ => ?_) fun _ => ?_ | refine And.intro ?_ ?_) | omega | simp (maxSteps := 1000000) only [go_sem, reduceCtorEq, Nat.reduceLT, Nat.reduceLeDiff, reduceIte, ↓reduceIte, Nat.reduceEqDiff, Nat.reduceAdd, Nat.reduceMul, Nat.reduceSub, Int.reduceLE, Int.reduceLT, Int.reduceNeg, Int.reduceToNat, minmax])
  (repeat' first | with_reducible (first | refine Asm.intro fun _ => ?_ | refine Chk.g ?_ | refine AnyI.i64 fun _ _ => ?_ | refine LetW.g ?_ | refine LetW.h ?_ | refine Ite.t fun _ => ?_ | refine Ite.f fun _ => ?_ | refine Ite.decide (fun _ => ?_) fun _ => ?_ | refine Ite.bool (fun _ => ?_) fun _ => ?_ | refine And.intro ?_ ?_) | omega | simp (maxSteps := 1000000) only [go_sem, reduceCtorEq, Nat.reduceLT, Nat.reduceLeDiff, reduceIte, ↓reduceIte, Nat.reduceEqDiff, Nat.reduceAdd, Nat.reduceMul, Nat.reduceSub, Int.reduceLE, Int.reduceLT, Int.reduceNeg, Int.reduceToNat, minmax])
  refine Ret.auto 0 ?_ rfl ?_ <;> simp only [go_sem, reduceCtorEq, reduceIte, Nat.reduceEqDiff, Nat.reduceLT, Nat.reduceLeDiff, Int.natCast_succ, Post]

set_option maxHeartbeats 4000000 in
theorem even_ok (w h s : Nat) (hw1 : 1 ≤ w) (hw : w ≤ 1000) (hh1 : 1 ≤ h) (hh : h ≤ 1000) (hs1 : 1 ≤ s) (hs : s ≤ 4000) (p : List Int) (hp : p.length = w * h) (hb : ∀ x, x ∈ p → 0 ≤ x ∧ x ≤ 255) :
    FnOk Tryd.prog 36 [.agg [.int .i64 w, .int .i64 h, .ro (.ints .u8 p)], .int .i64 s] (.tup [.agg [.int .i64 w, .int .i64 h, .own 0], .int .i64 0]) [(0, .row 5 (.ints .u8 ((List.range (w * h)).map (evV w h s p))))] := by
  have hq : ∀ i, 0 ≤ (fun i => p.getD i 0) i ∧ (fun i => p.getD i 0) i ≤ 255 := fun i => getD_bd hb (by omega) (by omega) i
  haveI c1 : CapsOk [.cell [.int .i64 w, .int .i64 h, .ro (.ints .u8 p)], .cell [.mp (mKs (.int .i64) (evL (sqK w s) (fun i => p.getD i 0) (w * h))) (mVs (evL (sqK w s) (fun i => p.getD i 0) (w * h)))], .cell [.fn 72 [.cell [.int .i64 w, .int .i64 h, .ro (.ints .u8 p)], .cell [.int .i64 s], .cell [.int .i64 ((w + s - 1) / s : Nat)]]]] := ⟨rfl⟩
  have hev : ∀ i, i < w * h → 0 ≤ evV w h s p i ∧ evV w h s p i ≤ 255 := fun i hi => by
    have g2 := lvV_ge (sqK w s) (fun i => p.getD i 0) (sqK w s i) (w * h) i hi rfl
    have hv := hq i
    dsimp only at hv g2
    have g3 := (rnd_bd (a := p.getD i 0 * 255) (b := lvV (evL (sqK w s) (fun i => p.getD i 0) (w * h)) (sqK w s i)) (c := 255) (by omega) (by omega) (by omega)).1
    unfold evV
    omega
  have k1 := gray_ok w h (by omega) (by omega) 73 [.cell [.int .i64 w, .int .i64 h, .ro (.ints .u8 p)], .cell [.mp (mKs (.int .i64) (evL (sqK w s) (fun i => p.getD i 0) (w * h))) (mVs (evL (sqK w s) (fun i => p.getD i 0) (w * h)))], .cell [.fn 72 [.cell [.int .i64 w, .int .i64 h, .ro (.ints .u8 p)], .cell [.int .i64 s], .cell [.int .i64 ((w + s - 1) / s : Nat)]]]] (evV w h s p) hev (fun i hi' => FnFr.of_ok (even2_ok w h s hw1 hw hh hs1 hs p hp hb i hi') rfl rfl)
  generalize (List.range (w * h)).map (evV w h s p) = R at *
  have d1 : ((w : Int) + s - 1).tdiv s = (((w + s - 1) / s : Nat) : Int) := by
    rw [show (w : Int) + s - 1 = ((w + s - 1 : Nat) : Int) by omega, Int.tdiv_eq_ediv_of_nonneg (Int.natCast_nonneg _)]; rfl
  have b3 : (w + s - 1) / s ≤ 1000 + 4000 := Nat.le_trans (Nat.div_le_self _ _) (by omega)
  have b1 : w * h ≤ 1000 * 1000 := Nat.mul_le_mul hw hh
  have ke := fun i hi => even1_ok w h s hw1 hw hh hs1 hs p i hi
  generalize (w + s - 1) / s = ac at *
  refine FnOk.of_vc Tryd.func36 rfl (by decide) (by simp [Tryd.f36]) [.cell 4 59, .tmp 5] rfl fun w0 T0 _ => ?_
  simp only [Tryd.f36, argEnv]
  (repeat' first | with_reducible (first | refine Asm.intro fun _ => ?_ | refine Chk.g ?_ | refine AnyI.i64 fun _ _ => ?_ | refine LetW.g ?_ | refine LetW.h ?_ | refine Ite.t fun _ => ?_ | refine Ite.f fun _ => ?_ | refine Ite.decide (fun _ => ?_) fun _ => ?_ | refine Ite.bool (fun _ => ?_) fun _ => ?_ | refine And.intro ?_ ?_) | omega | simp (maxSteps := 1000000) only [go_sem, reduceCtorEq, Nat.reduceLT, Nat.reduceLeDiff, reduceIte, ↓reduceIte, Nat.reduceEqDiff, Nat.reduceAdd, Nat.reduceMul, Nat.reduceSub, Int.reduceLE, Int.reduceLT, Int.reduceNeg, Int.reduceToNat])
  refine VcCall.fr (FnFr.of_ok (checkGray_ok w h p) rfl rfl) (by simp only [noIdR_ok, argOkL, argOk, allOk, argOkN, List.drop_zero, lk, reduceIte, reduceCtorEq, Nat.reduceEqDiff, Option.some.injEq, Item.row.injEq, Item.box.injEq, AV.ro.injEq, exists_eq_left, exists_and_left, exists_eq_left', exists_eq_right, and_assoc, and_true, true_and, List.cons.injEq, exists_eq', exists_eq]) 0 rfl (by simp [rowsB]) ?_
  rw [grayErr_ok hw1 hw hh1 hh hp]
  (repeat' first | with_reducible (first | refine Asm.intro fun _ => ?_ | refine Chk.g ?_ | refine AnyI.i64 fun _ _ => ?_ | refine LetW.g ?_ | refine LetW.h ?_ | refine Ite.t fun _ => ?_ | refine Ite.f fun _ => ?_ | refine Ite.decide (fun _ => ?_) fun _ => ?_ | refine Ite.bool (fun _ => ?_) fun _ => ?_ | refine And.intro ?_ ?_) | omega | simp (maxSteps := 1000000) only [go_sem, reduceCtorEq, Nat.reduceLT, Nat.reduceLeDiff, reduceIte, ↓reduceIte, Nat.reduceEqDiff, Nat.reduceAdd, Nat.reduceMul, Nat.reduceSub, Int.reduceLE, Int.reduceLT, Int.reduceNeg, Int.reduceToNat, d1])
  refine VcLoop.intro (fun i : Nat => ⟨61, [(38, .int .i64 i), (37, .int .i64 p.length), (36, .ro (.ints .u8 p)), (2, .ptr 0 0), (4, .ptr 2 0), (8, .ptr 4 0), (9, .ptr 6 0)], [(0, .box 59 [.int .i64 w, .int .i64 h, .ro (.ints .u8 p)]), (1, .box 3 [.int .i64 s]), (2, .box 59 [.int .i64 0, .int .i64 0, .nilS]), (3, .box 3 [.int .i64 ac]), (4, .box 92 [.fn 72 [.ptr 0 0, .ptr 1 0, .ptr 3 0]]), (5, .map (mKs (.int .i64) (evL (sqK w s) (fun i => p.getD i 0) i)) (mVs (evL (sqK w s) (fun i => p.getD i 0) i))), (6, .box 97 [.own 5])], 7⟩) (fun i => i ≤ p.length) (fun i => p.length - i) 0 ?_ (Nat.zero_le _) fun i hi => ?_
  · have e0 : evL (sqK w s) (fun i => p.getD i 0) 0 = [] := rfl
    have e1 : mKs (.int .i64) ([] : List (Int × Int)) = [] ∧ mVs ([] : List (Int × Int)) = [] := ⟨rfl, rfl⟩
    refine Ent.auto0 rfl ?_ ?_ <;> simp only [go_sem, reduceCtorEq, reduceIte, Nat.reduceEqDiff, Nat.reduceLT, Nat.reduceLeDiff, Int.natCast_succ, e0, e1.1, e1.2]
  by_cases hlt : i < p.length
  · have hk := ke i (by omega)
    have hv := hq i
    have hs' := evL_succ (sqK w s) (fun i => p.getD i 0) i
    dsimp only at hv hs'
    generalize hL1 : evL (sqK w s) (fun i => p.getD i 0) (i + 1) = L1 at *
    have hLb := lvV_bd (sqK w s) (fun i => p.getD i 0) hq (sqK w s i) i
    generalize evL (sqK w s) (fun i => p.getD i 0) i = L at *
    generalize sqK w s i = k at *
    generalize hx : p.getD i 0 = x at *
    have g3 := getI_m eqKeyI L k
    have g4 : KeysT Tryd.prog 3 (mKs (.int .i64) L) := keysI _
    have g5 := isI_m L
    have g6 := updKs_m eqKeyI L k x
    have g7 := updVs_m eqKeyI L k x
    rw [← hs'] at g6 g7
    (repeat' first | with_reducible (first | refine Asm.intro fun _ => ?_ | refine Chk.g ?_ | refine AnyI.i64 fun _ _ => ?_ | refine LetW.g ?_ | refine LetW.h ?_ | refine Ite.t fun _ => ?_ | refine Ite.f fun _ => ?_ | refine Ite.decide (fun _ => ?_) fun _ => ?_ | refine Ite.bool (fun _ => ?_) fun _ => ?_ | refine And.intro ?_ ?_) | omega | simp (maxSteps := 1000000) only [go_sem, reduceCtorEq, Nat.reduceLT, Nat.reduceLeDiff, reduceIte, ↓reduceIte, Nat.reduceEqDiff, Nat.reduceAdd, Nat.reduceMul, Nat.reduceSub, Int.reduceLE, Int.reduceLT, Int.reduceNeg, Int.reduceToNat, Int.toNat_natCast, hx])
    refine VcCall.fr (FnFr.of_ok hk rfl rfl) (by simp only [noIdR_ok, argOkL, argOk, allOk, argOkN, List.drop_zero, lk, reduceIte, reduceCtorEq, Nat.reduceEqDiff, Option.some.injEq, Item.row.injEq, Item.box.injEq, AV.ro.injEq, exists_eq_left, exists_and_left, exists_eq_left', exists_eq_right, and_assoc, and_true, true_and, List.cons.injEq, exists_eq', exists_eq]) 0 rfl (by simp [rowsB]) ?_
    (repeat' first | with_reducible (first | refine Asm.intro fun _ => ?_ | refine Chk.g ?_ | refine AnyI.i64 fun _ _ => ?_ | refine LetW.g ?_ | refine LetW.h ?_ | refine Ite.t fun _ => ?_ | refine Ite.f fun _ => ?_ | refine Ite.decide (fun _ => ?_) fun _ => ?_ | refine Ite.bool (fun _ => ?_) fun _ => ?_ | refine And.intro ?_ ?_) | omega | simp (maxSteps := 1000000) only [go_sem, reduceCtorEq, Nat.reduceLT, Nat.reduceLeDiff, reduceIte, ↓reduceIte, Nat.reduceEqDiff, Nat.reduceAdd, Nat.reduceMul, Nat.reduceSub, Int.reduceLE, Int.reduceLT, Int.reduceNeg, Int.reduceToNat, g3, g4, g5, g6, g7, minmax])
    refine ⟨i + 1, Ent.auto0 rfl ?_ ?_, by omega, by omega⟩ <;> simp only [go_sem, reduceCtorEq, reduceIte, Nat.reduceEqDiff, Nat.reduceLT, Nat.reduceLeDiff, Int.natCast_succ, hL1, renKI, ren_mVs, belowKI, below_mVs, mkKI, mk_mVs]
  · have e : i = w * h := by omega
    subst e
    generalize evL (sqK w s) (fun i => p.getD i 0) (w * h) = L at *
    (repeat' first | with_reducible (first | refine Asm.intro fun _ => ?_ | refine Chk.g ?_ | refine AnyI.i64 fun _ _ => ?_ | refine LetW.g ?_ | refine LetW.h ?_ | refine Ite.t fun _ => ?_ | refine Ite.f fun _ => ?_ | refine Ite.decide (fun _ => ?_) fun _ => ?_ | refine Ite.bool (fun _ => ?_) fun _ => ?_ | refine And.intro ?_ ?_) | omega | simp (maxSteps := 1000000) only [go_sem, reduceCtorEq, Nat.reduceLT, Nat.reduceLeDiff, reduceIte, ↓reduceIte, Nat.reduceEqDiff, Nat.reduceAdd, Nat.reduceMul, Nat.reduceSub, Int.reduceLE, Int.reduceLT, Int.reduceNeg, Int.reduceToNat])
    refine VcCall.fr (FnFr.of_ok k1 rfl rfl) ⟨_, _, rfl, ⟨_, _, rfl, ⟨_, _, ⟨_, ⟨_, _, ⟨_, _, _, rfl, (by simp only [noIdR_ok, argOkL, argOk, allOk, argOkN, List.drop_zero, lk, reduceIte, reduceCtorEq, Nat.reduceEqDiff, Option.some.injEq, Item.row.injEq, Item.box.injEq, AV.ro.injEq, exists_eq_left, exists_and_left, exists_eq_left', exists_eq_right, and_assoc, and_true, true_and, List.cons.injEq, exists_eq', exists_eq]), rfl⟩, ⟨_, _, ⟨_, _, _, rfl, ⟨_, _, argOkN_map rfl (argKI _ _ _) (argV _ _ _), rfl, rfl⟩, rfl⟩, ⟨_, _, ⟨_, _, _, rfl, (by simp only [noIdR_ok, argOkL, argOk, allOk, argOkN, List.drop_zero, lk, reduceIte, reduceCtorEq, Nat.reduceEqDiff, Option.some.injEq, Item.row.injEq, Item.box.injEq, AV.ro.injEq, exists_eq_left, exists_and_left, exists_eq_left', exists_eq_right, and_assoc, and_true, true_and, List.cons.injEq, exists_eq', exists_eq]), rfl⟩, rfl, rfl⟩, rfl⟩, rfl⟩, rfl⟩, rfl, rfl⟩, rfl⟩, rfl⟩ 1 rfl (by simp [rowsB, Item.below, Fv.below, belowL, belowKI, below_mVs]) ?_
    (repeat' first | with_reducible (first | refine Asm.intro fun _ => ?_ | refine Chk.g ?_ | refine AnyI.i64 fun _ _ => ?_ | refine LetW.g ?_ | refine LetW.h ?_ | refine Ite.t fun _ => ?_ | refine Ite.f fun _ => ?_ | refine Ite.decide (fun _ => ?_) fun _ => ?_ | refine Ite.bool (fun _ => ?_) fun _ => ?_ | refine And.intro ?_ ?_) | omega | simp (maxSteps := 1000000) only [go_sem, reduceCtorEq, Nat.reduceLT, Nat.reduceLeDiff, reduceIte, ↓reduceIte, Nat.reduceEqDiff, Nat.reduceAdd, Nat.reduceMul, Nat.reduceSub, Int.reduceLE, Int.reduceLT, Int.reduceNeg, Int.reduceToNat])
    refine Ret.auto 1 ?_ rfl ?_ <;> simp only [go_sem, reduceCtorEq, reduceIte, Nat.reduceEqDiff, Nat.reduceLT, Nat.reduceLeDiff, Int.natCast_succ, Post, List.drop_zero]
    all_goals simp (maxSteps := 1000000) only [go_sem, reduceCtorEq, Nat.reduceLT, Nat.reduceLeDiff, reduceIte, ↓reduceIte, Nat.reduceEqDiff, Nat.reduceAdd, Nat.reduceMul, Nat.reduceSub, Int.reduceLE, Int.reduceLT, Int.reduceNeg, Int.reduceToNat]
end Go.Fv.M
