/-
  A part of the proof of the claim: walks over the program's functions and the plain laws that these need. No condition of its own.
-/
import Derived.Test.YtolhkphiifgblaaDoorMGreysMatchCardPart2
import Derived.Test.YtolhkphiifgblaaDoorFvPart10
import Derived.Test.YtolhkphiifgblaaDoorFvPart9
import Derived.Test.YtolhkphiifgblaaDoorMGreysMatchCardPart1
/-! Even's errors and the reference's Even: the walk. -/
namespace Go.Fv.M
open Go Go.Proofs
set_option linter.unusedSimpArgs false
set_option linter.unusedVariables false
set_option linter.unnecessarySimpa false
set_option maxRecDepth 8000

theorem even_err (w h : Nat) (hw1 : 1 ≤ w) (hw : w ≤ 1000) (hh1 : 1 ≤ h) (hh : h ≤ 1000) (p : List Int) (hp : p.length = w * h) (r : Int) (hr : r < 1 ∨ 4000 < r) :
    FnOk Tryd.prog 36 [.agg [.int .i64 w, .int .i64 h, .ro (.ints .u8 p)], .int .i64 r] (.tup [.agg [.int .i64 0, .int .i64 0, .nilS], .int .i64 3]) [] := by
  refine FnOk.of_vc Tryd.func36 rfl (by decide) (by simp [Tryd.f36]) [.cell 4 59, .tmp 5] rfl fun w0 T0 _ => ?_
  simp only [Tryd.f36, argEnv]
  (repeat' first | with_reducible (first | refine Asm.intro fun _ => ?_ | refine Chk.g ?_ | refine AnyI.i64 fun _ _ => ?_ | refine LetW.g ?_ | refine LetW.h ?_ | refine Ite.t fun _ => ?_ | refine Ite.f fun _ => ?_ | refine Ite.decide (fun _ => ?_) fun _ => ?_ | refine Ite.bool (fun _ => ?_) fun _ => ?_ | refine And.intro ?_ ?_) | omega | simp (maxSteps := 1000000) only [go_sem, reduceCtorEq, Nat.reduceLT, Nat.reduceLeDiff, reduceIte, ↓reduceIte, Nat.reduceEqDiff, Nat.reduceAdd, Nat.reduceMul, Nat.reduceSub, Int.reduceLE, Int.reduceLT, Int.reduceNeg, Int.reduceToNat])
  refine VcCall.fr (FnFr.of_ok (checkGray_ok w h p) rfl rfl) (by simp only [noIdR_ok, argOkL, argOk, allOk, argOkN, List.drop_zero, lk, reduceIte, reduceCtorEq, Nat.reduceEqDiff, Option.some.injEq, Item.row.injEq, Item.box.injEq, AV.ro.injEq, exists_eq_left, exists_and_left, exists_eq_left', exists_eq_right, and_assoc, and_true, true_and, List.cons.injEq, exists_eq', exists_eq]) 0 rfl (by simp [rowsB]) ?_
  rw [grayErr_ok hw1 hw hh1 hh hp]
  (repeat' first | with_reducible (first | refine Asm.intro fun _ => ?_ | refine Chk.g ?_ | refine AnyI.i64 fun _ _ => ?_ | refine LetW.g ?_ | refine LetW.h ?_ | refine Ite.t fun _ => ?_ | refine Ite.f fun _ => ?_ | refine Ite.decide (fun _ => ?_) fun _ => ?_ | refine Ite.bool (fun _ => ?_) fun _ => ?_ | refine And.intro ?_ ?_) | omega | simp (maxSteps := 1000000) only [go_sem, reduceCtorEq, Nat.reduceLT, Nat.reduceLeDiff, reduceIte, ↓reduceIte, Nat.reduceEqDiff, Nat.reduceAdd, Nat.reduceMul, Nat.reduceSub, Int.reduceLE, Int.reduceLT, Int.reduceNeg, Int.reduceToNat])
  refine Ret.auto 0 ?_ ?_ ?_ <;> simp only [go_sem, reduceCtorEq, reduceIte, Nat.reduceEqDiff, Nat.reduceLT, Nat.reduceLeDiff, Int.natCast_succ, Post, List.drop_zero]
set_option maxHeartbeats 4000000 in
theorem refEven1_ok (w h s : Nat) (hw1 : 1 ≤ w) (hw : w ≤ 1000) (hh : h ≤ 1000) (hs1 : 1 ≤ s) (hs : s ≤ 4000) (p : List Int) (hp : p.length = w * h) (hb : ∀ x, x ∈ p → 0 ≤ x ∧ x ≤ 255) (x y : Nat) (hx : x < w) (hy : y < h) :
    FnOk Tryd.prog 74 [.int .i64 x, .int .i64 y, .cell [.int .i64 w, .int .i64 h, .ro (.ints .u8 p)], .cell [.mp (mKs ptAV (evL (ptK w s) (fun i => p.getD i 0) (w * h))) (mVs (evL (ptK w s) (fun i => p.getD i 0) (w * h)))], .cell [.int .i64 s]] (.int .u8 (evV w h s p (y * w + x))) [] := by
  have b1 : y * w + w ≤ h * w := by rw [← Nat.succ_mul]; exact Nat.mul_le_mul_right _ (by omega)
  have b2 : h * w ≤ 1000 * 1000 := Nat.mul_le_mul hh hw
  have b3 : w * h = h * w := Nat.mul_comm _ _
  have hq : ∀ i, 0 ≤ (fun i => p.getD i 0) i ∧ (fun i => p.getD i 0) i ≤ 255 := fun i => getD_bd hb (by omega) (by omega) i
  have e1 : ptK w s (y * w + x) = (((x / s : Nat) : Int), ((y / s : Nat) : Int)) := by
    unfold ptK
    rw [Nat.add_comm (y * w) x, Nat.add_mul_mod_self_right, Nat.mod_eq_of_lt hx, Nat.add_mul_div_right _ _ (by omega), Nat.div_eq_of_lt hx, Nat.zero_add]
  have d2 : (y : Int).tdiv s = ((y / s : Nat) : Int) := by rw [Int.tdiv_eq_ediv_of_nonneg (Int.natCast_nonneg _)]; rfl
  have d3 : (x : Int).tdiv s = ((x / s : Nat) : Int) := by rw [Int.tdiv_eq_ediv_of_nonneg (Int.natCast_nonneg _)]; rfl
  have b6 : y / s ≤ y := Nat.div_le_self _ _
  have b7 : x / s ≤ x := Nat.div_le_self _ _
  have g1 := lvV_bd (ptK w s) (fun i => p.getD i 0) hq (ptK w s (y * w + x)) (w * h)
  have g2 := lvV_ge (ptK w s) (fun i => p.getD i 0) (ptK w s (y * w + x)) (w * h) (y * w + x) (by omega) rfl
  have g3 := getI_m eqKeyPt (evL (ptK w s) (fun i => p.getD i 0) (w * h)) (ptK w s (y * w + x))
  have g4 : KeysT Tryd.prog 34 (mKs ptAV (evL (ptK w s) (fun i => p.getD i 0) (w * h))) := keyTsPt _
  have g5 := isI_m (evL (ptK w s) (fun i => p.getD i 0) (w * h))
  have g6 := keyTPt (ptK w s (y * w + x))
  have hv := hq (y * w + x)
  rw [evV_pt (by omega) hs1]
  dsimp only at g2 hv
  generalize evL (ptK w s) (fun i => p.getD i 0) (w * h) = L at *
  rw [e1] at g1 g2 g3 g6 ⊢
  generalize x / s = x2 at *
  generalize y / s = y2 at *
  have g7 : ptAV (((x2 : Nat) : Int), ((y2 : Nat) : Int)) = .agg [.int .i64 x2, .int .i64 y2] := rfl
  rw [g7] at g3 g6
  generalize hx0 : p.getD (y * w + x) 0 = v at *
  have k2 := round_ok (v * 255) (lvV L (((x2 : Nat) : Int), ((y2 : Nat) : Int))) (by omega) (by omega)
  have hr := rnd_bd (a := v * 255) (b := lvV L (((x2 : Nat) : Int), ((y2 : Nat) : Int))) (c := 255) (by omega) (by omega) (by omega)
  generalize lvV L (((x2 : Nat) : Int), ((y2 : Nat) : Int)) = l at *
  generalize rnd (v * 255) l = r at *
  refine FnOk.of_vc Tryd.func74 rfl (by decide) (by simp [Tryd.f74]) [.tmp 7] rfl fun w0 T0 _ => ?_
  simp only [Tryd.f74, argEnv]
  (repeat' first | with_reducible (first | refine Asm.intro fun _ => ?_ | refine Chk.g ?_ | refine AnyI.i64 fun _ _ => ?_ | refine LetW.g ?_ | refine LetW.h ?_ | refine Ite.t fun _ => ?_ | refine Ite.f fun _ => ?_ | refine Ite.decide (fun _ => ?_) fun _ => ?_ | refine Ite.bool (fun _ => ?_) fun _ => ?_ | refine And.intro ?_ ?_) | omega | simp (maxSteps := 1000000) only [go_sem, reduceCtorEq, Nat.reduceLT, Nat.reduceLeDiff, reduceIte, ↓reduceIte, Nat.reduceEqDiff, Nat.reduceAdd, Nat.reduceMul, Nat.reduceSub, Int.reduceLE, Int.reduceLT, Int.reduceNeg, Int.reduceToNat, up_mul, up_add, Int.toNat_natCast, hx0])
  refine VcDraw.lex [] [] (by kernel_rfl) (by kernel_rfl) ?_
  (repeat' first | with_reducible (first | refine Asm.intro fun _ => ?_ | refine Chk.g ?_ | refine AnyI.i64 fun _ _ => ?_ | refine LetW.g ?_ | refine LetW.h ?_ | refine Ite.t fun _ => ?_ | refine Ite.f fun _ => ?_ | refine Ite.decide (fun _ => ?_) fun _ => ?_ | refine Ite.bool (fun _ => ?_) fun _ => ?_ | refine And.intro ?_ ?_) | omega | simp (maxSteps := 1000000) only [go_sem, reduceCtorEq, Nat.reduceLT, Nat.reduceLeDiff, reduceIte, ↓reduceIte, Nat.reduceEqDiff, Nat.reduceAdd, Nat.reduceMul, Nat.reduceSub, Int.reduceLE, Int.reduceLT, Int.reduceNeg, Int.reduceToNat, up_mul, up_add, Int.toNat_natCast, hx0, d2, d3, g3, g5, eq_true g4, eq_true g6, eq_true keyedPt, minmax])
  refine QV.intro (.int .i64 r) ?_ ?_
  · (repeat' first | with_reducible (first | refine Asm.intro fun _ => ?_ | refine Chk.g ?_ | refine AnyI.i64 fun _ _ => ?_ | refine LetW.g ?_ | refine LetW.h ?_ | refine Ite.t fun _ => ?_ | refine Ite.f fun _ => ?_ | refine Ite.decide (fun _ => ?_) fun _ => ?_ | refine Ite.bool (fun _ => ?_) fun _ => ?_ | refine And.intro ?_ ?_) | omega | simp (maxSteps := 1000000) only [go_sem, reduceCtorEq, Nat.reduceLT, Nat.reduceLeDiff, reduceIte, ↓reduceIte, Nat.reduceEqDiff, Nat.reduceAdd, Nat.reduceMul, Nat.reduceSub, Int.reduceLE, Int.reduceLT, Int.reduceNeg, Int.reduceToNat, up_mul, up_add, Int.toNat_natCast, hx0, d2, d3, g3, g5, eq_true g4, eq_true g6, eq_true keyedPt, minmax])
    refine VcCall.fr (FnFr.of_ok (k2) rfl rfl) (by simp only [noIdR_ok, argOkL, argOk, allOk, argOkN, List.drop_zero, lk, reduceIte, reduceCtorEq, Nat.reduceEqDiff, Option.some.injEq, Item.row.injEq, Item.box.injEq, AV.ro.injEq, exists_eq_left, exists_and_left, exists_eq_left', exists_eq_right, and_assoc, and_true, true_and, List.cons.injEq, exists_eq', exists_eq]) 0 rfl (by simp [rowsB]) ?_
    (repeat' first | with_reducible (first | refine Asm.intro fun _ => ?_ | refine Chk.g ?_ | refine AnyI.i64 fun _ _ => ?_ | refine LetW.g ?_ | refine LetW.h ?_ | refine Ite.t fun _ => ?_ | refine Ite.f fun _ => ?_ | refine Ite.decide (fun _ => ?_) fun _ => ?_ | refine Ite.bool (fun _ => ?_) fun _ => ?_ | refine And.intro ?_ ?_) | omega | simp (maxSteps := 1000000) only [go_sem, reduceCtorEq, Nat.reduceLT, Nat.reduceLeDiff, reduceIte, ↓reduceIte, Nat.reduceEqDiff, Nat.reduceAdd, Nat.reduceMul, Nat.reduceSub, Int.reduceLE, Int.reduceLT, Int.reduceNeg, Int.reduceToNat, minmax])
  (repeat' first | with_reducible (first | refine Asm.intro fun _ => ?_ | refine Chk.g ?_ | refine AnyI.i64 fun _ _ => ?_ | refine LetW.g ?_ | refine LetW.h ?_ | refine Ite.t fun _ => ?_ | refine Ite.f fun _ => ?_ | refine Ite.decide (fun _ => ?_) fun _ => ?_ | refine Ite.bool (fun _ => ?_) fun _ => ?_ | refine And.intro ?_ ?_) | omega | simp (maxSteps := 1000000) only [go_sem, reduceCtorEq, Nat.reduceLT, Nat.reduceLeDiff, reduceIte, ↓reduceIte, Nat.reduceEqDiff, Nat.reduceAdd, Nat.reduceMul, Nat.reduceSub, Int.reduceLE, Int.reduceLT, Int.reduceNeg, Int.reduceToNat, minmax])
  refine Ret.auto 0 ?_ rfl ?_ <;> simp only [go_sem, reduceCtorEq, reduceIte, Nat.reduceEqDiff, Nat.reduceLT, Nat.reduceLeDiff, Int.natCast_succ, Post]

set_option maxHeartbeats 4000000 in
theorem refEven_ok (w h s : Nat) (hw1 : 1 ≤ w) (hw : w ≤ 1000) (hh1 : 1 ≤ h) (hh : h ≤ 1000) (hs1 : 1 ≤ s) (hs : s ≤ 4000) (p : List Int) (hp : p.length = w * h) (hb : ∀ x, x ∈ p → 0 ≤ x ∧ x ≤ 255) :
    FnOk Tryd.prog 37 [.agg [.int .i64 w, .int .i64 h, .ro (.ints .u8 p)], .int .i64 s] (.agg [.int .i64 w, .int .i64 h, .own 0]) [(0, .row 5 (.ints .u8 ((List.range (w * h)).map (evV w h s p))))] := by
  have hq : ∀ i, 0 ≤ (fun i => p.getD i 0) i ∧ (fun i => p.getD i 0) i ≤ 255 := fun i => getD_bd hb (by omega) (by omega) i
  haveI c1 : CapsOk [.cell [.int .i64 w, .int .i64 h, .ro (.ints .u8 p)], .cell [.mp (mKs ptAV (evL (ptK w s) (fun i => p.getD i 0) (w * h))) (mVs (evL (ptK w s) (fun i => p.getD i 0) (w * h)))], .cell [.int .i64 s]] := ⟨rfl⟩
  have k1 := madeGray_ok w h (by omega) (by omega) 74 [.cell [.int .i64 w, .int .i64 h, .ro (.ints .u8 p)], .cell [.mp (mKs ptAV (evL (ptK w s) (fun i => p.getD i 0) (w * h))) (mVs (evL (ptK w s) (fun i => p.getD i 0) (w * h)))], .cell [.int .i64 s]] (fun x y => evV w h s p (y * w + x)) (fun x y hx hy => FnFr.of_ok (refEven1_ok w h s hw1 hw hh hs1 hs p hp hb x y hx hy) rfl rfl)
  rw [rows_range w h (evV w h s p)] at k1
  generalize (List.range (w * h)).map (evV w h s p) = R at *
  have b1 : w * h ≤ 1000 * 1000 := Nat.mul_le_mul hw hh
  refine FnOk.of_vc Tryd.func37 rfl (by decide) (by simp [Tryd.f37]) [.cell 4 59] rfl fun w0 T0 _ => ?_
  simp only [Tryd.f37, argEnv]
  (repeat' first | with_reducible (first | refine Asm.intro fun _ => ?_ | refine Chk.g ?_ | refine AnyI.i64 fun _ _ => ?_ | refine LetW.g ?_ | refine LetW.h ?_ | refine Ite.t fun _ => ?_ | refine Ite.f fun _ => ?_ | refine Ite.decide (fun _ => ?_) fun _ => ?_ | refine Ite.bool (fun _ => ?_) fun _ => ?_ | refine And.intro ?_ ?_) | omega | simp (maxSteps := 1000000) only [go_sem, reduceCtorEq, Nat.reduceLT, Nat.reduceLeDiff, reduceIte, ↓reduceIte, Nat.reduceEqDiff, Nat.reduceAdd, Nat.reduceMul, Nat.reduceSub, Int.reduceLE, Int.reduceLT, Int.reduceNeg, Int.reduceToNat])
  refine VcLoop.intro (fun i : Nat => ⟨46, [(13, .int .i64 i), (12, .int .i64 p.length), (11, .ro (.ints .u8 p)), (2, .ptr 0 0), (3, .ptr 1 0), (4, .ptr 2 0), (5, .ptr 4 0)], [(0, .box 59 [.int .i64 w, .int .i64 h, .ro (.ints .u8 p)]), (1, .box 3 [.int .i64 s]), (2, .box 59 [.int .i64 0, .int .i64 0, .nilS]), (3, .map (mKs ptAV (evL (ptK w s) (fun i => p.getD i 0) i)) (mVs (evL (ptK w s) (fun i => p.getD i 0) i))), (4, .box 98 [.own 3])], 5⟩) (fun i => i ≤ p.length) (fun i => p.length - i) 0 ?_ (Nat.zero_le _) fun i hi => ?_
  · have e0 : evL (ptK w s) (fun i => p.getD i 0) 0 = [] := rfl
    have e1 : mKs ptAV ([] : List ((Int × Int) × Int)) = [] ∧ mVs ([] : List ((Int × Int) × Int)) = [] := ⟨rfl, rfl⟩
    refine Ent.auto0 rfl ?_ ?_ <;> simp only [go_sem, reduceCtorEq, reduceIte, Nat.reduceEqDiff, Nat.reduceLT, Nat.reduceLeDiff, Int.natCast_succ, e0, e1.1, e1.2]
  by_cases hlt : i < p.length
  · have hv := hq i
    have hs' := evL_succ (ptK w s) (fun i => p.getD i 0) i
    dsimp only at hv hs'
    generalize hL1 : evL (ptK w s) (fun i => p.getD i 0) (i + 1) = L1 at *
    have hLb := lvV_bd (ptK w s) (fun i => p.getD i 0) hq (ptK w s i) i
    generalize evL (ptK w s) (fun i => p.getD i 0) i = L at *
    have g7 : ptAV (ptK w s i) = .agg [.int .i64 (i % w / s : Nat), .int .i64 (i / w / s : Nat)] := rfl
    have d1 : (i : Int).tdiv w = ((i / w : Nat) : Int) := by rw [Int.tdiv_eq_ediv_of_nonneg (Int.natCast_nonneg _)]; rfl
    have d2 : ((i / w : Nat) : Int).tdiv s = ((i / w / s : Nat) : Int) := by rw [Int.tdiv_eq_ediv_of_nonneg (Int.natCast_nonneg _)]; rfl
    have d3 : (i : Int).tmod w = ((i % w : Nat) : Int) := by rw [Int.tmod_eq_emod_of_nonneg (Int.natCast_nonneg _)]; rfl
    have d4 : ((i % w : Nat) : Int).tdiv s = ((i % w / s : Nat) : Int) := by rw [Int.tdiv_eq_ediv_of_nonneg (Int.natCast_nonneg _)]; rfl
    have b2 : i / w / s ≤ i := Nat.le_trans (Nat.div_le_self _ _) (Nat.div_le_self _ _)
    have b5 : i % w / s ≤ i := Nat.le_trans (Nat.div_le_self _ _) (Nat.mod_le _ _)
    have b6 : i / w ≤ i := Nat.div_le_self _ _
    have b7 : i % w ≤ i := Nat.mod_le _ _
    generalize ptK w s i = k at *
    generalize i / w / s = x1 at *
    generalize i % w / s = y1 at *
    generalize i / w = x2 at *
    generalize i % w = y2 at *
    generalize hx : p.getD i 0 = x at *
    have g3 := getI_m eqKeyPt L k
    have g4 : KeysT Tryd.prog 34 (mKs ptAV L) := keyTsPt _
    have g5 := isI_m L
    have g6 := updKs_m eqKeyPt L k x
    have g8 := updVs_m eqKeyPt L k x
    have g9 := keyTPt k
    rw [← hs'] at g6 g8
    rw [g7] at g3 g6 g8 g9
    (repeat' first | with_reducible (first | refine Asm.intro fun _ => ?_ | refine Chk.g ?_ | refine AnyI.i64 fun _ _ => ?_ | refine LetW.g ?_ | refine LetW.h ?_ | refine Ite.t fun _ => ?_ | refine Ite.f fun _ => ?_ | refine Ite.decide (fun _ => ?_) fun _ => ?_ | refine Ite.bool (fun _ => ?_) fun _ => ?_ | refine And.intro ?_ ?_) | omega | simp (maxSteps := 1000000) only [go_sem, reduceCtorEq, Nat.reduceLT, Nat.reduceLeDiff, reduceIte, ↓reduceIte, Nat.reduceEqDiff, Nat.reduceAdd, Nat.reduceMul, Nat.reduceSub, Int.reduceLE, Int.reduceLT, Int.reduceNeg, Int.reduceToNat, Int.toNat_natCast, hx])
    refine VcDraw.lex [13, 14] [(0, [1]), (1, [1]), (2, [1]), (3, [1]), (4, [1]), (5, [1]), (6, [1]), (7, [1]), (8, [1]), (9, [1]), (10, [1]), (11, [1]), (12, [1])] (by kernel_rfl) (by kernel_rfl) ?_
    (repeat' first | with_reducible (first | refine Asm.intro fun _ => ?_ | refine Chk.g ?_ | refine AnyI.i64 fun _ _ => ?_ | refine LetW.g ?_ | refine LetW.h ?_ | refine Ite.t fun _ => ?_ | refine Ite.f fun _ => ?_ | refine Ite.decide (fun _ => ?_) fun _ => ?_ | refine Ite.bool (fun _ => ?_) fun _ => ?_ | refine And.intro ?_ ?_) | omega | simp (maxSteps := 1000000) only [go_sem, reduceCtorEq, Nat.reduceLT, Nat.reduceLeDiff, reduceIte, ↓reduceIte, Nat.reduceEqDiff, Nat.reduceAdd, Nat.reduceMul, Nat.reduceSub, Int.reduceLE, Int.reduceLT, Int.reduceNeg, Int.reduceToNat, d1, d2, d3, d4])
    refine VcDraw.lex [8] [] (by kernel_rfl) (by kernel_rfl) ?_
    (repeat' first | with_reducible (first | refine Asm.intro fun _ => ?_ | refine Chk.g ?_ | refine AnyI.i64 fun _ _ => ?_ | refine LetW.g ?_ | refine LetW.h ?_ | refine Ite.t fun _ => ?_ | refine Ite.f fun _ => ?_ | refine Ite.decide (fun _ => ?_) fun _ => ?_ | refine Ite.bool (fun _ => ?_) fun _ => ?_ | refine And.intro ?_ ?_) | omega | simp (maxSteps := 1000000) only [go_sem, reduceCtorEq, Nat.reduceLT, Nat.reduceLeDiff, reduceIte, ↓reduceIte, Nat.reduceEqDiff, Nat.reduceAdd, Nat.reduceMul, Nat.reduceSub, Int.reduceLE, Int.reduceLT, Int.reduceNeg, Int.reduceToNat, g3, g5, g6, g8, eq_true g4, eq_true g9, eq_true keyedPt, minmax])
    refine ⟨i + 1, Ent.auto0 rfl ?_ ?_, by omega, by omega⟩ <;> simp only [go_sem, reduceCtorEq, reduceIte, Nat.reduceEqDiff, Nat.reduceLT, Nat.reduceLeDiff, Int.natCast_succ, hL1, renKP, ren_mVs, belowKP, below_mVs, mkKP, mk_mVs]
  · have e : i = w * h := by omega
    subst e
    generalize evL (ptK w s) (fun i => p.getD i 0) (w * h) = L at *
    (repeat' first | with_reducible (first | refine Asm.intro fun _ => ?_ | refine Chk.g ?_ | refine AnyI.i64 fun _ _ => ?_ | refine LetW.g ?_ | refine LetW.h ?_ | refine Ite.t fun _ => ?_ | refine Ite.f fun _ => ?_ | refine Ite.decide (fun _ => ?_) fun _ => ?_ | refine Ite.bool (fun _ => ?_) fun _ => ?_ | refine And.intro ?_ ?_) | omega | simp (maxSteps := 1000000) only [go_sem, reduceCtorEq, Nat.reduceLT, Nat.reduceLeDiff, reduceIte, ↓reduceIte, Nat.reduceEqDiff, Nat.reduceAdd, Nat.reduceMul, Nat.reduceSub, Int.reduceLE, Int.reduceLT, Int.reduceNeg, Int.reduceToNat])
    refine VcCall.fr (FnFr.of_ok k1 rfl rfl) ⟨_, _, rfl, ⟨_, _, rfl, ⟨_, _, ⟨_, ⟨_, _, ⟨_, _, _, rfl, (by simp only [noIdR_ok, argOkL, argOk, allOk, argOkN, List.drop_zero, lk, reduceIte, reduceCtorEq, Nat.reduceEqDiff, Option.some.injEq, Item.row.injEq, Item.box.injEq, AV.ro.injEq, exists_eq_left, exists_and_left, exists_eq_left', exists_eq_right, and_assoc, and_true, true_and, List.cons.injEq, exists_eq', exists_eq]), rfl⟩, ⟨_, _, ⟨_, _, _, rfl, ⟨_, _, argOkN_map rfl (argKP _ _ _) (argV _ _ _), rfl, rfl⟩, rfl⟩, ⟨_, _, ⟨_, _, _, rfl, (by simp only [noIdR_ok, argOkL, argOk, allOk, argOkN, List.drop_zero, lk, reduceIte, reduceCtorEq, Nat.reduceEqDiff, Option.some.injEq, Item.row.injEq, Item.box.injEq, AV.ro.injEq, exists_eq_left, exists_and_left, exists_eq_left', exists_eq_right, and_assoc, and_true, true_and, List.cons.injEq, exists_eq', exists_eq]), rfl⟩, rfl, rfl⟩, rfl⟩, rfl⟩, rfl⟩, rfl, rfl⟩, rfl⟩, rfl⟩ 1 rfl (by simp [rowsB, Item.below, Fv.below, belowL, belowKP, below_mVs]) ?_
    (repeat' first | with_reducible (first | refine Asm.intro fun _ => ?_ | refine Chk.g ?_ | refine AnyI.i64 fun _ _ => ?_ | refine LetW.g ?_ | refine LetW.h ?_ | refine Ite.t fun _ => ?_ | refine Ite.f fun _ => ?_ | refine Ite.decide (fun _ => ?_) fun _ => ?_ | refine Ite.bool (fun _ => ?_) fun _ => ?_ | refine And.intro ?_ ?_) | omega | simp (maxSteps := 1000000) only [go_sem, reduceCtorEq, Nat.reduceLT, Nat.reduceLeDiff, reduceIte, ↓reduceIte, Nat.reduceEqDiff, Nat.reduceAdd, Nat.reduceMul, Nat.reduceSub, Int.reduceLE, Int.reduceLT, Int.reduceNeg, Int.reduceToNat])
    refine Ret.auto 1 ?_ rfl ?_ <;> simp only [go_sem, reduceCtorEq, reduceIte, Nat.reduceEqDiff, Nat.reduceLT, Nat.reduceLeDiff, Int.natCast_succ, Post, List.drop_zero]
    all_goals simp (maxSteps := 1000000) only [go_sem, reduceCtorEq, Nat.reduceLT, Nat.reduceLeDiff, reduceIte, ↓reduceIte, Nat.reduceEqDiff, Nat.reduceAdd, Nat.reduceMul, Nat.reduceSub, Int.reduceLE, Int.reduceLT, Int.reduceNeg, Int.reduceToNat]
end Go.Fv.M

/- The middle of bytes by their counts, in plain words. -/
namespace Go.Fv.M
open Go
set_option linter.unusedSimpArgs false
set_option linter.unusedVariables false
set_option maxRecDepth 8000

def cntB (L : List Int) : List Int := (List.range 256).map fun (v : Nat) => ((L.count (v : Int) : Nat) : Int)
theorem cntB_len (L : List Int) : (cntB L).length = 256 := by simp [cntB]
theorem cntB_get (L : List Int) {v : Nat} (h : v < 256) : (cntB L).getD v 0 = ((L.count (v : Int) : Nat) : Int) := by
  unfold cntB
  rw [List.getD_eq_getElem?_getD, List.getElem?_map, List.getElem?_range h]; rfl
theorem cntB_nil : cntB [] = List.replicate 256 0 := by
  unfold cntB
  simp only [List.count_nil]
  rw [List.map_const', List.length_range]
  rfl
theorem cntB_snoc (L : List Int) {x : Int} (h0 : 0 ≤ x) (h1 : x < 256) : cntB (L ++ [x]) = (cntB L).set x.toNat ((cntB L).getD x.toNat 0 + 1) := by
  have hx : x.toNat < 256 := by omega
  rw [cntB_get L hx]
  refine List.ext_getElem (by simp [cntB]) fun v h2 h3 => ?_
  have hv : v < 256 := by simpa [cntB] using h2
  rw [List.getElem_set]
  simp only [cntB, List.getElem_map, List.getElem_range, List.count_append]
  split
  · rename_i e
    subst e
    have e2 : ((x.toNat : Nat) : Int) = x := by omega
    rw [e2]
    simp
  · rename_i e
    have e2 : List.count (v : Int) [x] = 0 := by
      rw [List.count_eq_zero, List.mem_singleton]
      omega
    rw [e2]
    omega
/-- How many are below v. -/
def belowC (L : List Int) (v : Int) : Nat := L.countP fun x => decide (x < v)
theorem belowC_succ (L : List Int) (v : Int) : belowC L (v + 1) = belowC L v + L.count v := by
  unfold belowC
  induction L with
  | nil => rfl
  | cons x L ih =>
    rw [List.countP_cons, List.countP_cons, List.count_cons, ih]
    by_cases h1 : x < v
    · rw [if_pos (by simpa using (by omega : x < v + 1)), if_pos (by simpa using h1), if_neg (by simp; omega)]
      omega
    · by_cases h2 : x = v
      · subst h2
        rw [if_pos (by simp; omega), if_neg (by simp), if_pos (by simp)]
        omega
      · rw [if_neg (by simp; omega), if_neg (by simpa using h1), if_neg (by simpa using h2)]; omega
theorem belowC_zero {L : List Int} (h : ∀ x, x ∈ L → 0 ≤ x) : belowC L 0 = 0 := by
  unfold belowC
  rw [List.countP_eq_zero]
  intro x hx
  have := h x hx
  simp; omega
theorem belowC_all {L : List Int} {b : Int} (h : ∀ x, x ∈ L → x < b) : belowC L b = L.length := by
  unfold belowC
  rw [List.countP_eq_length]
  intro x hx
  simpa using h x hx
theorem belowC_le (L : List Int) (v : Int) : belowC L v ≤ L.length := List.countP_le_length
theorem sortI_below (L : List Int) (v : Int) : belowC (sortI L) v = belowC L v := (List.mergeSort_perm L _).countP_eq _
theorem sortI_asc (L : List Int) {i j : Nat} (hij : i ≤ j) (hj : j < (sortI L).length) : (sortI L).getD i 0 ≤ (sortI L).getD j 0 := by
  have hs : (sortI L).Pairwise (fun a b => decide (a ≤ b) = true) := List.pairwise_mergeSort (fun a b c h1 h2 => by simp at *; omega) (fun a b => by simp; omega) L
  rw [getD_lt (by omega), getD_lt hj]
  rcases Nat.lt_or_eq_of_le hij with h | h
  · have := (List.pairwise_iff_getElem.1 hs) i j (by omega) hj h
    simpa using this
  · subst h; exact Int.le_refl _
theorem mid_eq {L : List Int} {k : Nat} {v : Int} (h1 : belowC L v ≤ k) (h2 : k < belowC L (v + 1)) : (sortI L).getD k 0 = v := by
  have hl : (sortI L).length = L.length := (List.mergeSort_perm L _).length_eq
  have hk : k < (sortI L).length := by have := belowC_le L (v + 1); omega
  rw [← sortI_below] at h1 h2
  have hsplit : ∀ m x, belowC (sortI L) x = belowC ((sortI L).take m) x + belowC ((sortI L).drop m) x := fun m x => by
    unfold belowC
    rw [← List.countP_append, List.take_append_drop]
  have hge : v ≤ (sortI L).getD k 0 := by
    refine Classical.byContradiction fun hlt => ?_
    have ha := hsplit (k + 1) v
    have hb : belowC ((sortI L).take (k + 1)) v = ((sortI L).take (k + 1)).length := belowC_all fun x hx => by
      obtain ⟨q, hq, rfl⟩ := List.mem_take_iff_getElem.1 hx
      have := sortI_asc L (i := q) (j := k) (by omega) hk
      rw [getD_lt (by omega)] at this
      omega
    rw [List.length_take] at hb
    omega
  have hle : (sortI L).getD k 0 ≤ v := by
    refine Classical.byContradiction fun hgt => ?_
    have ha := hsplit k (v + 1)
    have hb : belowC ((sortI L).drop k) (v + 1) = 0 := by
      unfold belowC
      rw [List.countP_eq_zero]
      intro x hx
      obtain ⟨q, hq, rfl⟩ := List.mem_drop_iff_getElem.1 hx
      have := sortI_asc L (i := k) (j := k + q) (by omega) (by omega)
      rw [getD_lt (l := sortI L) (i := k + q) (by omega)] at this
      simp; omega
    have hc := belowC_le ((sortI L).take k) (v + 1)
    rw [List.length_take] at hc
    omega
  omega
end Go.Fv.M

namespace Go.Fv.M
open Go Go.Proofs
set_option linter.unusedSimpArgs false
set_option linter.unusedVariables false
set_option maxRecDepth 8000

end Go.Fv.M

namespace Go.Fv.M
open Go Go.Proofs
set_option linter.unusedSimpArgs false
set_option linter.unusedVariables false
set_option maxRecDepth 8000
end Go.Fv.M

namespace Go.Fv.M
open Go Go.Proofs
set_option linter.unusedSimpArgs false
set_option linter.unusedVariables false
set_option maxRecDepth 8000

def segL (v : Nat → Int) (w y l n : Nat) : List Int := (List.range n).map fun i => v (y * w + (l + i))
def boxL (v : Nat → Int) (w t l n : Nat) : Nat → List Int
  | 0 => []
  | m + 1 => boxL v w t l n m ++ segL v w (t + m) l n
theorem segL_succ (v : Nat → Int) (w y l n : Nat) : segL v w y l (n + 1) = segL v w y l n ++ [v (y * w + (l + n))] := by
  simp [segL, List.range_succ]
theorem segL_len (v : Nat → Int) (w y l n : Nat) : (segL v w y l n).length = n := by simp [segL]
theorem boxL_len (v : Nat → Int) (w t l n : Nat) : ∀ m, (boxL v w t l n m).length = m * n
  | 0 => by simp [boxL]
  | m + 1 => by simp [boxL, boxL_len v w t l n m, segL_len, Nat.succ_mul]
theorem boxL_mem {v : Nat → Int} (hv : ∀ i, 0 ≤ v i ∧ v i ≤ 255) (w t l n : Nat) : ∀ m x, x ∈ boxL v w t l n m → 0 ≤ x ∧ x ≤ 255
  | 0, x, h => by simp [boxL] at h
  | m + 1, x, h => by
    rcases List.mem_append.1 h with h | h
    · exact boxL_mem hv w t l n m x h
    · obtain ⟨i, _, rfl⟩ := List.mem_map.1 h
      exact hv _

end Go.Fv.M

/- slices.Sort of ints, by the shelf. -/
namespace Go.Proofs
open Go.Shelf
def Tryd.lSort_ren : Go.Shelf.Ren := ⟨fun | 5 => 59 | 8 => 93 | 7 => 92 | 19 => 120 | 20 => 121 | 10 => 111 | 11 => 112 | 12 => 113 | 13 => 114 | 14 => 115 | 15 => 116 | 16 => 117 | 17 => 118 | 18 => 119 | 30 => 126 | 31 => 127 | 32 => 128 | 33 => 129 | 34 => 130 | 35 => 131 | 40 => 135 | n => n, fun | 23 => 53 | 25 => 3 | 3 => 3 | 32 => 114 | 22 => 53 | 0 => 0 | 44 => 137 | 46 => 139 | 4 => 4 | 36 => 130 | 35 => 129 | 41 => 134 | 5 => 5 | 9 => 9 | 53 => 144 | 57 => 148 | 63 => 151 | 64 => 50 | n => n, fun | n => n⟩
theorem Tryd.lSort : Go.Proofs.SlLaysM.n5 Tryd.prog Tryd.lSort_ren := {
  mixed := by kernel_rfl
  f5 := ⟨Tryd.f59.name, by decide, Tryd.func59.trans (congrArg some (by kernel_rfl))⟩
  f7 := ⟨Tryd.f92.name, by decide, Tryd.func92.trans (congrArg some (by kernel_rfl))⟩
  f8 := Tryd.func93.trans (congrArg some (by kernel_rfl))
  f10 := ⟨Tryd.f111.name, by decide, Tryd.func111.trans (congrArg some (by kernel_rfl))⟩
  f11 := ⟨Tryd.f112.name, by decide, Tryd.func112.trans (congrArg some (by kernel_rfl))⟩
  f12 := ⟨Tryd.f113.name, by decide, Tryd.func113.trans (congrArg some (by kernel_rfl))⟩
  f13 := ⟨Tryd.f114.name, by decide, Tryd.func114.trans (congrArg some (by kernel_rfl))⟩
  f14 := ⟨Tryd.f115.name, by decide, Tryd.func115.trans (congrArg some (by kernel_rfl))⟩
  f15 := ⟨Tryd.f116.name, by decide, Tryd.func116.trans (congrArg some (by kernel_rfl))⟩
  f16 := ⟨Tryd.f117.name, by decide, Tryd.func117.trans (congrArg some (by kernel_rfl))⟩
  f17 := ⟨Tryd.f118.name, by decide, Tryd.func118.trans (congrArg some (by kernel_rfl))⟩
  f18 := ⟨Tryd.f119.name, by decide, Tryd.func119.trans (congrArg some (by kernel_rfl))⟩
  f19 := Tryd.func120.trans (congrArg some (by kernel_rfl))
  f20 := Tryd.func121.trans (congrArg some (by kernel_rfl))
  f30 := ⟨Tryd.f126.name, by decide, Tryd.func126.trans (congrArg some (by kernel_rfl))⟩
  f31 := Tryd.func127.trans (congrArg some (by kernel_rfl))
  f32 := Tryd.func128.trans (congrArg some (by kernel_rfl))
  f33 := ⟨Tryd.f129.name, by decide, Tryd.func129.trans (congrArg some (by kernel_rfl))⟩
  f34 := ⟨Tryd.f130.name, by decide, Tryd.func130.trans (congrArg some (by kernel_rfl))⟩
  f35 := ⟨Tryd.f131.name, by decide, Tryd.func131.trans (congrArg some (by kernel_rfl))⟩
  f40 := ⟨Tryd.f135.name, by decide, Tryd.func135.trans (congrArg some (by kernel_rfl))⟩
  t0 := Tryd.underlying0
  a0 := Tryd.isAgg0
  z0 := Tryd.sizeOf0
  v0 := Tryd.zeroValue0
  t3 := Tryd.underlying3
  a3 := Tryd.isAgg3
  z3 := Tryd.sizeOf3
  v3 := Tryd.zeroValue3
  t4 := Tryd.underlying4
  a4 := Tryd.isAgg4
  z4 := Tryd.sizeOf4
  v4 := Tryd.zeroValue4
  t5 := Tryd.underlying5
  a5 := Tryd.isAgg5
  z5 := Tryd.sizeOf5
  v5 := Tryd.zeroValue5
  t9 := Tryd.underlying9
  a9 := Tryd.isAgg9
  z9 := Tryd.sizeOf9
  v9 := Tryd.zeroValue9
  t22 := Tryd.underlying53
  a22 := Tryd.isAgg53
  z22 := Tryd.sizeOf53
  v22 := Tryd.zeroValue53
  t23 := Tryd.underlying53
  a23 := Tryd.isAgg53
  z23 := Tryd.sizeOf53
  v23 := Tryd.zeroValue53
  t25 := Tryd.underlying3
  a25 := Tryd.isAgg3
  z25 := Tryd.sizeOf3
  v25 := Tryd.zeroValue3
  t32 := Tryd.underlying114
  a32 := Tryd.isAgg114
  z32 := Tryd.sizeOf114
  v32 := Tryd.zeroValue114
  t35 := Tryd.underlying129
  a35 := Tryd.isAgg129
  z35 := Tryd.sizeOf129
  v35 := Tryd.zeroValue129
  t36 := Tryd.underlying130
  a36 := Tryd.isAgg130
  z36 := Tryd.sizeOf130
  v36 := Tryd.zeroValue130
  t41 := Tryd.underlying134
  a41 := Tryd.isAgg134
  z41 := Tryd.sizeOf134
  v41 := Tryd.zeroValue134
  t44 := Tryd.underlying137
  a44 := Tryd.isAgg137
  z44 := Tryd.sizeOf137
  v44 := Tryd.zeroValue137
  t46 := Tryd.underlying139
  a46 := Tryd.isAgg139
  z46 := Tryd.sizeOf139
  v46 := Tryd.zeroValue139
  t53 := Tryd.underlying144
  a53 := Tryd.isAgg144
  z53 := Tryd.sizeOf144
  v53 := Tryd.zeroValue144
  t57 := Tryd.underlying148
  a57 := Tryd.isAgg148
  z57 := Tryd.sizeOf148
  v57 := Tryd.zeroValue148
  t63 := Tryd.underlying151
  a63 := Tryd.isAgg151
  z63 := Tryd.sizeOf151
  v63 := Tryd.zeroValue151
  t64 := Tryd.underlying50
  a64 := Tryd.isAgg50
  z64 := Tryd.sizeOf50
  v64 := Tryd.zeroValue50 }
end Go.Proofs
namespace Go.Fv.M
open Go Go.Proofs
end Go.Fv.M

/- slices.Sort of ints, as a contract that writes the caller's row. -/
namespace Go.Fv.M
open Go Go.Proofs
theorem sortR_ok (l : List Int) (hl : l.length ≤ 1000000000) : FnIO Tryd.prog 59 [.own 0] [(0, .row 3 (.ints .i64 l))] 1 (.tup []) [(0, .row 3 (.ints .i64 (Go.Fv.sortI l)))] :=
  Go.Fv.sortInts_io Tryd.lSort ⟨_, Tryd.func59, by kernel_rfl, by kernel_rfl⟩ 3 l (by omega)
theorem cov1 {a : Item} : ∀ j, j < 1 → ∃ it, lk [(0, a)] j = some it
  | 0, _ => ⟨_, rfl⟩
  | _ + 1, h => absurd h (by omega)
end Go.Fv.M

/- Middle and the reference's: the walk. -/
namespace Go.Fv.M
open Go Go.Proofs
set_option linter.unusedSimpArgs false
set_option linter.unusedVariables false
set_option linter.unnecessarySimpa false
set_option maxRecDepth 8000

theorem getD_byte {p : List Int} (h : ∀ x, x ∈ p → 0 ≤ x ∧ x ≤ 255) (i : Nat) : 0 ≤ p.getD i 0 ∧ p.getD i 0 ≤ 255 := by
  rcases Nat.lt_or_ge i p.length with hi | hi
  · rw [getD_lt hi]; exact h _ (List.getElem_mem hi)
  · have : p.getD i 0 = 0 := by simp [List.getD, List.getElem?_eq_none hi]
    omega
set_option maxHeartbeats 2000000 in
theorem refAround_ok (w h : Nat) (hw : w ≤ 4000) (hh : h ≤ 4000) (p : List Int) (hp : p.length = w * h) (hb : ∀ x, x ∈ p → 0 ≤ x ∧ x ≤ 255) (x y r : Nat) (hx : x < w) (hy : y < h) (hr : r ≤ 4000) :
    FnOk Tryd.prog 71 [.agg [.int .i64 w, .int .i64 h, .ro (.ints .u8 p)], .int .i64 x, .int .i64 y, .int .i64 r] (.own 0)
      [(0, .row 3 (.ints .i64 (boxL (fun i => p.getD i 0) w (y - r) (x - r) (min (x + r + 1) w - (x - r)) (min (y + r + 1) h - (y - r)))))] := by
  have hv := getD_byte hb
  have e1 : max ((x : Int) - r) 0 = ((x - r : Nat) : Int) := by omega
  have e2 : max ((y : Int) - r) 0 = ((y - r : Nat) : Int) := by omega
  have e3 : min ((x : Int) + r) ((w : Int) - 1) = ((min (x + r + 1) w : Nat) : Int) - 1 := by omega
  have e4 : min ((y : Int) + r) ((h : Int) - 1) = ((min (y + r + 1) h : Nat) : Int) - 1 := by omega
  have q1 : (x - r) + (min (x + r + 1) w - (x - r)) = min (x + r + 1) w := by omega
  have q2 : (y - r) + (min (y + r + 1) h - (y - r)) = min (y + r + 1) h := by omega
  have q3 : min (x + r + 1) w ≤ w := by omega
  have q4 : min (y + r + 1) h ≤ h := by omega
  generalize hW : min (x + r + 1) w - (x - r) = W at *
  generalize hH : min (y + r + 1) h - (y - r) = H at *
  generalize hX : min (x + r + 1) w = X at *
  generalize hY : min (y + r + 1) h = Y at *
  generalize hl : x - r = l at *
  generalize ht : y - r = t at *
  refine FnOk.of_vc Tryd.func71 rfl (by decide) (by simp [Tryd.f71]) [.tmp 8] rfl fun w0 T0 _ => ?_
  simp only [Tryd.f71, argEnv]
  (repeat' first | with_reducible (first | refine Asm.intro fun _ => ?_ | refine Chk.g ?_ | refine AnyI.i64 fun _ _ => ?_ | refine LetW.g ?_ | refine LetW.h ?_ | refine Ite.t fun _ => ?_ | refine Ite.f fun _ => ?_ | refine Ite.decide (fun _ => ?_) fun _ => ?_ | refine Ite.bool (fun _ => ?_) fun _ => ?_ | refine And.intro ?_ ?_) | omega | simp (maxSteps := 1000000) only [go_sem, reduceCtorEq, Nat.reduceLT, Nat.reduceLeDiff, reduceIte, ↓reduceIte, Nat.reduceEqDiff, Nat.reduceAdd, Nat.reduceMul, Nat.reduceSub, Int.reduceLE, Int.reduceLT, Int.reduceNeg, Int.reduceToNat, e1, e2, e3, e4])
  refine VcLoop.intro (fun j : Nat => ⟨57, [(10, .int .i64 (t + j : Nat)), (9, .own 2), (4, .ptr 0 0), (1, .int .i64 x), (2, .int .i64 y), (3, .int .i64 r)], [(0, .box 59 [.int .i64 w, .int .i64 h, .ro (.ints .u8 p)]), (2, .row 3 (.ints .i64 (boxL (fun i => p.getD i 0) w t l W j)))], 3⟩) (fun j => j ≤ H) (fun j => H - j) 0 ?_ (Nat.zero_le _) fun j hj => ?_
  · refine Ent.auto0 rfl ?_ ?_ <;> simp only [go_sem, reduceCtorEq, reduceIte, Nat.reduceEqDiff, Nat.reduceLT, Nat.reduceLeDiff, Int.natCast_succ, Nat.add_zero, boxL]
  (repeat' first | with_reducible (first | refine Asm.intro fun _ => ?_ | refine Chk.g ?_ | refine AnyI.i64 fun _ _ => ?_ | refine LetW.g ?_ | refine LetW.h ?_ | refine Ite.t fun _ => ?_ | refine Ite.f fun _ => ?_ | refine Ite.decide (fun _ => ?_) fun _ => ?_ | refine Ite.bool (fun _ => ?_) fun _ => ?_ | refine And.intro ?_ ?_) | omega | simp (maxSteps := 1000000) only [go_sem, reduceCtorEq, Nat.reduceLT, Nat.reduceLeDiff, reduceIte, ↓reduceIte, Nat.reduceEqDiff, Nat.reduceAdd, Nat.reduceMul, Nat.reduceSub, Int.reduceLE, Int.reduceLT, Int.reduceNeg, Int.reduceToNat, e1, e2, e3, e4])
  · refine VcLoop.intro (fun i : Nat => ⟨57, [(11, .int .i64 (l + i : Nat)), (10, .int .i64 (t + j : Nat)), (9, .own 2), (4, .ptr 0 0), (1, .int .i64 x), (2, .int .i64 y), (3, .int .i64 r)], [(0, .box 59 [.int .i64 w, .int .i64 h, .ro (.ints .u8 p)]), (2, .row 3 (.ints .i64 (boxL (fun i => p.getD i 0) w t l W j ++ segL (fun i => p.getD i 0) w (t + j) l i)))], 3⟩) (fun i => i ≤ W) (fun i => W - i) 0 ?_ (Nat.zero_le _) fun i hi => ?_
    · refine Ent.auto0 rfl ?_ ?_ <;> simp only [go_sem, reduceCtorEq, reduceIte, Nat.reduceEqDiff, Nat.reduceLT, Nat.reduceLeDiff, Int.natCast_succ, Nat.add_zero, segL, List.range_zero, List.map_nil, List.append_nil]
    (repeat' first | with_reducible (first | refine Asm.intro fun _ => ?_ | refine Chk.g ?_ | refine AnyI.i64 fun _ _ => ?_ | refine LetW.g ?_ | refine LetW.h ?_ | refine Ite.t fun _ => ?_ | refine Ite.f fun _ => ?_ | refine Ite.decide (fun _ => ?_) fun _ => ?_ | refine Ite.bool (fun _ => ?_) fun _ => ?_ | refine And.intro ?_ ?_) | omega | simp (maxSteps := 1000000) only [go_sem, reduceCtorEq, Nat.reduceLT, Nat.reduceLeDiff, reduceIte, ↓reduceIte, Nat.reduceEqDiff, Nat.reduceAdd, Nat.reduceMul, Nat.reduceSub, Int.reduceLE, Int.reduceLT, Int.reduceNeg, Int.reduceToNat, e1, e2, e3, e4])
    · have b1 : (t + j) * w + w ≤ h * w := by rw [← Nat.succ_mul]; exact Nat.mul_le_mul_right _ (by omega)
      have b2 : h * w ≤ 4000 * 4000 := Nat.mul_le_mul hh hw
      have b3 : w * h = h * w := Nat.mul_comm _ _
      have b4 : (boxL (fun i => p.getD i 0) w t l W j).length ≤ 4000 * 4000 := by rw [boxL_len]; exact Nat.mul_le_mul (by omega) (by omega)
      have b5 := segL_len (fun i => p.getD i 0) w (t + j) l i
      have b6 := getD_byte hb ((t + j) * w + (l + i))
      have b7 := segL_succ (fun i => p.getD i 0) w (t + j) l i
      simp only [up_add, up_one, up_mul, Int.toNat_natCast]
      (repeat' first | (with_reducible refine Asm.intro fun _ => ?_) | ((with_reducible refine Chk.intro ?_ ?_); (· first | omega | (with_reducible refine Chk.intro ?_ ?_ <;> omega) | (simp; done) | (simp; omega))) | ((with_reducible refine LetW.i64 ?_ ?_ ?_); (· omega); (· omega)) | ((with_reducible refine Ite.decide (fun _ => ?_) (fun _ => ?_)) <;> first | (exfalso; omega) | simp (maxSteps := 1000000) only [go_sem, reduceCtorEq, Nat.reduceLT, Nat.reduceLeDiff, reduceIte, ↓reduceIte, Nat.reduceEqDiff, Nat.reduceAdd, Nat.reduceMul, Nat.reduceSub, Int.reduceLE, Int.reduceLT, Int.reduceNeg, Int.reduceToNat]) | ((with_reducible refine Ite.bool (fun _ => ?_) (fun _ => ?_)) <;> simp (maxSteps := 1000000) only [go_sem, reduceCtorEq, Nat.reduceLT, Nat.reduceLeDiff, reduceIte, ↓reduceIte, Nat.reduceEqDiff, Nat.reduceAdd, Nat.reduceMul, Nat.reduceSub, Int.reduceLE, Int.reduceLT, Int.reduceNeg, Int.reduceToNat]) | (with_reducible refine And.intro ?_ ?_))
      simp only [up_add, up_one, up_mul, Int.toNat_natCast]
      (repeat' first | (with_reducible refine Asm.intro fun _ => ?_) | ((with_reducible refine Chk.intro ?_ ?_); (· first | omega | (with_reducible refine Chk.intro ?_ ?_ <;> omega) | (simp; done) | (simp; omega))) | ((with_reducible refine LetW.i64 ?_ ?_ ?_); (· omega); (· omega)) | ((with_reducible refine Ite.decide (fun _ => ?_) (fun _ => ?_)) <;> first | (exfalso; omega) | simp (maxSteps := 1000000) only [go_sem, reduceCtorEq, Nat.reduceLT, Nat.reduceLeDiff, reduceIte, ↓reduceIte, Nat.reduceEqDiff, Nat.reduceAdd, Nat.reduceMul, Nat.reduceSub, Int.reduceLE, Int.reduceLT, Int.reduceNeg, Int.reduceToNat]) | ((with_reducible refine Ite.bool (fun _ => ?_) (fun _ => ?_)) <;> simp (maxSteps := 1000000) only [go_sem, reduceCtorEq, Nat.reduceLT, Nat.reduceLeDiff, reduceIte, ↓reduceIte, Nat.reduceEqDiff, Nat.reduceAdd, Nat.reduceMul, Nat.reduceSub, Int.reduceLE, Int.reduceLT, Int.reduceNeg, Int.reduceToNat]) | (with_reducible refine And.intro ?_ ?_))
      refine ⟨i + 1, Ent.auto0 rfl ?_ ?_, by omega, by omega⟩ <;> simp only [go_sem, reduceCtorEq, reduceIte, Nat.reduceEqDiff, Nat.reduceLT, Nat.reduceLeDiff, Int.natCast_succ, b7]
      all_goals first | rfl | simp | skip
    · refine ⟨j + 1, Ent.auto0 rfl ?_ ?_, by omega, by omega⟩ <;> simp only [go_sem, reduceCtorEq, reduceIte, Nat.reduceEqDiff, Nat.reduceLT, Nat.reduceLeDiff, Int.natCast_succ, boxL]
      all_goals first | rfl | (have e : i = W := by omega
                               rw [e])
  · have e : j = H := by omega
    subst e
    refine Ret.auto 1 ?_ rfl ?_ <;> simp only [go_sem, reduceCtorEq, reduceIte, Nat.reduceEqDiff, Nat.reduceLT, Nat.reduceLeDiff, Int.natCast_succ, Post]

def sqL (p : List Int) (w h x y r : Nat) : List Int := boxL (fun i => p.getD i 0) w (y - r) (x - r) (min (x + r + 1) w - (x - r)) (min (y + r + 1) h - (y - r))
def midV (p : List Int) (w h r x y : Nat) : Int := (sortI (sqL p w h x y r)).getD (((sqL p w h x y r).length - 1) / 2) 0
theorem sqL_pos {p : List Int} {w h x y r : Nat} (hx : x < w) (hy : y < h) : 0 < (sqL p w h x y r).length ∧ (sqL p w h x y r).length ≤ h * w := by
  unfold sqL
  rw [boxL_len]
  exact ⟨Nat.mul_pos (by omega) (by omega), Nat.mul_le_mul (by omega) (by omega)⟩
theorem arr_load {L : List Int} {q : Nat} (h : q < L.length) : List.drop q (L.map (AV.int .i64)) = .int .i64 (L.getD q 0) :: List.drop (q + 1) (L.map (AV.int .i64)) := by
  rw [List.drop_eq_getElem_cons (by simpa using h), List.getElem_map, getD_lt h]
theorem a256z : zeroOf Tryd.prog 95 = some (.agg (Array.replicate 256 (.int .i64 0))) := by kernel_rfl
theorem a256c : Tryd.prog.cellsOf 95 = 256 := by kernel_rfl
set_option maxHeartbeats 8000000 in
theorem middle1_ok (w h : Nat) (hw1 : 1 ≤ w) (hw : w ≤ 1000) (hh : h ≤ 1000) (p : List Int) (hp : p.length = w * h) (hb : ∀ x, x ∈ p → 0 ≤ x ∧ x ≤ 255) (r : Nat) (hr : r ≤ 5) (i : Nat) (hi : i < w * h) :
    FnOk Tryd.prog 69 [.int .i64 i, .cell [.int .i64 w, .int .i64 h, .ro (.ints .u8 p)], .cell [.int .i64 r]] (.int .i64 (midV p w h r (i % w) (i / w))) [] := by
  have hx := Nat.mod_lt i (show 0 < w by omega)
  have hy : i / w < h := Nat.div_lt_of_lt_mul hi
  have hv := getD_byte hb
  unfold midV
  obtain ⟨hL0, hL1⟩ := sqL_pos (p := p) (r := r) hx hy
  generalize hx0 : i % w = x at *
  generalize hy0 : i / w = y at *
  have hLm : ∀ v, v ∈ sqL p w h x y r → 0 ≤ v ∧ v ≤ 255 := fun v hm => by
    unfold sqL at hm
    exact boxL_mem hv _ _ _ _ _ v hm
  generalize hL : sqL p w h x y r = L at *
  unfold sqL at hL
  have e1 : max ((x : Int) - r) 0 = ((x - r : Nat) : Int) := by omega
  have e2 : max ((y : Int) - r) 0 = ((y - r : Nat) : Int) := by omega
  have e3 : min ((x : Int) + r) ((w : Int) - 1) = ((min (x + r + 1) w : Nat) : Int) - 1 := by omega
  have e4 : min ((y : Int) + r) ((h : Int) - 1) = ((min (y + r + 1) h : Nat) : Int) - 1 := by omega
  have q1 : (x - r) + (min (x + r + 1) w - (x - r)) = min (x + r + 1) w := by omega
  have q2 : (y - r) + (min (y + r + 1) h - (y - r)) = min (y + r + 1) h := by omega
  have q3 : min (x + r + 1) w ≤ w := by omega
  have q4 : min (y + r + 1) h ≤ h := by omega
  generalize hW : min (x + r + 1) w - (x - r) = W at *
  generalize hH : min (y + r + 1) h - (y - r) = H at *
  generalize hX : min (x + r + 1) w = X at *
  generalize hY : min (y + r + 1) h = Y at *
  generalize hl : x - r = l at *
  generalize ht : y - r = t at *
  refine FnOk.of_vc Tryd.func69 rfl (by decide) (by simp [Tryd.f69]) [.tmp 4] rfl fun w0 T0 _ => ?_
  simp only [Tryd.f69, argEnv]
  (repeat' first | with_reducible (first | refine Asm.intro fun _ => ?_ | refine Chk.g ?_ | refine AnyI.i64 fun _ _ => ?_ | refine LetW.g ?_ | refine LetW.h ?_ | refine Ite.t fun _ => ?_ | refine Ite.f fun _ => ?_ | refine Ite.decide (fun _ => ?_) fun _ => ?_ | refine Ite.bool (fun _ => ?_) fun _ => ?_ | refine And.intro ?_ ?_) | omega | simp (maxSteps := 1000000) only [go_sem, reduceCtorEq, Nat.reduceLT, Nat.reduceLeDiff, reduceIte, ↓reduceIte, Nat.reduceEqDiff, Nat.reduceAdd, Nat.reduceMul, Nat.reduceSub, Int.reduceLE, Int.reduceLT, Int.reduceNeg, Int.reduceToNat])
  refine VcDraw.lex [] [] (by kernel_rfl) (by kernel_rfl) ?_
  (repeat' first | with_reducible (first | refine Asm.intro fun _ => ?_ | refine Chk.g ?_ | refine AnyI.i64 fun _ _ => ?_ | refine LetW.g ?_ | refine LetW.h ?_ | refine Ite.t fun _ => ?_ | refine Ite.f fun _ => ?_ | refine Ite.decide (fun _ => ?_) fun _ => ?_ | refine Ite.bool (fun _ => ?_) fun _ => ?_ | refine And.intro ?_ ?_) | omega | simp (maxSteps := 1000000) only [go_sem, reduceCtorEq, Nat.reduceLT, Nat.reduceLeDiff, reduceIte, ↓reduceIte, Nat.reduceEqDiff, Nat.reduceAdd, Nat.reduceMul, Nat.reduceSub, Int.reduceLE, Int.reduceLT, Int.reduceNeg, Int.reduceToNat, up_tmod, up_tdiv, hx0, hy0, e1, e2, e3, e4, a256z, a256c, minmax, forall_const, List.forall_mem_replicate, Array.toList_replicate])
  refine VcLoop.intro (fun j : Nat => ⟨83, [(9, .int .i64 (t + j : Nat)), (8, .int .i64 (boxL (fun i => p.getD i 0) w t l W j).length), (7, .ptr 0 0), (5, .int .i64 x), (6, .int .i64 y), (1, .cell [.int .i64 w, .int .i64 h, .ro (.ints .u8 p)]), (2, .cell [.int .i64 r])], [(0, .box 95 ((cntB (boxL (fun i => p.getD i 0) w t l W j)).map (.int .i64)))], 1⟩) (fun j => j ≤ H) (fun j => H - j) 0 ?_ (Nat.zero_le _) fun j hj => ?_
  · refine Ent.auto0 rfl ?_ ?_ <;> simp only [go_sem, reduceCtorEq, reduceIte, Nat.reduceEqDiff, Nat.reduceLT, Nat.reduceLeDiff, Int.natCast_succ, Nat.add_zero, boxL, cntB_nil, List.map_replicate]
    all_goals trace_state
  have hm1 : ∀ j v, v ∈ boxL (fun i => p.getD i 0) w t l W j → 0 ≤ v ∧ v ≤ 255 := fun j v hm => boxL_mem hv _ _ _ _ _ v hm
  have b2 : h * w ≤ 1000 * 1000 := Nat.mul_le_mul hh hw
  have b4 : (boxL (fun i => p.getD i 0) w t l W j).length ≤ 1000 * 1000 := by rw [boxL_len]; exact Nat.mul_le_mul (by omega) (by omega)
  by_cases hjl : j < H
  · (repeat' first | with_reducible (first | refine Asm.intro fun _ => ?_ | refine Chk.g ?_ | refine AnyI.i64 fun _ _ => ?_ | refine LetW.g ?_ | refine LetW.h ?_ | refine Ite.t fun _ => ?_ | refine Ite.f fun _ => ?_ | refine Ite.decide (fun _ => ?_) fun _ => ?_ | refine Ite.bool (fun _ => ?_) fun _ => ?_ | refine And.intro ?_ ?_) | omega | simp (maxSteps := 1000000) only [go_sem, reduceCtorEq, Nat.reduceLT, Nat.reduceLeDiff, reduceIte, ↓reduceIte, Nat.reduceEqDiff, Nat.reduceAdd, Nat.reduceMul, Nat.reduceSub, Int.reduceLE, Int.reduceLT, Int.reduceNeg, Int.reduceToNat, e1, e2, e3, e4, minmax])
    refine VcLoop.intro (fun i : Nat => ⟨83, [(10, .int .i64 (l + i : Nat)), (9, .int .i64 (t + j : Nat)), (8, .int .i64 (boxL (fun i => p.getD i 0) w t l W j ++ segL (fun i => p.getD i 0) w (t + j) l i).length), (7, .ptr 0 0), (5, .int .i64 x), (6, .int .i64 y), (1, .cell [.int .i64 w, .int .i64 h, .ro (.ints .u8 p)]), (2, .cell [.int .i64 r])], [(0, .box 95 ((cntB (boxL (fun i => p.getD i 0) w t l W j ++ segL (fun i => p.getD i 0) w (t + j) l i)).map (.int .i64)))], 1⟩) (fun i => i ≤ W) (fun i => W - i) 0 ?_ (Nat.zero_le _) fun i hi2 => ?_
    · refine Ent.auto0 rfl ?_ ?_ <;> simp only [go_sem, reduceCtorEq, reduceIte, Nat.reduceEqDiff, Nat.reduceLT, Nat.reduceLeDiff, Int.natCast_succ, Nat.add_zero, segL, List.range_zero, List.map_nil, List.append_nil]
    by_cases hil : i < W
    · have b1 : (t + j) * w + w ≤ h * w := by rw [← Nat.succ_mul]; exact Nat.mul_le_mul_right _ (by omega)
      have b3 : w * h = h * w := Nat.mul_comm _ _
      have b5 := segL_len (fun i => p.getD i 0) w (t + j) l i
      have b6 := hv ((t + j) * w + (l + i))
      have b7 : boxL (fun i => p.getD i 0) w t l W j ++ segL (fun i => p.getD i 0) w (t + j) l (i + 1) = (boxL (fun i => p.getD i 0) w t l W j ++ segL (fun i => p.getD i 0) w (t + j) l i) ++ [p.getD ((t + j) * w + (l + i)) 0] := by rw [segL_succ, List.append_assoc]
      generalize hC : boxL (fun i => p.getD i 0) w t l W j ++ segL (fun i => p.getD i 0) w (t + j) l i = C at *
      have b13 : (boxL (fun i => p.getD i 0) w t l W j).length + (segL (fun i => p.getD i 0) w (t + j) l (i + 1)).length = C.length + 1 := by rw [← List.length_append, b7]; simp
      have hCl : C.length ≤ 2000000 := by rw [← hC, List.length_append, b5]; omega
      have b8 := cntB_snoc C (x := p.getD ((t + j) * w + (l + i)) 0) (by omega) (by omega)
      generalize hb0 : p.getD ((t + j) * w + (l + i)) 0 = b at *
      obtain ⟨q, rfl⟩ : ∃ q : Nat, b = q := ⟨b.toNat, by omega⟩
      rw [Int.toNat_natCast] at b8
      have hq : q < 256 := by omega
      have b9 := cntB_len C
      have b10 := arr_load (L := cntB C) (q := q) (by omega)
      have b11 := cntB_get C hq
      have b12 := List.count_le_length (a := (q : Int)) (l := C)
      rw [b11] at b10 b8
      (repeat' first | with_reducible (first | refine Asm.intro fun _ => ?_ | refine Chk.g ?_ | refine AnyI.i64 fun _ _ => ?_ | refine LetW.g ?_ | refine LetW.h ?_ | refine Ite.t fun _ => ?_ | refine Ite.f fun _ => ?_ | refine Ite.decide (fun _ => ?_) fun _ => ?_ | refine Ite.bool (fun _ => ?_) fun _ => ?_ | refine And.intro ?_ ?_) | omega | simp (maxSteps := 1000000) only [go_sem, reduceCtorEq, Nat.reduceLT, Nat.reduceLeDiff, reduceIte, ↓reduceIte, Nat.reduceEqDiff, Nat.reduceAdd, Nat.reduceMul, Nat.reduceSub, Int.reduceLE, Int.reduceLT, Int.reduceNeg, Int.reduceToNat, e1, e2, e3, e4, minmax, up_mul, up_add, Int.toNat_natCast, hb0, b9, b10, a256c])
      refine ⟨i + 1, Ent.auto0 rfl ?_ ?_, by omega, by omega⟩ <;> simp only [go_sem, reduceCtorEq, reduceIte, Nat.reduceEqDiff, Nat.reduceLT, Nat.reduceLeDiff, Int.natCast_succ, b7, b8]
      all_goals omega
    · have e : i = W := by omega
      subst e
      (repeat' first | with_reducible (first | refine Asm.intro fun _ => ?_ | refine Chk.g ?_ | refine AnyI.i64 fun _ _ => ?_ | refine LetW.g ?_ | refine LetW.h ?_ | refine Ite.t fun _ => ?_ | refine Ite.f fun _ => ?_ | refine Ite.decide (fun _ => ?_) fun _ => ?_ | refine Ite.bool (fun _ => ?_) fun _ => ?_ | refine And.intro ?_ ?_) | omega | simp (maxSteps := 1000000) only [go_sem, reduceCtorEq, Nat.reduceLT, Nat.reduceLeDiff, reduceIte, ↓reduceIte, Nat.reduceEqDiff, Nat.reduceAdd, Nat.reduceMul, Nat.reduceSub, Int.reduceLE, Int.reduceLT, Int.reduceNeg, Int.reduceToNat, e1, e2, e3, e4, minmax])
      refine ⟨j + 1, Ent.auto0 rfl ?_ ?_, by omega, by omega⟩ <;> simp only [go_sem, reduceCtorEq, reduceIte, Nat.reduceEqDiff, Nat.reduceLT, Nat.reduceLeDiff, Int.natCast_succ, boxL]
      all_goals omega
  · have e : j = H := by omega
    subst e
    rw [hL] at b4 ⊢
    have hk : (((L.length : Int) - 1).tdiv 2) = (((L.length - 1) / 2 : Nat) : Int) := by
      rw [Int.tdiv_eq_ediv_of_nonneg (by omega)]; omega
    (repeat' first | with_reducible (first | refine Asm.intro fun _ => ?_ | refine Chk.g ?_ | refine AnyI.i64 fun _ _ => ?_ | refine LetW.g ?_ | refine LetW.h ?_ | refine Ite.t fun _ => ?_ | refine Ite.f fun _ => ?_ | refine Ite.decide (fun _ => ?_) fun _ => ?_ | refine Ite.bool (fun _ => ?_) fun _ => ?_ | refine And.intro ?_ ?_) | omega | simp (maxSteps := 1000000) only [go_sem, reduceCtorEq, Nat.reduceLT, Nat.reduceLeDiff, reduceIte, ↓reduceIte, Nat.reduceEqDiff, Nat.reduceAdd, Nat.reduceMul, Nat.reduceSub, Int.reduceLE, Int.reduceLT, Int.reduceNeg, Int.reduceToNat, e1, e2, e3, e4, minmax, hk])
    refine VcLoop.intro (fun v : Nat => ⟨83, [(12, .int .i64 v), (11, .int .i64 (((L.length - 1) / 2 : Nat) - (belowC L v : Nat) : Int)), (7, .ptr 0 0)], [(0, .box 95 ((cntB L).map (.int .i64)))], 1⟩) (fun v => v ≤ 255 ∧ belowC L v ≤ (L.length - 1) / 2) (fun v => 256 - v) 0 ?_ ⟨by omega, by rw [Int.natCast_zero, belowC_zero fun x hx => (hLm x hx).1]; omega⟩ fun v hv2 => ?_
    · have e0 := belowC_zero fun x hx => (hLm x hx).1
      refine Ent.auto0 rfl ?_ ?_ <;> simp only [go_sem, reduceCtorEq, reduceIte, Nat.reduceEqDiff, Nat.reduceLT, Nat.reduceLeDiff, Int.natCast_succ, e0]
      all_goals omega
    obtain ⟨hv3, hv4⟩ := hv2
    have c1 := belowC_succ L v
    have c2 := cntB_get L (show v < 256 by omega)
    have c3 := arr_load (L := cntB L) (q := v) (by rw [cntB_len]; omega)
    have c4 := cntB_len L
    rw [c2] at c3
    by_cases hge : belowC L (v + 1) ≤ (L.length - 1) / 2
    · (repeat' first | with_reducible (first | refine Asm.intro fun _ => ?_ | refine Chk.g ?_ | refine AnyI.i64 fun _ _ => ?_ | refine LetW.g ?_ | refine LetW.h ?_ | refine Ite.t fun _ => ?_ | refine Ite.f fun _ => ?_ | refine Ite.decide (fun _ => ?_) fun _ => ?_ | refine Ite.bool (fun _ => ?_) fun _ => ?_ | refine And.intro ?_ ?_) | omega | simp (maxSteps := 1000000) only [go_sem, reduceCtorEq, Nat.reduceLT, Nat.reduceLeDiff, reduceIte, ↓reduceIte, Nat.reduceEqDiff, Nat.reduceAdd, Nat.reduceMul, Nat.reduceSub, Int.reduceLE, Int.reduceLT, Int.reduceNeg, Int.reduceToNat, Int.toNat_natCast, c3, c4, a256c])
      have hv5 : v + 1 ≤ 255 := by
        refine Classical.byContradiction fun hc => ?_
        have : belowC L ((v : Int) + 1) = L.length := belowC_all fun x hx => by have := (hLm x hx).2; omega
        omega
      refine ⟨v + 1, Ent.auto0 rfl ?_ ?_, ⟨hv5, hge⟩, by omega⟩ <;> simp only [go_sem, reduceCtorEq, reduceIte, Nat.reduceEqDiff, Nat.reduceLT, Nat.reduceLeDiff, Int.natCast_succ, c1]
      all_goals omega
    · have hm := mid_eq (L := L) (k := (L.length - 1) / 2) (v := v) hv4 (by omega)
      (repeat' first | with_reducible (first | refine Asm.intro fun _ => ?_ | refine Chk.g ?_ | refine AnyI.i64 fun _ _ => ?_ | refine LetW.g ?_ | refine LetW.h ?_ | refine Ite.t fun _ => ?_ | refine Ite.f fun _ => ?_ | refine Ite.decide (fun _ => ?_) fun _ => ?_ | refine Ite.bool (fun _ => ?_) fun _ => ?_ | refine And.intro ?_ ?_) | omega | simp (maxSteps := 1000000) only [go_sem, reduceCtorEq, Nat.reduceLT, Nat.reduceLeDiff, reduceIte, ↓reduceIte, Nat.reduceEqDiff, Nat.reduceAdd, Nat.reduceMul, Nat.reduceSub, Int.reduceLE, Int.reduceLT, Int.reduceNeg, Int.reduceToNat, Int.toNat_natCast, c3, c4, a256c])
      rw [hm]
      refine Ret.auto 0 ?_ rfl ?_ <;> simp only [go_sem, reduceCtorEq, reduceIte, Nat.reduceEqDiff, Nat.reduceLT, Nat.reduceLeDiff, Int.natCast_succ, Post]
theorem midV_bd {p : List Int} (hb : ∀ x, x ∈ p → 0 ≤ x ∧ x ≤ 255) {w h r x y : Nat} (hx : x < w) (hy : y < h) : 0 ≤ midV p w h r x y ∧ midV p w h r x y ≤ 255 := by
  obtain ⟨h1, h2⟩ := sqL_pos (p := p) (r := r) hx hy
  unfold midV
  have hl : (sortI (sqL p w h x y r)).length = (sqL p w h x y r).length := (List.mergeSort_perm _ _).length_eq
  have hm : (sortI (sqL p w h x y r)).getD (((sqL p w h x y r).length - 1) / 2) 0 ∈ sqL p w h x y r := by
    rw [getD_lt (by omega)]
    exact (List.mergeSort_perm _ _).mem_iff.1 (List.getElem_mem _)
  unfold sqL at hm ⊢
  exact boxL_mem (getD_byte hb) _ _ _ _ _ _ hm
set_option maxHeartbeats 4000000 in
theorem refMiddle1_ok (w h : Nat) (hw : w ≤ 1000) (hh : h ≤ 1000) (p : List Int) (hp : p.length = w * h) (hb : ∀ x, x ∈ p → 0 ≤ x ∧ x ≤ 255) (r : Nat) (hr : r ≤ 5) (x y : Nat) (hx : x < w) (hy : y < h) :
    FnOk Tryd.prog 70 [.int .i64 x, .int .i64 y, .cell [.int .i64 w, .int .i64 h, .ro (.ints .u8 p)], .cell [.int .i64 r]] (.int .u8 (midV p w h r x y)) [] := by
  have k1 := refAround_ok w h (by omega) (by omega) p hp hb x y r hx hy (by omega)
  obtain ⟨h1, h2⟩ := sqL_pos (p := p) (r := r) hx hy
  have hbd := midV_bd hb (r := r) hx hy
  have b2 : h * w ≤ 1000 * 1000 := Nat.mul_le_mul hh hw
  have e : sqL p w h x y r = boxL (fun i => p.getD i 0) w (y - r) (x - r) (min (x + r + 1) w - (x - r)) (min (y + r + 1) h - (y - r)) := rfl
  rw [← e] at k1
  unfold midV at *
  generalize sqL p w h x y r = L at *
  have kS := sortR_ok L (by omega)
  have hsl : (sortI L).length = L.length := (List.mergeSort_perm _ _).length_eq
  have hk : (((L.length : Int) - 1).tdiv 2) = (((L.length - 1) / 2 : Nat) : Int) := by
    rw [Int.tdiv_eq_ediv_of_nonneg (by omega)]; omega
  refine FnOk.of_vc Tryd.func70 rfl (by decide) (by simp [Tryd.f70]) [.tmp 6] rfl fun w0 T0 _ => ?_
  simp only [Tryd.f70, argEnv]
  (repeat' first | with_reducible (first | refine Asm.intro fun _ => ?_ | refine Chk.g ?_ | refine AnyI.i64 fun _ _ => ?_ | refine LetW.g ?_ | refine LetW.h ?_ | refine Ite.t fun _ => ?_ | refine Ite.f fun _ => ?_ | refine Ite.decide (fun _ => ?_) fun _ => ?_ | refine Ite.bool (fun _ => ?_) fun _ => ?_ | refine And.intro ?_ ?_) | omega | simp (maxSteps := 1000000) only [go_sem, reduceCtorEq, Nat.reduceLT, Nat.reduceLeDiff, reduceIte, ↓reduceIte, Nat.reduceEqDiff, Nat.reduceAdd, Nat.reduceMul, Nat.reduceSub, Int.reduceLE, Int.reduceLT, Int.reduceNeg, Int.reduceToNat])
  refine VcCall.fr (FnFr.of_ok k1 rfl rfl) (by simp only [noIdR_ok, argOkL, argOk, allOk, argOkN, List.drop_zero, lk, reduceIte, reduceCtorEq, Nat.reduceEqDiff, Option.some.injEq, Item.row.injEq, Item.box.injEq, AV.ro.injEq, exists_eq_left, exists_and_left, exists_eq_left', exists_eq_right, and_assoc, and_true, true_and, List.cons.injEq, exists_eq', exists_eq]) 1 rfl (by simp [rowsB, Item.below, Fv.below, belowL, belowR]) ?_
  (repeat' first | with_reducible (first | refine Asm.intro fun _ => ?_ | refine Chk.g ?_ | refine AnyI.i64 fun _ _ => ?_ | refine LetW.g ?_ | refine LetW.h ?_ | refine Ite.t fun _ => ?_ | refine Ite.f fun _ => ?_ | refine Ite.decide (fun _ => ?_) fun _ => ?_ | refine Ite.bool (fun _ => ?_) fun _ => ?_ | refine And.intro ?_ ?_) | omega | simp (maxSteps := 1000000) only [go_sem, reduceCtorEq, Nat.reduceLT, Nat.reduceLeDiff, reduceIte, ↓reduceIte, Nat.reduceEqDiff, Nat.reduceAdd, Nat.reduceMul, Nat.reduceSub, Int.reduceLE, Int.reduceLT, Int.reduceNeg, Int.reduceToNat])
  refine VcCall.io [0] kS (by decide) (by simp [renL, ren, ioN]) rfl (by simp [subOk, ioN, lk, Item.ren, Item.below, ren, renL, belowL, Fv.below, renR, belowR]) cov1 1 (by decide) rfl (by simp [rowsB, Item.below, Fv.below, belowL, belowR]) ?_
  (repeat' first | with_reducible (first | refine Asm.intro fun _ => ?_ | refine Chk.g ?_ | refine AnyI.i64 fun _ _ => ?_ | refine LetW.g ?_ | refine LetW.h ?_ | refine Ite.t fun _ => ?_ | refine Ite.f fun _ => ?_ | refine Ite.decide (fun _ => ?_) fun _ => ?_ | refine Ite.bool (fun _ => ?_) fun _ => ?_ | refine And.intro ?_ ?_) | omega | simp (maxSteps := 1000000) only [go_sem, reduceCtorEq, Nat.reduceLT, Nat.reduceLeDiff, reduceIte, ↓reduceIte, Nat.reduceEqDiff, Nat.reduceAdd, Nat.reduceMul, Nat.reduceSub, Int.reduceLE, Int.reduceLT, Int.reduceNeg, Int.reduceToNat, S.ioS, ioRows, ioN, delL, Item.ren, ren, renL, renR, List.map_nil, List.length_cons, List.length_nil, List.getElem?_cons_zero, List.getElem?_nil, List.cons_append, List.nil_append, Nat.reduceAdd, Nat.sub_self, Nat.add_zero, List.filter, hsl, hk, Int.toNat_natCast])
  refine Ret.auto 0 ?_ rfl ?_ <;> simp only [go_sem, reduceCtorEq, reduceIte, Nat.reduceEqDiff, Nat.reduceLT, Nat.reduceLeDiff, Int.natCast_succ, Post]
set_option maxHeartbeats 4000000 in
theorem middle_ok (w h : Nat) (hw1 : 1 ≤ w) (hw : w ≤ 1000) (hh1 : 1 ≤ h) (hh : h ≤ 1000) (p : List Int) (hp : p.length = w * h) (hb : ∀ x, x ∈ p → 0 ≤ x ∧ x ≤ 255) (r : Nat) (hr : r ≤ 5) :
    FnOk Tryd.prog 34 [.agg [.int .i64 w, .int .i64 h, .ro (.ints .u8 p)], .int .i64 r] (.tup [.agg [.int .i64 w, .int .i64 h, .own 0], .int .i64 0]) [(0, .row 5 (.ints .u8 ((List.range (w * h)).map fun i => midV p w h r (i % w) (i / w))))] := by
  haveI c1 : CapsOk [.cell [.int .i64 w, .int .i64 h, .ro (.ints .u8 p)], .cell [.int .i64 r]] := ⟨rfl⟩
  have k1 := gray_ok w h (by omega) (by omega) 69 [.cell [.int .i64 w, .int .i64 h, .ro (.ints .u8 p)], .cell [.int .i64 r]] (fun i => midV p w h r (i % w) (i / w)) (fun i hi => midV_bd hb (Nat.mod_lt i (by omega)) (Nat.div_lt_of_lt_mul hi)) (fun i hi' => FnFr.of_ok (middle1_ok w h hw1 hw hh p hp hb r hr i hi') rfl rfl)
  generalize (List.range (w * h)).map (fun i => midV p w h r (i % w) (i / w)) = R at *
  refine FnOk.of_vc Tryd.func34 rfl (by decide) (by simp [Tryd.f34]) [.cell 4 59, .tmp 5] rfl fun w0 T0 _ => ?_
  simp only [Tryd.f34, argEnv]
  (repeat' first | with_reducible (first | refine Asm.intro fun _ => ?_ | refine Chk.g ?_ | refine AnyI.i64 fun _ _ => ?_ | refine LetW.g ?_ | refine LetW.h ?_ | refine Ite.t fun _ => ?_ | refine Ite.f fun _ => ?_ | refine Ite.decide (fun _ => ?_) fun _ => ?_ | refine Ite.bool (fun _ => ?_) fun _ => ?_ | refine And.intro ?_ ?_) | omega | simp (maxSteps := 1000000) only [go_sem, reduceCtorEq, Nat.reduceLT, Nat.reduceLeDiff, reduceIte, ↓reduceIte, Nat.reduceEqDiff, Nat.reduceAdd, Nat.reduceMul, Nat.reduceSub, Int.reduceLE, Int.reduceLT, Int.reduceNeg, Int.reduceToNat])
  refine VcCall.fr (FnFr.of_ok (checkGray_ok w h p) rfl rfl) (by simp only [noIdR_ok, argOkL, argOk, allOk, argOkN, List.drop_zero, lk, reduceIte, reduceCtorEq, Nat.reduceEqDiff, Option.some.injEq, Item.row.injEq, Item.box.injEq, AV.ro.injEq, exists_eq_left, exists_and_left, exists_eq_left', exists_eq_right, and_assoc, and_true, true_and, List.cons.injEq, exists_eq', exists_eq]) 0 rfl (by simp [rowsB]) ?_
  rw [grayErr_ok hw1 hw hh1 hh hp]
  (repeat' first | with_reducible (first | refine Asm.intro fun _ => ?_ | refine Chk.g ?_ | refine AnyI.i64 fun _ _ => ?_ | refine LetW.g ?_ | refine LetW.h ?_ | refine Ite.t fun _ => ?_ | refine Ite.f fun _ => ?_ | refine Ite.decide (fun _ => ?_) fun _ => ?_ | refine Ite.bool (fun _ => ?_) fun _ => ?_ | refine And.intro ?_ ?_) | omega | simp (maxSteps := 1000000) only [go_sem, reduceCtorEq, Nat.reduceLT, Nat.reduceLeDiff, reduceIte, ↓reduceIte, Nat.reduceEqDiff, Nat.reduceAdd, Nat.reduceMul, Nat.reduceSub, Int.reduceLE, Int.reduceLT, Int.reduceNeg, Int.reduceToNat])
  refine VcCall.fr (FnFr.of_ok k1 rfl rfl) (by simp only [noIdR_ok, argOkL, argOk, allOk, argOkN, List.drop_zero, lk, reduceIte, reduceCtorEq, Nat.reduceEqDiff, Option.some.injEq, Item.row.injEq, Item.box.injEq, AV.ro.injEq, exists_eq_left, exists_and_left, exists_eq_left', exists_eq_right, and_assoc, and_true, true_and, List.cons.injEq, exists_eq', exists_eq]) 1 rfl (by simp [rowsB, Item.below, Fv.below, belowL]) ?_
  (repeat' first | with_reducible (first | refine Asm.intro fun _ => ?_ | refine Chk.g ?_ | refine AnyI.i64 fun _ _ => ?_ | refine LetW.g ?_ | refine LetW.h ?_ | refine Ite.t fun _ => ?_ | refine Ite.f fun _ => ?_ | refine Ite.decide (fun _ => ?_) fun _ => ?_ | refine Ite.bool (fun _ => ?_) fun _ => ?_ | refine And.intro ?_ ?_) | omega | simp (maxSteps := 1000000) only [go_sem, reduceCtorEq, Nat.reduceLT, Nat.reduceLeDiff, reduceIte, ↓reduceIte, Nat.reduceEqDiff, Nat.reduceAdd, Nat.reduceMul, Nat.reduceSub, Int.reduceLE, Int.reduceLT, Int.reduceNeg, Int.reduceToNat])
  refine Ret.auto 1 ?_ rfl ?_ <;> simp only [go_sem, reduceCtorEq, reduceIte, Nat.reduceEqDiff, Nat.reduceLT, Nat.reduceLeDiff, Int.natCast_succ, Post, List.drop_zero]
  all_goals simp (maxSteps := 1000000) only [go_sem, reduceCtorEq, Nat.reduceLT, Nat.reduceLeDiff, reduceIte, ↓reduceIte, Nat.reduceEqDiff, Nat.reduceAdd, Nat.reduceMul, Nat.reduceSub, Int.reduceLE, Int.reduceLT, Int.reduceNeg, Int.reduceToNat]
theorem middle_err (w h : Nat) (hw1 : 1 ≤ w) (hw : w ≤ 1000) (hh1 : 1 ≤ h) (hh : h ≤ 1000) (p : List Int) (hp : p.length = w * h) (r : Int) (hr : r < 0 ∨ 5 < r) :
    FnOk Tryd.prog 34 [.agg [.int .i64 w, .int .i64 h, .ro (.ints .u8 p)], .int .i64 r] (.tup [.agg [.int .i64 0, .int .i64 0, .nilS], .int .i64 3]) [] := by
  refine FnOk.of_vc Tryd.func34 rfl (by decide) (by simp [Tryd.f34]) [.cell 4 59, .tmp 5] rfl fun w0 T0 _ => ?_
  simp only [Tryd.f34, argEnv]
  (repeat' first | with_reducible (first | refine Asm.intro fun _ => ?_ | refine Chk.g ?_ | refine AnyI.i64 fun _ _ => ?_ | refine LetW.g ?_ | refine LetW.h ?_ | refine Ite.t fun _ => ?_ | refine Ite.f fun _ => ?_ | refine Ite.decide (fun _ => ?_) fun _ => ?_ | refine Ite.bool (fun _ => ?_) fun _ => ?_ | refine And.intro ?_ ?_) | omega | simp (maxSteps := 1000000) only [go_sem, reduceCtorEq, Nat.reduceLT, Nat.reduceLeDiff, reduceIte, ↓reduceIte, Nat.reduceEqDiff, Nat.reduceAdd, Nat.reduceMul, Nat.reduceSub, Int.reduceLE, Int.reduceLT, Int.reduceNeg, Int.reduceToNat])
  refine VcCall.fr (FnFr.of_ok (checkGray_ok w h p) rfl rfl) (by simp only [noIdR_ok, argOkL, argOk, allOk, argOkN, List.drop_zero, lk, reduceIte, reduceCtorEq, Nat.reduceEqDiff, Option.some.injEq, Item.row.injEq, Item.box.injEq, AV.ro.injEq, exists_eq_left, exists_and_left, exists_eq_left', exists_eq_right, and_assoc, and_true, true_and, List.cons.injEq, exists_eq', exists_eq]) 0 rfl (by simp [rowsB]) ?_
  rw [grayErr_ok hw1 hw hh1 hh hp]
  (repeat' first | with_reducible (first | refine Asm.intro fun _ => ?_ | refine Chk.g ?_ | refine AnyI.i64 fun _ _ => ?_ | refine LetW.g ?_ | refine LetW.h ?_ | refine Ite.t fun _ => ?_ | refine Ite.f fun _ => ?_ | refine Ite.decide (fun _ => ?_) fun _ => ?_ | refine Ite.bool (fun _ => ?_) fun _ => ?_ | refine And.intro ?_ ?_) | omega | simp (maxSteps := 1000000) only [go_sem, reduceCtorEq, Nat.reduceLT, Nat.reduceLeDiff, reduceIte, ↓reduceIte, Nat.reduceEqDiff, Nat.reduceAdd, Nat.reduceMul, Nat.reduceSub, Int.reduceLE, Int.reduceLT, Int.reduceNeg, Int.reduceToNat])
  refine Ret.auto 0 ?_ ?_ ?_ <;> simp only [go_sem, reduceCtorEq, reduceIte, Nat.reduceEqDiff, Nat.reduceLT, Nat.reduceLeDiff, Int.natCast_succ, Post, List.drop_zero]
set_option maxHeartbeats 4000000 in
theorem refMiddle_ok (w h : Nat) (hw1 : 1 ≤ w) (hw : w ≤ 1000) (hh1 : 1 ≤ h) (hh : h ≤ 1000) (p : List Int) (hp : p.length = w * h) (hb : ∀ x, x ∈ p → 0 ≤ x ∧ x ≤ 255) (r : Nat) (hr : r ≤ 5) :
    FnOk Tryd.prog 35 [.agg [.int .i64 w, .int .i64 h, .ro (.ints .u8 p)], .int .i64 r] (.agg [.int .i64 w, .int .i64 h, .own 0]) [(0, .row 5 (.ints .u8 ((List.range (w * h)).map fun i => midV p w h r (i % w) (i / w))))] := by
  haveI c1 : CapsOk [.cell [.int .i64 w, .int .i64 h, .ro (.ints .u8 p)], .cell [.int .i64 r]] := ⟨rfl⟩
  have k1 := madeGray_ok w h (by omega) (by omega) 70 [.cell [.int .i64 w, .int .i64 h, .ro (.ints .u8 p)], .cell [.int .i64 r]] (fun x y => midV p w h r x y) (fun x y hx hy => FnFr.of_ok (refMiddle1_ok w h hw hh p hp hb r hr x y hx hy) rfl rfl)
  have e : rowsOf w (fun x y => midV p w h r x y) (h * w) = (List.range (w * h)).map (fun i => midV p w h r (i % w) (i / w)) := by
    unfold rowsOf
    rw [Nat.mul_comm]
  rw [e] at k1
  generalize (List.range (w * h)).map (fun i => midV p w h r (i % w) (i / w)) = R at *
  refine FnOk.of_vc Tryd.func35 rfl (by decide) (by simp [Tryd.f35]) [.cell 4 59] rfl fun w0 T0 _ => ?_
  simp only [Tryd.f35, argEnv]
  (repeat' first | with_reducible (first | refine Asm.intro fun _ => ?_ | refine Chk.g ?_ | refine AnyI.i64 fun _ _ => ?_ | refine LetW.g ?_ | refine LetW.h ?_ | refine Ite.t fun _ => ?_ | refine Ite.f fun _ => ?_ | refine Ite.decide (fun _ => ?_) fun _ => ?_ | refine Ite.bool (fun _ => ?_) fun _ => ?_ | refine And.intro ?_ ?_) | omega | simp (maxSteps := 1000000) only [go_sem, reduceCtorEq, Nat.reduceLT, Nat.reduceLeDiff, reduceIte, ↓reduceIte, Nat.reduceEqDiff, Nat.reduceAdd, Nat.reduceMul, Nat.reduceSub, Int.reduceLE, Int.reduceLT, Int.reduceNeg, Int.reduceToNat])
  refine VcCall.fr (FnFr.of_ok k1 rfl rfl) (by simp only [noIdR_ok, argOkL, argOk, allOk, argOkN, List.drop_zero, lk, reduceIte, reduceCtorEq, Nat.reduceEqDiff, Option.some.injEq, Item.row.injEq, Item.box.injEq, AV.ro.injEq, exists_eq_left, exists_and_left, exists_eq_left', exists_eq_right, and_assoc, and_true, true_and, List.cons.injEq, exists_eq', exists_eq]) 1 rfl (by simp [rowsB, Item.below, Fv.below, belowL]) ?_
  (repeat' first | with_reducible (first | refine Asm.intro fun _ => ?_ | refine Chk.g ?_ | refine AnyI.i64 fun _ _ => ?_ | refine LetW.g ?_ | refine LetW.h ?_ | refine Ite.t fun _ => ?_ | refine Ite.f fun _ => ?_ | refine Ite.decide (fun _ => ?_) fun _ => ?_ | refine Ite.bool (fun _ => ?_) fun _ => ?_ | refine And.intro ?_ ?_) | omega | simp (maxSteps := 1000000) only [go_sem, reduceCtorEq, Nat.reduceLT, Nat.reduceLeDiff, reduceIte, ↓reduceIte, Nat.reduceEqDiff, Nat.reduceAdd, Nat.reduceMul, Nat.reduceSub, Int.reduceLE, Int.reduceLT, Int.reduceNeg, Int.reduceToNat])
  refine Ret.auto 1 ?_ rfl ?_ <;> simp only [go_sem, reduceCtorEq, reduceIte, Nat.reduceEqDiff, Nat.reduceLT, Nat.reduceLeDiff, Int.natCast_succ, Post, List.drop_zero]
  all_goals simp (maxSteps := 1000000) only [go_sem, reduceCtorEq, Nat.reduceLT, Nat.reduceLeDiff, reduceIte, ↓reduceIte, Nat.reduceEqDiff, Nat.reduceAdd, Nat.reduceMul, Nat.reduceSub, Int.reduceLE, Int.reduceLT, Int.reduceNeg, Int.reduceToNat]
end Go.Fv.M

namespace Go.Fv.M
open Go Go.Proofs
set_option linter.unusedSimpArgs false
set_option linter.unusedVariables false
set_option maxRecDepth 8000
end Go.Fv.M

namespace Go.Fv.M
open Go Go.Proofs
set_option linter.unusedSimpArgs false
set_option linter.unusedVariables false
set_option maxRecDepth 8000

def firstErr : List Int → Int
  | [] => 0
  | e :: l => if e = 0 then firstErr l else e
set_option maxHeartbeats 2000000 in
theorem first_ok (l : List Int) (hl : l.length ≤ 1000) : FnOk Tryd.prog 30 [.ro (.ints .i64 l)] (.int .i64 (firstErr l)) [] := by
  refine FnOk.of_vc Tryd.func30 rfl (by decide) (by simp [Tryd.f30]) [.tmp 2] rfl fun w0 T0 _ => ?_
  simp only [Tryd.f30, argEnv]
  (repeat' first | with_reducible (first | refine Asm.intro fun _ => ?_ | refine Chk.g ?_ | refine AnyI.i64 fun _ _ => ?_ | refine LetW.g ?_ | refine LetW.h ?_ | refine Ite.t fun _ => ?_ | refine Ite.f fun _ => ?_ | refine Ite.decide (fun _ => ?_) fun _ => ?_ | refine Ite.bool (fun _ => ?_) fun _ => ?_ | refine And.intro ?_ ?_) | omega | simp (maxSteps := 1000000) only [go_sem, reduceCtorEq, Nat.reduceLT, Nat.reduceLeDiff, reduceIte, ↓reduceIte, Nat.reduceEqDiff, Nat.reduceAdd, Nat.reduceMul, Nat.reduceSub, Int.reduceLE, Int.reduceLT, Int.reduceNeg, Int.reduceToNat])
  refine VcLoop.intro (fun i : Nat => ⟨15, [(7, .int .i64 i), (6, .int .i64 l.length), (5, .ro (.ints .i64 l))], [], 0⟩) (fun i => i ≤ l.length ∧ firstErr (l.drop i) = firstErr l) (fun i => l.length - i) 0 ?_ ⟨Nat.zero_le _, rfl⟩ fun i hi => ?_
  · refine Ent.auto0 rfl ?_ ?_ <;> simp only [go_sem, reduceCtorEq, reduceIte, Nat.reduceEqDiff, Nat.reduceLT, Nat.reduceLeDiff, Int.natCast_succ]
  obtain ⟨hi, he⟩ := hi
  (repeat' first | with_reducible (first | refine Asm.intro fun _ => ?_ | refine Chk.g ?_ | refine AnyI.i64 fun _ _ => ?_ | refine LetW.g ?_ | refine LetW.h ?_ | refine Ite.t fun _ => ?_ | refine Ite.f fun _ => ?_ | refine Ite.decide (fun _ => ?_) fun _ => ?_ | refine Ite.bool (fun _ => ?_) fun _ => ?_ | refine And.intro ?_ ?_) | omega | simp (maxSteps := 1000000) only [go_sem, reduceCtorEq, Nat.reduceLT, Nat.reduceLeDiff, reduceIte, ↓reduceIte, Nat.reduceEqDiff, Nat.reduceAdd, Nat.reduceMul, Nat.reduceSub, Int.reduceLE, Int.reduceLT, Int.reduceNeg, Int.reduceToNat])
  · have hlt : i < l.length := by omega
    have hd : l.drop i = l.getD i 0 :: l.drop (i + 1) := by rw [List.drop_eq_getElem_cons hlt, getD_lt hlt]
    rw [hd, firstErr, if_neg (by omega)] at he
    rw [← he]
    refine Ret.auto 0 ?_ rfl ?_ <;> simp only [go_sem, reduceCtorEq, reduceIte, Nat.reduceEqDiff, Nat.reduceLT, Nat.reduceLeDiff, Int.natCast_succ, Post]
  · have hlt : i < l.length := by omega
    have hd : l.drop i = l.getD i 0 :: l.drop (i + 1) := by rw [List.drop_eq_getElem_cons hlt, getD_lt hlt]
    rw [hd, firstErr, if_pos (by omega)] at he
    refine ⟨i + 1, Ent.auto0 rfl ?_ ?_, ⟨by omega, he⟩, by omega⟩ <;> simp only [go_sem, reduceCtorEq, reduceIte, Nat.reduceEqDiff, Nat.reduceLT, Nat.reduceLeDiff, Int.natCast_succ]
    all_goals rfl
  · have e : i = l.length := by omega
    subst e
    rw [List.drop_length] at he
    rw [← he]
    refine Ret.auto 0 ?_ rfl ?_ <;> simp only [go_sem, reduceCtorEq, reduceIte, Nat.reduceEqDiff, Nat.reduceLT, Nat.reduceLeDiff, Int.natCast_succ, Post, firstErr]

end Go.Fv.M
