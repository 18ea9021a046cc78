/-
  A part of the proof of the claim: walks over the program's functions and the plain laws that these need. No condition of its own.
-/
import Derived.Test.YtmfhpdfebmhclaaDoorTTopBatchCardPart4
import Derived.Test.YtmfhpdfebmhclaaDoorFvPart10
namespace Go.Fv.T
open Go Go.Proofs
set_option linter.unusedSimpArgs false
set_option linter.unusedVariables false
set_option maxRecDepth 8000

theorem inPage_ok (w h X Y W H : Nat) (hw : w ≤ 4000) (hh : h ≤ 4000) (hW : 1 ≤ W) (hH : 1 ≤ H) (hX : X + W ≤ w) (hY : Y + H ≤ h) :
    FnOk Tryd.prog 76 [.agg [.int .i64 X, .int .i64 Y, .int .i64 W, .int .i64 H], .int .i64 w, .int .i64 h] (.int .i64 0) [] := by
  refine FnOk.of_vc Tryd.func76 rfl (by decide) (by simp [Tryd.f76]) [.tmp 6] rfl fun w0 T0 _ => ?_
  simp only [Tryd.f76, argEnv]
  (repeat' first | with_reducible (first | refine Asm.intro fun _ => ?_ | refine Chk.g ?_ | refine AnyI.i64 fun _ _ => ?_ | refine LetW.g ?_ | refine LetW.h ?_ | refine Ite.t fun _ => ?_ | refine Ite.f fun _ => ?_ | refine Ite.decide (fun _ => ?_) fun _ => ?_ | refine Ite.bool (fun _ => ?_) fun _ => ?_ | refine And.intro ?_ ?_) | omega | simp (maxSteps := 1000000) only [go_sem, reduceCtorEq, Nat.reduceLT, Nat.reduceLeDiff, reduceIte, ↓reduceIte, Nat.reduceEqDiff, Nat.reduceAdd, Nat.reduceMul, Nat.reduceSub, Int.reduceLE, Int.reduceLT, Int.reduceNeg, Int.reduceToNat])
  refine Ret.auto 0 ?_ rfl ?_ <;> simp only [go_sem, reduceCtorEq, reduceIte, Nat.reduceEqDiff, Nat.reduceLT, Nat.reduceLeDiff, Int.natCast_succ, Post]

theorem bitsErr_ok {w h : Nat} (hw1 : 1 ≤ w) (hw : w ≤ 4000) (hh1 : 1 ≤ h) (hh : h ≤ 4000) (hwh : w * h ≤ 1048576) {n : Nat} (hn : n = w * h) : grayErr w h n = 0 := by
  unfold grayErr
  rw [sizeErr_of (by omega) (by omega) (by omega) (by omega) (by rw [← Int.natCast_mul]; omega), if_pos rfl, if_pos (by rw [hn]; exact Int.natCast_mul w h)]

set_option maxHeartbeats 1000000 in
theorem checkBoth_ok (w h X Y W H : Nat) (hw1 : 1 ≤ w) (hw : w ≤ 4000) (hh1 : 1 ≤ h) (hh : h ≤ 4000) (hwh : w * h ≤ 1048576) (p : List Bool) (hp : p.length = w * h) (hW : 1 ≤ W) (hH : 1 ≤ H) (hX : X + W ≤ w) (hY : Y + H ≤ h) :
    FnOk Tryd.prog 68 [.agg [.int .i64 w, .int .i64 h, .ro (.bools p)], .agg [.int .i64 X, .int .i64 Y, .int .i64 W, .int .i64 H]] (.int .i64 0) [] := by
  have k1 := checkBits_ok w h p
  rw [bitsErr_ok hw1 hw hh1 hh hwh hp] at k1
  refine FnOk.of_vc Tryd.func68 rfl (by decide) (by simp [Tryd.f68]) [.tmp 4] rfl fun w0 T0 _ => ?_
  simp only [Tryd.f68, argEnv]
  (repeat' first | with_reducible (first | refine Asm.intro fun _ => ?_ | refine Chk.g ?_ | refine AnyI.i64 fun _ _ => ?_ | refine LetW.g ?_ | refine LetW.h ?_ | refine Ite.t fun _ => ?_ | refine Ite.f fun _ => ?_ | refine Ite.decide (fun _ => ?_) fun _ => ?_ | refine Ite.bool (fun _ => ?_) fun _ => ?_ | refine And.intro ?_ ?_) | omega | simp (maxSteps := 1000000) only [go_sem, reduceCtorEq, Nat.reduceLT, Nat.reduceLeDiff, reduceIte, ↓reduceIte, Nat.reduceEqDiff, Nat.reduceAdd, Nat.reduceMul, Nat.reduceSub, Int.reduceLE, Int.reduceLT, Int.reduceNeg, Int.reduceToNat])
  refine VcCall.fr (FnFr.of_ok k1 rfl rfl) (by simp only [noIdR_ok, argOkL, argOk, allOk, argOkN, List.drop_zero, lk, reduceIte, reduceCtorEq, Nat.reduceEqDiff, Option.some.injEq, Item.row.injEq, Item.box.injEq, AV.ro.injEq, exists_eq_left, exists_and_left, exists_eq_left', exists_eq_right, and_assoc, and_true, true_and, List.cons.injEq, exists_eq', exists_eq]) 0 rfl (by simp [rowsB]) ?_
  (repeat' first | with_reducible (first | refine Asm.intro fun _ => ?_ | refine Chk.g ?_ | refine AnyI.i64 fun _ _ => ?_ | refine LetW.g ?_ | refine LetW.h ?_ | refine Ite.t fun _ => ?_ | refine Ite.f fun _ => ?_ | refine Ite.decide (fun _ => ?_) fun _ => ?_ | refine Ite.bool (fun _ => ?_) fun _ => ?_ | refine And.intro ?_ ?_) | omega | simp (maxSteps := 1000000) only [go_sem, reduceCtorEq, Nat.reduceLT, Nat.reduceLeDiff, reduceIte, ↓reduceIte, Nat.reduceEqDiff, Nat.reduceAdd, Nat.reduceMul, Nat.reduceSub, Int.reduceLE, Int.reduceLT, Int.reduceNeg, Int.reduceToNat])
  refine VcCall.fr (FnFr.of_ok (inPage_ok w h X Y W H (by omega) (by omega) hW hH hX hY) rfl rfl) (by simp only [noIdR_ok, argOkL, argOk, allOk, argOkN, List.drop_zero, lk, reduceIte, reduceCtorEq, Nat.reduceEqDiff, Option.some.injEq, Item.row.injEq, Item.box.injEq, AV.ro.injEq, exists_eq_left, exists_and_left, exists_eq_left', exists_eq_right, and_assoc, and_true, true_and, List.cons.injEq, exists_eq', exists_eq]) 0 rfl (by simp [rowsB]) ?_
  (repeat' first | with_reducible (first | refine Asm.intro fun _ => ?_ | refine Chk.g ?_ | refine AnyI.i64 fun _ _ => ?_ | refine LetW.g ?_ | refine LetW.h ?_ | refine Ite.t fun _ => ?_ | refine Ite.f fun _ => ?_ | refine Ite.decide (fun _ => ?_) fun _ => ?_ | refine Ite.bool (fun _ => ?_) fun _ => ?_ | refine And.intro ?_ ?_) | omega | simp (maxSteps := 1000000) only [go_sem, reduceCtorEq, Nat.reduceLT, Nat.reduceLeDiff, reduceIte, ↓reduceIte, Nat.reduceEqDiff, Nat.reduceAdd, Nat.reduceMul, Nat.reduceSub, Int.reduceLE, Int.reduceLT, Int.reduceNeg, Int.reduceToNat])
  refine Ret.auto 0 ?_ rfl ?_ <;> simp only [go_sem, reduceCtorEq, reduceIte, Nat.reduceEqDiff, Nat.reduceLT, Nat.reduceLeDiff, Int.natCast_succ, Post]

set_option maxHeartbeats 2000000 in
theorem pageMade_ok (w h : Nat) (hw : w ≤ 4000) (hh : h ≤ 4000) (f : Nat) (caps : List AV) [CapsOk caps] (q : Nat → Nat → Bool) (hq : ∀ x y : Nat, x < w → y < h → FnFr Tryd.prog f ([.int .i64 x, .int .i64 y] ++ caps) (.bool (q x y)) []) :
    FnOk Tryd.prog 69 [.int .i64 w, .int .i64 h, .fn f caps] (.agg [.int .i64 w, .int .i64 h, .own 0]) [(0, .row 4 (.bools (rowsOf w q (h * w))))] := by
  have hwh : h * w ≤ 4000 * 4000 := Nat.mul_le_mul hh hw
  have hc : ((w : Int) * h) = ((h * w : Nat) : Int) := by rw [Int.natCast_mul, Int.mul_comm]
  have hlt : ∀ x y, x < w → y < h → y * w + x < h * w := fun x y hx hy => by
    have : y * w + w ≤ h * w := by rw [← Nat.succ_mul]; exact Nat.mul_le_mul_right _ (by omega)
    omega
  generalize hn : h * w = n at hwh hc hlt ⊢
  refine FnOk.of_vc Tryd.func69 rfl (by decide) (by simp [Tryd.f69]) [.cell 6 28] rfl fun w0 T0 _ => ?_
  simp only [Tryd.f69, argEnv]
  (repeat' first | with_reducible (first | refine Asm.intro fun _ => ?_ | refine Chk.g ?_ | refine AnyI.i64 fun _ _ => ?_ | refine LetW.g ?_ | refine LetW.h ?_ | refine Ite.t fun _ => ?_ | refine Ite.f fun _ => ?_ | refine Ite.decide (fun _ => ?_) fun _ => ?_ | refine Ite.bool (fun _ => ?_) fun _ => ?_ | refine And.intro ?_ ?_) | omega | simp (maxSteps := 1000000) only [go_sem, reduceCtorEq, Nat.reduceLT, Nat.reduceLeDiff, reduceIte, ↓reduceIte, Nat.reduceEqDiff, Nat.reduceAdd, Nat.reduceMul, Nat.reduceSub, Int.reduceLE, Int.reduceLT, Int.reduceNeg, Int.reduceToNat, hc])
  refine VcLoop.intro (fun y : Nat => ⟨40, [(18, .int .i64 y), (17, .int .i64 h), (7, .ptr 2 0), (6, .ptr 0 0), (0, .int .i64 w), (2, .fn f caps)], [(2, .box 28 [.int .i64 w, .int .i64 h, .own 1]), (0, .box 28 [.int .i64 0, .int .i64 0, .nilS]), (1, .row 4 (.bools (rowsOf w q (y * w) ++ List.replicate (n - y * w) false)))], 3⟩) (fun y => y ≤ h) (fun y => h - y) 0 ?_ (Nat.zero_le _) fun y hy => ?_
  · refine Ent.auto0 rfl ?_ ?_ <;> simp only [go_sem, reduceCtorEq, reduceIte, Nat.reduceEqDiff, Nat.reduceLT, Nat.reduceLeDiff, Int.natCast_succ, zrow, rowsOf, Nat.zero_mul, List.range_zero, List.map_nil, Nat.sub_zero, Int.toNat_natCast]
  (repeat' first | with_reducible (first | refine Asm.intro fun _ => ?_ | refine Chk.g ?_ | refine AnyI.i64 fun _ _ => ?_ | refine LetW.g ?_ | refine LetW.h ?_ | refine Ite.t fun _ => ?_ | refine Ite.f fun _ => ?_ | refine Ite.decide (fun _ => ?_) fun _ => ?_ | refine Ite.bool (fun _ => ?_) fun _ => ?_ | refine And.intro ?_ ?_) | omega | simp (maxSteps := 1000000) only [go_sem, reduceCtorEq, Nat.reduceLT, Nat.reduceLeDiff, reduceIte, ↓reduceIte, Nat.reduceEqDiff, Nat.reduceAdd, Nat.reduceMul, Nat.reduceSub, Int.reduceLE, Int.reduceLT, Int.reduceNeg, Int.reduceToNat])
  · refine VcLoop.intro (fun x : Nat => ⟨40, [(22, .int .i64 x), (21, .int .i64 w), (8, .int .i64 y), (18, .int .i64 y), (17, .int .i64 h), (7, .ptr 2 0), (6, .ptr 0 0), (0, .int .i64 w), (2, .fn f caps)], [(2, .box 28 [.int .i64 w, .int .i64 h, .own 1]), (0, .box 28 [.int .i64 0, .int .i64 0, .nilS]), (1, .row 4 (.bools (rowsOf w q (y * w + x) ++ List.replicate (n - (y * w + x)) false)))], 3⟩) (fun x => x ≤ w) (fun x => w - x) 0 ?_ (Nat.zero_le _) fun x hx => ?_
    · refine Ent.auto0 rfl ?_ ?_ <;> simp only [go_sem, reduceCtorEq, reduceIte, Nat.reduceEqDiff, Nat.reduceLT, Nat.reduceLeDiff, Int.natCast_succ, Nat.add_zero]
    (repeat' first | with_reducible (first | refine Asm.intro fun _ => ?_ | refine Chk.g ?_ | refine AnyI.i64 fun _ _ => ?_ | refine LetW.g ?_ | refine LetW.h ?_ | refine Ite.t fun _ => ?_ | refine Ite.f fun _ => ?_ | refine Ite.decide (fun _ => ?_) fun _ => ?_ | refine Ite.bool (fun _ => ?_) fun _ => ?_ | refine And.intro ?_ ?_) | omega | simp (maxSteps := 1000000) only [go_sem, reduceCtorEq, Nat.reduceLT, Nat.reduceLeDiff, reduceIte, ↓reduceIte, Nat.reduceEqDiff, Nat.reduceAdd, Nat.reduceMul, Nat.reduceSub, Int.reduceLE, Int.reduceLT, Int.reduceNeg, Int.reduceToNat])
    · have hb : y * w ≤ 4000 * 4000 := Nat.mul_le_mul (by omega) hw
      refine VcDraw.lex [12] [] (by kernel_rfl) (by kernel_rfl) ?_
      (repeat' first | with_reducible (first | refine Asm.intro fun _ => ?_ | refine Chk.g ?_ | refine AnyI.i64 fun _ _ => ?_ | refine LetW.g ?_ | refine LetW.h ?_ | refine Ite.t fun _ => ?_ | refine Ite.f fun _ => ?_ | refine Ite.decide (fun _ => ?_) fun _ => ?_ | refine Ite.bool (fun _ => ?_) fun _ => ?_ | refine And.intro ?_ ?_) | omega | simp (maxSteps := 1000000) only [go_sem, reduceCtorEq, Nat.reduceLT, Nat.reduceLeDiff, reduceIte, ↓reduceIte, Nat.reduceEqDiff, Nat.reduceAdd, Nat.reduceMul, Nat.reduceSub, Int.reduceLE, Int.reduceLT, Int.reduceNeg, Int.reduceToNat, up_mul, up_add])
      refine QV.intro (.bool (q x y)) ?_ ?_
      · (repeat' first | with_reducible (first | refine Asm.intro fun _ => ?_ | refine Chk.g ?_ | refine AnyI.i64 fun _ _ => ?_ | refine LetW.g ?_ | refine LetW.h ?_ | refine Ite.t fun _ => ?_ | refine Ite.f fun _ => ?_ | refine Ite.decide (fun _ => ?_) fun _ => ?_ | refine Ite.bool (fun _ => ?_) fun _ => ?_ | refine And.intro ?_ ?_) | omega | simp (maxSteps := 1000000) only [go_sem, reduceCtorEq, Nat.reduceLT, Nat.reduceLeDiff, reduceIte, ↓reduceIte, Nat.reduceEqDiff, Nat.reduceAdd, Nat.reduceMul, Nat.reduceSub, Int.reduceLE, Int.reduceLT, Int.reduceNeg, Int.reduceToNat])
        refine VcCall.fr (args' := [.int .i64 x, .int .i64 y] ++ caps) (hq x y (by omega) (by omega)) (by simp [argOkL, allOk, argOkN, allOk_caps]) 0 rfl (by simp [rowsB]) ?_
        (repeat' first | with_reducible (first | refine Asm.intro fun _ => ?_ | refine Chk.g ?_ | refine AnyI.i64 fun _ _ => ?_ | refine LetW.g ?_ | refine LetW.h ?_ | refine Ite.t fun _ => ?_ | refine Ite.f fun _ => ?_ | refine Ite.decide (fun _ => ?_) fun _ => ?_ | refine Ite.bool (fun _ => ?_) fun _ => ?_ | refine And.intro ?_ ?_) | omega | simp (maxSteps := 1000000) only [go_sem, reduceCtorEq, Nat.reduceLT, Nat.reduceLeDiff, reduceIte, ↓reduceIte, Nat.reduceEqDiff, Nat.reduceAdd, Nat.reduceMul, Nat.reduceSub, Int.reduceLE, Int.reduceLT, Int.reduceNeg, Int.reduceToNat])
      · have hl := hlt x y (by omega) (by omega)
        have hs := set_range (n := n) (fun k => q (k % w) (k / w)) false hl
        have hr := rowsOf_len w q (y * w + x)
        have e1 : (y * w + x) % w = x := by rw [Nat.mul_comm, Nat.mul_add_mod, Nat.mod_eq_of_lt (by omega)]
        have e2 : (y * w + x) / w = y := by rw [Nat.mul_comm, Nat.mul_add_div (by omega), Nat.div_eq_of_lt (by omega), Nat.add_zero]
        rw [e1, e2] at hs
        (repeat' first | with_reducible (first | refine Asm.intro fun _ => ?_ | refine Chk.g ?_ | refine AnyI.i64 fun _ _ => ?_ | refine LetW.g ?_ | refine LetW.h ?_ | refine Ite.t fun _ => ?_ | refine Ite.f fun _ => ?_ | refine Ite.decide (fun _ => ?_) fun _ => ?_ | refine Ite.bool (fun _ => ?_) fun _ => ?_ | refine And.intro ?_ ?_) | omega | simp (maxSteps := 1000000) only [go_sem, reduceCtorEq, Nat.reduceLT, Nat.reduceLeDiff, reduceIte, ↓reduceIte, Nat.reduceEqDiff, Nat.reduceAdd, Nat.reduceMul, Nat.reduceSub, Int.reduceLE, Int.reduceLT, Int.reduceNeg, Int.reduceToNat, up_mul, up_add, Int.toNat_natCast, List.length_append, List.length_replicate, hr])
        refine ⟨x + 1, Ent.auto0 rfl ?_ ?_, by omega, by omega⟩ <;> simp only [go_sem, reduceCtorEq, reduceIte, Nat.reduceEqDiff, Nat.reduceLT, Nat.reduceLeDiff, Int.natCast_succ]
        all_goals first | rfl | exact hs
    · refine ⟨y + 1, Ent.auto0 rfl ?_ ?_, by omega, by omega⟩ <;> simp only [go_sem, reduceCtorEq, reduceIte, Nat.reduceEqDiff, Nat.reduceLT, Nat.reduceLeDiff, Int.natCast_succ]
      have e : x = w := by omega
      all_goals first | rfl | rw [e, Nat.succ_mul]
  · have e : y = h := by omega
    subst e
    subst hn
    refine Ret.auto 1 ?_ rfl ?_ <;> simp only [go_sem, reduceCtorEq, reduceIte, Nat.reduceEqDiff, Nat.reduceLT, Nat.reduceLeDiff, Int.natCast_succ, Post, List.drop_zero, Nat.sub_self, List.replicate_zero, List.append_nil]
    all_goals simp (maxSteps := 1000000) only [go_sem, reduceCtorEq, Nat.reduceLT, Nat.reduceLeDiff, reduceIte, ↓reduceIte, Nat.reduceEqDiff, Nat.reduceAdd, Nat.reduceMul, Nat.reduceSub, Int.reduceLE, Int.reduceLT, Int.reduceNeg, Int.reduceToNat]

set_option maxHeartbeats 1000000 in
theorem cut1_ok (w h X Y W H : Nat) (hw : w ≤ 4000) (hh : h ≤ 4000) (p : List Bool) (hp : p.length = w * h) (hX : X + W ≤ w) (hY : Y + H ≤ h) (x y : Nat) (hx : x < W) (hy : y < H) :
    FnOk Tryd.prog 70 [.int .i64 x, .int .i64 y, .cell [.int .i64 w, .int .i64 h, .ro (.bools p)], .cell [.int .i64 X, .int .i64 Y, .int .i64 W, .int .i64 H]] (.bool (cutAt p w X Y x y)) [] := by
  have b1 : (Y + y) * w + w ≤ h * w := by rw [← Nat.succ_mul]; exact Nat.mul_le_mul_right _ (by omega)
  have b2 : h * w ≤ 4000 * 4000 := Nat.mul_le_mul hh hw
  have b3 : w * h = h * w := Nat.mul_comm _ _
  refine FnOk.of_vc Tryd.func70 rfl (by decide) (by simp [Tryd.f70]) [.tmp 6] rfl fun w0 T0 _ => ?_
  simp only [Tryd.f70, argEnv]
  (repeat' first | with_reducible (first | refine Asm.intro fun _ => ?_ | refine Chk.g ?_ | refine AnyI.i64 fun _ _ => ?_ | refine LetW.g ?_ | refine LetW.h ?_ | refine Ite.t fun _ => ?_ | refine Ite.f fun _ => ?_ | refine Ite.decide (fun _ => ?_) fun _ => ?_ | refine Ite.bool (fun _ => ?_) fun _ => ?_ | refine And.intro ?_ ?_) | omega | simp (maxSteps := 1000000) only [go_sem, reduceCtorEq, Nat.reduceLT, Nat.reduceLeDiff, reduceIte, ↓reduceIte, Nat.reduceEqDiff, Nat.reduceAdd, Nat.reduceMul, Nat.reduceSub, Int.reduceLE, Int.reduceLT, Int.reduceNeg, Int.reduceToNat, up_mul, up_add, Int.toNat_natCast])
  refine Ret.auto 0 ?_ rfl ?_ <;> simp only [go_sem, reduceCtorEq, reduceIte, Nat.reduceEqDiff, Nat.reduceLT, Nat.reduceLeDiff, Int.natCast_succ, Post, cutAt]

set_option maxHeartbeats 2000000 in
theorem cut_ok (w h X Y W H : Nat) (hw1 : 1 ≤ w) (hw : w ≤ 4000) (hh1 : 1 ≤ h) (hh : h ≤ 4000) (hwh : w * h ≤ 1048576) (p : List Bool) (hp : p.length = w * h) (hW : 1 ≤ W) (hH : 1 ≤ H) (hX : X + W ≤ w) (hY : Y + H ≤ h) :
    FnOk Tryd.prog 59 [.agg [.int .i64 w, .int .i64 h, .ro (.bools p)], .agg [.int .i64 X, .int .i64 Y, .int .i64 W, .int .i64 H]] (.tup [.agg [.int .i64 W, .int .i64 H, .own 0], .int .i64 0]) [(0, .row 4 (.bools (rowsOf W (cutAt p w X Y) (H * W))))] := by
  haveI c1 : CapsOk [.cell [.int .i64 w, .int .i64 h, .ro (.bools p)], .cell [.int .i64 X, .int .i64 Y, .int .i64 W, .int .i64 H]] := ⟨rfl⟩
  have k1 := pageMade_ok W H (by omega) (by omega) 70 [.cell [.int .i64 w, .int .i64 h, .ro (.bools p)], .cell [.int .i64 X, .int .i64 Y, .int .i64 W, .int .i64 H]] (cutAt p w X Y)
    (fun x y hx hy => FnFr.of_ok (cut1_ok w h X Y W H (by omega) (by omega) p hp hX hY x y hx hy) rfl rfl)
  generalize rowsOf W (cutAt p w X Y) (H * W) = out at *
  refine FnOk.of_vc Tryd.func59 rfl (by decide) (by simp [Tryd.f59]) [.cell 4 28, .tmp 5] rfl fun w0 T0 _ => ?_
  simp only [Tryd.f59, argEnv]
  (repeat' first | with_reducible (first | refine Asm.intro fun _ => ?_ | refine Chk.g ?_ | refine AnyI.i64 fun _ _ => ?_ | refine LetW.g ?_ | refine LetW.h ?_ | refine Ite.t fun _ => ?_ | refine Ite.f fun _ => ?_ | refine Ite.decide (fun _ => ?_) fun _ => ?_ | refine Ite.bool (fun _ => ?_) fun _ => ?_ | refine And.intro ?_ ?_) | omega | simp (maxSteps := 1000000) only [go_sem, reduceCtorEq, Nat.reduceLT, Nat.reduceLeDiff, reduceIte, ↓reduceIte, Nat.reduceEqDiff, Nat.reduceAdd, Nat.reduceMul, Nat.reduceSub, Int.reduceLE, Int.reduceLT, Int.reduceNeg, Int.reduceToNat])
  refine VcCall.fr (FnFr.of_ok (checkBoth_ok w h X Y W H hw1 hw hh1 hh hwh p hp hW hH hX hY) rfl rfl) (by simp only [noIdR_ok, argOkL, argOk, allOk, argOkN, List.drop_zero, lk, reduceIte, reduceCtorEq, Nat.reduceEqDiff, Option.some.injEq, Item.row.injEq, Item.box.injEq, AV.ro.injEq, exists_eq_left, exists_and_left, exists_eq_left', exists_eq_right, and_assoc, and_true, true_and, List.cons.injEq, exists_eq', exists_eq]) 0 rfl (by simp [rowsB]) ?_
  (repeat' first | with_reducible (first | refine Asm.intro fun _ => ?_ | refine Chk.g ?_ | refine AnyI.i64 fun _ _ => ?_ | refine LetW.g ?_ | refine LetW.h ?_ | refine Ite.t fun _ => ?_ | refine Ite.f fun _ => ?_ | refine Ite.decide (fun _ => ?_) fun _ => ?_ | refine Ite.bool (fun _ => ?_) fun _ => ?_ | refine And.intro ?_ ?_) | omega | simp (maxSteps := 1000000) only [go_sem, reduceCtorEq, Nat.reduceLT, Nat.reduceLeDiff, reduceIte, ↓reduceIte, Nat.reduceEqDiff, Nat.reduceAdd, Nat.reduceMul, Nat.reduceSub, Int.reduceLE, Int.reduceLT, Int.reduceNeg, Int.reduceToNat])
  refine VcCall.fr (FnFr.of_ok k1 rfl rfl) (by simp only [noIdR_ok, argOkL, argOk, allOk, argOkN, List.drop_zero, lk, reduceIte, reduceCtorEq, Nat.reduceEqDiff, Option.some.injEq, Item.row.injEq, Item.box.injEq, AV.ro.injEq, exists_eq_left, exists_and_left, exists_eq_left', exists_eq_right, and_assoc, and_true, true_and, List.cons.injEq, exists_eq', exists_eq]) 1 rfl (by simp [rowsB, Item.below, Fv.below, belowL]) ?_
  (repeat' first | with_reducible (first | refine Asm.intro fun _ => ?_ | refine Chk.g ?_ | refine AnyI.i64 fun _ _ => ?_ | refine LetW.g ?_ | refine LetW.h ?_ | refine Ite.t fun _ => ?_ | refine Ite.f fun _ => ?_ | refine Ite.decide (fun _ => ?_) fun _ => ?_ | refine Ite.bool (fun _ => ?_) fun _ => ?_ | refine And.intro ?_ ?_) | omega | simp (maxSteps := 1000000) only [go_sem, reduceCtorEq, Nat.reduceLT, Nat.reduceLeDiff, reduceIte, ↓reduceIte, Nat.reduceEqDiff, Nat.reduceAdd, Nat.reduceMul, Nat.reduceSub, Int.reduceLE, Int.reduceLT, Int.reduceNeg, Int.reduceToNat])
  refine Ret.auto 1 ?_ rfl ?_ <;> simp only [go_sem, reduceCtorEq, reduceIte, Nat.reduceEqDiff, Nat.reduceLT, Nat.reduceLeDiff, Int.natCast_succ, Post, List.drop_zero]
  all_goals simp (maxSteps := 1000000) only [go_sem, reduceCtorEq, Nat.reduceLT, Nat.reduceLeDiff, reduceIte, ↓reduceIte, Nat.reduceEqDiff, Nat.reduceAdd, Nat.reduceMul, Nat.reduceSub, Int.reduceLE, Int.reduceLT, Int.reduceNeg, Int.reduceToNat]

theorem sumB_take (l : List Bool) {i : Nat} (h : i < l.length) : ((l.take (i + 1)).map b2i).sum = ((l.take i).map b2i).sum + b2i (l.getD i false) := by
  rw [List.take_succ_eq_append_getElem h, List.map_append, List.sum_append, getD_lt h]
  simp
theorem sumB_bd : ∀ l : List Bool, 0 ≤ (l.map b2i).sum ∧ (l.map b2i).sum ≤ (l.length : Int)
  | [] => by simp
  | b :: l => by
    have := sumB_bd l
    cases b <;> simp [b2i] <;> omega

set_option maxHeartbeats 2000000 in
theorem ink_ok (w h X Y W H : Nat) (hw1 : 1 ≤ w) (hw : w ≤ 4000) (hh1 : 1 ≤ h) (hh : h ≤ 4000) (hwh : w * h ≤ 1048576) (p : List Bool) (hp : p.length = w * h) (hW : 1 ≤ W) (hH : 1 ≤ H) (hX : X + W ≤ w) (hY : Y + H ≤ h) :
    FnOk Tryd.prog 44 [.agg [.int .i64 w, .int .i64 h, .ro (.bools p)], .agg [.int .i64 X, .int .i64 Y, .int .i64 W, .int .i64 H]] (.tup [.int .i64 (inkN p w X Y W H), .int .i64 0]) [] := by
  have k1 := cut_ok w h X Y W H hw1 hw hh1 hh hwh p hp hW hH hX hY
  rw [← inkN_rows]
  have hl := rowsOf_len W (cutAt p w X Y) (H * W)
  have hb : H * W ≤ 4000 * 4000 := Nat.mul_le_mul (by omega) (by omega)
  generalize rowsOf W (cutAt p w X Y) (H * W) = l at *
  refine FnOk.of_vc Tryd.func44 rfl (by decide) (by simp [Tryd.f44]) [.tmp 4, .tmp 5] rfl fun w0 T0 _ => ?_
  simp only [Tryd.f44, argEnv]
  (repeat' first | with_reducible (first | refine Asm.intro fun _ => ?_ | refine Chk.g ?_ | refine AnyI.i64 fun _ _ => ?_ | refine LetW.g ?_ | refine LetW.h ?_ | refine Ite.t fun _ => ?_ | refine Ite.f fun _ => ?_ | refine Ite.decide (fun _ => ?_) fun _ => ?_ | refine Ite.bool (fun _ => ?_) fun _ => ?_ | refine And.intro ?_ ?_) | omega | simp (maxSteps := 1000000) only [go_sem, reduceCtorEq, Nat.reduceLT, Nat.reduceLeDiff, reduceIte, ↓reduceIte, Nat.reduceEqDiff, Nat.reduceAdd, Nat.reduceMul, Nat.reduceSub, Int.reduceLE, Int.reduceLT, Int.reduceNeg, Int.reduceToNat])
  refine VcCall.fr (FnFr.of_ok k1 rfl rfl) (by simp only [noIdR_ok, argOkL, argOk, allOk, argOkN, List.drop_zero, lk, reduceIte, reduceCtorEq, Nat.reduceEqDiff, Option.some.injEq, Item.row.injEq, Item.box.injEq, AV.ro.injEq, exists_eq_left, exists_and_left, exists_eq_left', exists_eq_right, and_assoc, and_true, true_and, List.cons.injEq, exists_eq', exists_eq]) 1 rfl (by simp [rowsB, Item.below, Fv.below, belowL]) ?_
  (repeat' first | with_reducible (first | refine Asm.intro fun _ => ?_ | refine Chk.g ?_ | refine AnyI.i64 fun _ _ => ?_ | refine LetW.g ?_ | refine LetW.h ?_ | refine Ite.t fun _ => ?_ | refine Ite.f fun _ => ?_ | refine Ite.decide (fun _ => ?_) fun _ => ?_ | refine Ite.bool (fun _ => ?_) fun _ => ?_ | refine And.intro ?_ ?_) | omega | simp (maxSteps := 1000000) only [go_sem, reduceCtorEq, Nat.reduceLT, Nat.reduceLeDiff, reduceIte, ↓reduceIte, Nat.reduceEqDiff, Nat.reduceAdd, Nat.reduceMul, Nat.reduceSub, Int.reduceLE, Int.reduceLT, Int.reduceNeg, Int.reduceToNat])
  refine VcLoop.intro (fun i : Nat => ⟨30, [(20, .int .i64 i), (19, .int .i64 l.length), (18, .own 2), (8, .int .i64 ((l.take i).map b2i).sum), (7, .int .i64 0)], [(2, .row 4 (.bools l))], 4⟩) (fun i => i ≤ l.length) (fun i => l.length - i) 0 ?_ (Nat.zero_le _) fun i hi => ?_
  · refine Ent.auto0 rfl ?_ ?_ <;> simp only [go_sem, reduceCtorEq, reduceIte, Nat.reduceEqDiff, Nat.reduceLT, Nat.reduceLeDiff, Int.natCast_succ, List.take_zero, List.map_nil, List.sum_nil]
  have hbd := sumB_bd (l.take i)
  have hlt := List.length_take (i := i) (l := l)
  (repeat' first | with_reducible (first | refine Asm.intro fun _ => ?_ | refine Chk.g ?_ | refine AnyI.i64 fun _ _ => ?_ | refine LetW.g ?_ | refine LetW.h ?_ | refine Ite.t fun _ => ?_ | refine Ite.f fun _ => ?_ | refine Ite.decide (fun _ => ?_) fun _ => ?_ | refine Ite.bool (fun _ => ?_) fun _ => ?_ | refine And.intro ?_ ?_) | omega | simp (maxSteps := 1000000) only [go_sem, reduceCtorEq, Nat.reduceLT, Nat.reduceLeDiff, reduceIte, ↓reduceIte, Nat.reduceEqDiff, Nat.reduceAdd, Nat.reduceMul, Nat.reduceSub, Int.reduceLE, Int.reduceLT, Int.reduceNeg, Int.reduceToNat])
  · rename_i h1 h2
    have hs := sumB_take l (i := i) (by omega)
    rw [h2] at hs
    refine ⟨i + 1, Ent.auto0 rfl ?_ ?_, by omega, by omega⟩ <;> simp only [go_sem, reduceCtorEq, reduceIte, Nat.reduceEqDiff, Nat.reduceLT, Nat.reduceLeDiff, Int.natCast_succ, hs, b2i]
    all_goals rfl
  · rename_i h1 h2
    have hs := sumB_take l (i := i) (by omega)
    rw [h2] at hs
    refine ⟨i + 1, Ent.auto0 rfl ?_ ?_, by omega, by omega⟩ <;> simp only [go_sem, reduceCtorEq, reduceIte, Nat.reduceEqDiff, Nat.reduceLT, Nat.reduceLeDiff, Int.natCast_succ, hs, b2i]
    simp
  · have e : i = l.length := by omega
    subst e
    rw [List.take_length]
    refine Ret.auto 0 ?_ rfl ?_ <;> simp only [go_sem, reduceCtorEq, reduceIte, Nat.reduceEqDiff, Nat.reduceLT, Nat.reduceLeDiff, Int.natCast_succ, Post]

end Go.Fv.T

namespace Go.Fv.T
open Go Go.Proofs
set_option linter.unusedSimpArgs false
set_option linter.unusedVariables false
set_option maxRecDepth 8000

def blankB (p : List Bool) (w h m : Nat) (most : Int) : Bool :=
  if w ≤ 2 * m ∨ h ≤ 2 * m then true else decide (((inkN p w m m (w - 2 * m) (h - 2 * m) * 1000 : Nat) : Int) ≤ most * ((w - 2 * m : Nat) : Int) * ((h - 2 * m : Nat) : Int))

set_option maxHeartbeats 2000000 in
theorem isBlank_ok (w h : Nat) (hw1 : 1 ≤ w) (hw : w ≤ 4000) (hh1 : 1 ≤ h) (hh : h ≤ 4000) (hwh : w * h ≤ 1048576) (p : List Bool) (hp : p.length = w * h) (m : Nat) (hm : m ≤ 4000) (most : Int) (h0 : 0 ≤ most) (h1 : most ≤ 1000) :
    FnOk Tryd.prog 31 [.agg [.int .i64 w, .int .i64 h, .ro (.bools p)], .int .i64 m, .int .i64 most] (.bool (blankB p w h m most)) [] := by
  by_cases hc : w ≤ 2 * m ∨ h ≤ 2 * m
  · have e : blankB p w h m most = true := by unfold blankB; rw [if_pos hc]
    rw [e]
    refine FnOk.of_vc Tryd.func31 rfl (by decide) (by simp [Tryd.f31]) [.tmp 6] rfl fun w0 T0 _ => ?_
    simp only [Tryd.f31, argEnv]
    (repeat' first | with_reducible (first | refine Asm.intro fun _ => ?_ | refine Chk.g ?_ | refine AnyI.i64 fun _ _ => ?_ | refine LetW.g ?_ | refine LetW.h ?_ | refine Ite.t fun _ => ?_ | refine Ite.f fun _ => ?_ | refine Ite.decide (fun _ => ?_) fun _ => ?_ | refine Ite.bool (fun _ => ?_) fun _ => ?_ | refine And.intro ?_ ?_) | omega | simp (maxSteps := 1000000) only [go_sem, reduceCtorEq, Nat.reduceLT, Nat.reduceLeDiff, reduceIte, ↓reduceIte, Nat.reduceEqDiff, Nat.reduceAdd, Nat.reduceMul, Nat.reduceSub, Int.reduceLE, Int.reduceLT, Int.reduceNeg, Int.reduceToNat])
    refine Ret.auto 0 ?_ rfl ?_ <;> simp only [go_sem, reduceCtorEq, reduceIte, Nat.reduceEqDiff, Nat.reduceLT, Nat.reduceLeDiff, Int.natCast_succ, Post]
  · have k1 := ink_ok w h m m (w - 2 * m) (h - 2 * m) hw1 (by omega) hh1 (by omega) hwh p hp (by omega) (by omega) (by omega) (by omega)
    have hn := inkN_le p w m m (w - 2 * m) (h - 2 * m)
    have e : blankB p w h m most = decide (((inkN p w m m (w - 2 * m) (h - 2 * m) * 1000 : Nat) : Int) ≤ most * ((w - 2 * m : Nat) : Int) * ((h - 2 * m : Nat) : Int)) := by unfold blankB; rw [if_neg hc]
    rw [e]
    have e1 : (w : Int) - 2 * m = ((w - 2 * m : Nat) : Int) := by omega
    have e2 : (h : Int) - 2 * m = ((h - 2 * m : Nat) : Int) := by omega
    have q1 : 1 ≤ w - 2 * m ∧ w - 2 * m ≤ 4000 := by omega
    have q2 : 1 ≤ h - 2 * m ∧ h - 2 * m ≤ 4000 := by omega
    generalize inkN p w m m (w - 2 * m) (h - 2 * m) = n at *
    generalize w - 2 * m = W at *
    generalize h - 2 * m = H at *
    have hWH : H * W ≤ 4000 * 4000 := Nat.mul_le_mul q2.2 q1.2
    obtain ⟨mo, rfl⟩ : ∃ k : Nat, most = k := ⟨most.toNat, by omega⟩
    have hmW : mo * W ≤ 1000 * 4000 := Nat.mul_le_mul (by omega) q1.2
    have hmH : mo * W * H ≤ 4000000 * 4000 := Nat.mul_le_mul hmW q2.2
    refine FnOk.of_vc Tryd.func31 rfl (by decide) (by simp [Tryd.f31]) [.tmp 6] rfl fun w0 T0 _ => ?_
    simp only [Tryd.f31, argEnv]
    (repeat' first | with_reducible (first | refine Asm.intro fun _ => ?_ | refine Chk.g ?_ | refine AnyI.i64 fun _ _ => ?_ | refine LetW.g ?_ | refine LetW.h ?_ | refine Ite.t fun _ => ?_ | refine Ite.f fun _ => ?_ | refine Ite.decide (fun _ => ?_) fun _ => ?_ | refine Ite.bool (fun _ => ?_) fun _ => ?_ | refine And.intro ?_ ?_) | omega | simp (maxSteps := 1000000) only [go_sem, reduceCtorEq, Nat.reduceLT, Nat.reduceLeDiff, reduceIte, ↓reduceIte, Nat.reduceEqDiff, Nat.reduceAdd, Nat.reduceMul, Nat.reduceSub, Int.reduceLE, Int.reduceLT, Int.reduceNeg, Int.reduceToNat, e1, e2])
    refine VcCall.fr (FnFr.of_ok k1 rfl rfl) (by simp only [noIdR_ok, argOkL, argOk, allOk, argOkN, List.drop_zero, lk, reduceIte, reduceCtorEq, Nat.reduceEqDiff, Option.some.injEq, Item.row.injEq, Item.box.injEq, AV.ro.injEq, exists_eq_left, exists_and_left, exists_eq_left', exists_eq_right, and_assoc, and_true, true_and, List.cons.injEq, exists_eq', exists_eq]) 0 rfl (by simp [rowsB]) ?_
    (repeat' first | with_reducible (first | refine Asm.intro fun _ => ?_ | refine Chk.g ?_ | refine AnyI.i64 fun _ _ => ?_ | refine LetW.g ?_ | refine LetW.h ?_ | refine Ite.t fun _ => ?_ | refine Ite.f fun _ => ?_ | refine Ite.decide (fun _ => ?_) fun _ => ?_ | refine Ite.bool (fun _ => ?_) fun _ => ?_ | refine And.intro ?_ ?_) | omega | simp (maxSteps := 1000000) only [go_sem, reduceCtorEq, Nat.reduceLT, Nat.reduceLeDiff, reduceIte, ↓reduceIte, Nat.reduceEqDiff, Nat.reduceAdd, Nat.reduceMul, Nat.reduceSub, Int.reduceLE, Int.reduceLT, Int.reduceNeg, Int.reduceToNat, up_mul])
    refine Ret.auto 0 ?_ rfl ?_ <;> simp only [go_sem, reduceCtorEq, reduceIte, Nat.reduceEqDiff, Nat.reduceLT, Nat.reduceLeDiff, Int.natCast_succ, Post, up_mul]
    simp

end Go.Fv.T

/- Documents out of batches: what Split computes, in plain words; the closures that put a sheet into a document. -/
namespace Go.Fv.T
open Go Go.Proofs
set_option linter.unusedSimpArgs false
set_option linter.unusedVariables false
set_option linter.unnecessarySimpa false
set_option maxRecDepth 8000

structure Wy where
  sep : List UInt8
  keep : Bool
  margin : Int
  blank : Int
  most : Int
  rules : List Ru
def Wy.av (w : Wy) : List AV := [.str w.sep, .bool w.keep, .int .i64 w.margin, .int .i64 w.blank, .int .i64 w.most, .ro (rus w.rules)]
/-- The document that is open stays so. -/
def stayB (most : Int) (n : Nat) : Bool := decide (most = 0 ∨ (n : Int) < most)
theorem covS4 {a b c d : Item} : ∀ j, j < 4 → ∃ it, lk [(0, a), (1, b), (2, c), (3, d)] j = some it
  | 0, _ => ⟨_, rfl⟩
  | 1, _ => ⟨_, rfl⟩
  | 2, _ => ⟨_, rfl⟩
  | 3, _ => ⟨_, rfl⟩
  | _ + 4, h => absurd h (by omega)
theorem covS5 {a b c d e : Item} : ∀ j, j < 5 → ∃ it, lk [(0, a), (1, b), (2, c), (3, d), (4, e)] j = some it
  | 0, _ => ⟨_, rfl⟩
  | 1, _ => ⟨_, rfl⟩
  | 2, _ => ⟨_, rfl⟩
  | 3, _ => ⟨_, rfl⟩
  | 4, _ => ⟨_, rfl⟩
  | _ + 5, h => absurd h (by omega)
theorem dcs_last (F : List Dc) (x : List AV) : (F.map Dc.av ++ [x]).getD F.length [] = x := by
  simp [List.getD_eq_getElem?_getD]
theorem dcs_set (F : List Dc) (x y : List AV) : (F.map Dc.av ++ [x]).set F.length y = F.map Dc.av ++ [y] := by
  rw [List.set_append_right (h := by simp), List.length_map, Nat.sub_self]; rfl
theorem ren_dl (p : Nat → Nat) (F : List Dc) (k : List UInt8) (n : Nat) : renR p (.objs 2 (F.map Dc.av ++ [[.str k, .own n]])) = .objs 2 (F.map Dc.av ++ [[.str k, .own (p n)]]) := by
  simp only [renR, List.map_append, List.map_cons, List.map_nil]
  rw [lall_ren p (F.map Dc.av) (by simp [List.all_eq_true, Dc.av, noIdL, noId])]
  rfl
theorem below_dl {N n : Nat} {F : List Dc} {k : List UInt8} (h : n < N) : belowR N (.objs 2 (F.map Dc.av ++ [[.str k, .own n]])) = true := by
  simp only [belowR, List.all_append, Bool.and_eq_true]
  refine ⟨?_, by simp [belowL, Fv.below, h]⟩
  rw [List.all_eq_true]
  intro x hx
  obtain ⟨d, _, rfl⟩ := List.mem_map.1 hx
  rfl
theorem last_idx (n : Nat) : (((n + 1 : Nat) : Int) - 1).toNat = n := by omega
set_option maxHeartbeats 4000000 in
theorem addNew_ok (w : Wy) (F : List Dc) (i : Int) (k : List UInt8) (hl : F.length ≤ 1000) :
    FnIO Tryd.prog 28 [.int .i64 i, .str k, .ptr 0 0, .ptr 1 0, .ptr 2 0] [(0, .box 4 [.bool false]), (1, .box 45 [.own 3]), (2, .box 50 w.av), (3, .row 52 (dcs F))] 4 (.tup [])
      [(0, .box 4 [.bool (stayB w.most 1)]), (1, .box 45 [.own 4]), (2, .box 50 w.av), (4, .row 52 (.objs 2 (F.map Dc.av ++ [[.str k, .own 5]]))), (5, .row 3 (.ints .i64 [i]))] := by
  have hla := dcs_last F
  have hse := dcs_set F
  have e1 := last_idx F.length
  unfold Wy.av
  refine FnIO.of_vc Tryd.func28 rfl (by decide) (by simp [Tryd.f28]) covS4 [] rfl fun w0 T0 _ => ?_
  simp only [Tryd.f28, argEnv]
  (repeat' first | with_reducible (first | refine Asm.intro fun _ => ?_ | refine Chk.g ?_ | refine AnyI.i64 fun _ _ => ?_ | refine LetW.g ?_ | refine LetW.h ?_ | refine Ite.t fun _ => ?_ | refine Ite.f fun _ => ?_ | refine Ite.decide (fun _ => ?_) fun _ => ?_ | refine Ite.bool (fun _ => ?_) fun _ => ?_ | refine And.intro ?_ ?_) | omega | simp (maxSteps := 1000000) only [go_sem, reduceCtorEq, Nat.reduceLT, Nat.reduceLeDiff, reduceIte, ↓reduceIte, Nat.reduceEqDiff, Nat.reduceAdd, Nat.reduceMul, Nat.reduceSub, Int.reduceLE, Int.reduceLT, Int.reduceNeg, Int.reduceToNat, List.length_map, e1, hla, hse])
  refine VcDraw.lex [13] [] (by kernel_rfl) (by kernel_rfl) ?_
  by_cases hm : w.most = 0
  · have hst : stayB w.most 1 = true := by unfold stayB; simp [hm]
    rw [hst]
    (repeat' first | with_reducible (first | refine Asm.intro fun _ => ?_ | refine Chk.g ?_ | refine AnyI.i64 fun _ _ => ?_ | refine LetW.g ?_ | refine LetW.h ?_ | refine Ite.t fun _ => ?_ | refine Ite.f fun _ => ?_ | refine Ite.decide (fun _ => ?_) fun _ => ?_ | refine Ite.bool (fun _ => ?_) fun _ => ?_ | refine And.intro ?_ ?_) | omega | simp (maxSteps := 1000000) only [go_sem, reduceCtorEq, Nat.reduceLT, Nat.reduceLeDiff, reduceIte, ↓reduceIte, Nat.reduceEqDiff, Nat.reduceAdd, Nat.reduceMul, Nat.reduceSub, Int.reduceLE, Int.reduceLT, Int.reduceNeg, Int.reduceToNat, hm, List.length_map, e1, hla, hse])
    refine RetK.of [(4, 5), (5, 8)] 6 (by decide) (by decide) ?_ rfl ?_ <;> simp only [go_sem, reduceCtorEq, reduceIte, Nat.reduceEqDiff, Nat.reduceLT, Nat.reduceLeDiff, Int.natCast_succ]
    exact ⟨by rw [ren_dl]; rfl, below_dl (by decide)⟩
  · by_cases h1 : 1 < w.most
    · have hst : stayB w.most 1 = true := by unfold stayB; simp; omega
      rw [hst]
      (repeat' first | with_reducible (first | refine Asm.intro fun _ => ?_ | refine Chk.g ?_ | refine AnyI.i64 fun _ _ => ?_ | refine LetW.g ?_ | refine LetW.h ?_ | refine Ite.t fun _ => ?_ | refine Ite.f fun _ => ?_ | refine Ite.decide (fun _ => ?_) fun _ => ?_ | refine Ite.bool (fun _ => ?_) fun _ => ?_ | refine And.intro ?_ ?_) | omega | simp (maxSteps := 1000000) only [go_sem, reduceCtorEq, Nat.reduceLT, Nat.reduceLeDiff, reduceIte, ↓reduceIte, Nat.reduceEqDiff, Nat.reduceAdd, Nat.reduceMul, Nat.reduceSub, Int.reduceLE, Int.reduceLT, Int.reduceNeg, Int.reduceToNat, hm, h1, List.length_map, e1, hla, hse])
      refine RetK.of [(4, 5), (5, 8)] 6 (by decide) (by decide) ?_ rfl ?_ <;> simp only [go_sem, reduceCtorEq, reduceIte, Nat.reduceEqDiff, Nat.reduceLT, Nat.reduceLeDiff, Int.natCast_succ]
      exact ⟨by omega, by rw [ren_dl]; rfl, below_dl (by decide)⟩
    · have hst : stayB w.most 1 = false := by unfold stayB; simp; omega
      rw [hst]
      (repeat' first | with_reducible (first | refine Asm.intro fun _ => ?_ | refine Chk.g ?_ | refine AnyI.i64 fun _ _ => ?_ | refine LetW.g ?_ | refine LetW.h ?_ | refine Ite.t fun _ => ?_ | refine Ite.f fun _ => ?_ | refine Ite.decide (fun _ => ?_) fun _ => ?_ | refine Ite.bool (fun _ => ?_) fun _ => ?_ | refine And.intro ?_ ?_) | omega | simp (maxSteps := 1000000) only [go_sem, reduceCtorEq, Nat.reduceLT, Nat.reduceLeDiff, reduceIte, ↓reduceIte, Nat.reduceEqDiff, Nat.reduceAdd, Nat.reduceMul, Nat.reduceSub, Int.reduceLE, Int.reduceLT, Int.reduceNeg, Int.reduceToNat, hm, h1, List.length_map, e1, hla, hse])
      refine RetK.of [(4, 5), (5, 8)] 6 (by decide) (by decide) ?_ rfl ?_ <;> simp only [go_sem, reduceCtorEq, reduceIte, Nat.reduceEqDiff, Nat.reduceLT, Nat.reduceLeDiff, Int.natCast_succ]
      exact ⟨by omega, by rw [ren_dl]; rfl, below_dl (by decide)⟩
set_option maxHeartbeats 4000000 in
theorem addOld_ok (w : Wy) (F : List Dc) (i : Int) (k k0 : List UInt8) (ps : List Int) (hl : F.length ≤ 1000) (hp : ps.length ≤ 1000) :
    FnIO Tryd.prog 28 [.int .i64 i, .str k, .ptr 0 0, .ptr 1 0, .ptr 2 0] [(0, .box 4 [.bool true]), (1, .box 45 [.own 3]), (2, .box 50 w.av), (3, .row 52 (.objs 2 (F.map Dc.av ++ [[.str k0, .own 4]]))), (4, .row 3 (.ints .i64 ps))] 5 (.tup [])
      [(0, .box 4 [.bool (stayB w.most (ps.length + 1))]), (1, .box 45 [.own 5]), (2, .box 50 w.av), (5, .row 52 (.objs 2 (F.map Dc.av ++ [[.str k0, .own 6]]))), (6, .row 3 (.ints .i64 (ps ++ [i])))] := by
  have hla := dcs_last F
  have hse := dcs_set F
  have e1 := last_idx F.length
  unfold Wy.av
  refine FnIO.of_vc Tryd.func28 rfl (by decide) (by simp [Tryd.f28]) covS5 [] rfl fun w0 T0 _ => ?_
  simp only [Tryd.f28, argEnv]
  (repeat' first | with_reducible (first | refine Asm.intro fun _ => ?_ | refine Chk.g ?_ | refine AnyI.i64 fun _ _ => ?_ | refine LetW.g ?_ | refine LetW.h ?_ | refine Ite.t fun _ => ?_ | refine Ite.f fun _ => ?_ | refine Ite.decide (fun _ => ?_) fun _ => ?_ | refine Ite.bool (fun _ => ?_) fun _ => ?_ | refine And.intro ?_ ?_) | omega | simp (maxSteps := 1000000) only [go_sem, reduceCtorEq, Nat.reduceLT, Nat.reduceLeDiff, reduceIte, ↓reduceIte, Nat.reduceEqDiff, Nat.reduceAdd, Nat.reduceMul, Nat.reduceSub, Int.reduceLE, Int.reduceLT, Int.reduceNeg, Int.reduceToNat, List.length_map, e1, hla, hse])
  refine VcDraw.lex [13] [] (by kernel_rfl) (by kernel_rfl) ?_
  have hst : ∀ b : Bool, (b = true ↔ w.most = 0 ∨ ((ps.length + 1 : Nat) : Int) < w.most) → stayB w.most (ps.length + 1) = b := fun b h => by
    unfold stayB; rw [Bool.eq_iff_iff, decide_eq_true_eq]; exact h.symm
  by_cases hm : w.most = 0
  · rw [hst true (by simp [hm])]
    (repeat' first | with_reducible (first | refine Asm.intro fun _ => ?_ | refine Chk.g ?_ | refine AnyI.i64 fun _ _ => ?_ | refine LetW.g ?_ | refine LetW.h ?_ | refine Ite.t fun _ => ?_ | refine Ite.f fun _ => ?_ | refine Ite.decide (fun _ => ?_) fun _ => ?_ | refine Ite.bool (fun _ => ?_) fun _ => ?_ | refine And.intro ?_ ?_) | omega | simp (maxSteps := 1000000) only [go_sem, reduceCtorEq, Nat.reduceLT, Nat.reduceLeDiff, reduceIte, ↓reduceIte, Nat.reduceEqDiff, Nat.reduceAdd, Nat.reduceMul, Nat.reduceSub, Int.reduceLE, Int.reduceLT, Int.reduceNeg, Int.reduceToNat, hm, List.length_map, e1, hla, hse])
    refine RetK.of [(5, 3), (6, 6)] 7 (by decide) (by decide) ?_ rfl ?_ <;> simp only [go_sem, reduceCtorEq, reduceIte, Nat.reduceEqDiff, Nat.reduceLT, Nat.reduceLeDiff, Int.natCast_succ]
    exact ⟨by rw [ren_dl]; rfl, below_dl (by decide)⟩
  · by_cases h1 : (ps.length : Int) + 1 < w.most
    · rw [hst true (by simp; omega)]
      (repeat' first | with_reducible (first | refine Asm.intro fun _ => ?_ | refine Chk.g ?_ | refine AnyI.i64 fun _ _ => ?_ | refine LetW.g ?_ | refine LetW.h ?_ | refine Ite.t fun _ => ?_ | refine Ite.f fun _ => ?_ | refine Ite.decide (fun _ => ?_) fun _ => ?_ | refine Ite.bool (fun _ => ?_) fun _ => ?_ | refine And.intro ?_ ?_) | omega | simp (maxSteps := 1000000) only [go_sem, reduceCtorEq, Nat.reduceLT, Nat.reduceLeDiff, reduceIte, ↓reduceIte, Nat.reduceEqDiff, Nat.reduceAdd, Nat.reduceMul, Nat.reduceSub, Int.reduceLE, Int.reduceLT, Int.reduceNeg, Int.reduceToNat, hm, h1, List.length_map, e1, hla, hse])
      refine RetK.of [(5, 3), (6, 6)] 7 (by decide) (by decide) ?_ rfl ?_ <;> simp only [go_sem, reduceCtorEq, reduceIte, Nat.reduceEqDiff, Nat.reduceLT, Nat.reduceLeDiff, Int.natCast_succ]
      exact ⟨by omega, by rw [ren_dl]; rfl, below_dl (by decide)⟩
    · rw [hst false (by simp; omega)]
      (repeat' first | with_reducible (first | refine Asm.intro fun _ => ?_ | refine Chk.g ?_ | refine AnyI.i64 fun _ _ => ?_ | refine LetW.g ?_ | refine LetW.h ?_ | refine Ite.t fun _ => ?_ | refine Ite.f fun _ => ?_ | refine Ite.decide (fun _ => ?_) fun _ => ?_ | refine Ite.bool (fun _ => ?_) fun _ => ?_ | refine And.intro ?_ ?_) | omega | simp (maxSteps := 1000000) only [go_sem, reduceCtorEq, Nat.reduceLT, Nat.reduceLeDiff, reduceIte, ↓reduceIte, Nat.reduceEqDiff, Nat.reduceAdd, Nat.reduceMul, Nat.reduceSub, Int.reduceLE, Int.reduceLT, Int.reduceNeg, Int.reduceToNat, hm, h1, List.length_map, e1, hla, hse])
      refine RetK.of [(5, 3), (6, 6)] 7 (by decide) (by decide) ?_ rfl ?_ <;> simp only [go_sem, reduceCtorEq, reduceIte, Nat.reduceEqDiff, Nat.reduceLT, Nat.reduceLeDiff, Int.natCast_succ]
      exact ⟨by omega, by rw [ren_dl]; rfl, below_dl (by decide)⟩
end Go.Fv.T

/- The reference's closure that puts a sheet into a document. -/
namespace Go.Fv.T
open Go Go.Proofs
set_option linter.unusedSimpArgs false
set_option linter.unusedVariables false
set_option linter.unnecessarySimpa false
set_option maxRecDepth 8000

end Go.Fv.T

/- Split: the model, and the walk. -/
namespace Go.Fv.T
open Go Go.Proofs
set_option linter.unusedSimpArgs false
set_option linter.unusedVariables false
set_option linter.unnecessarySimpa false
set_option maxRecDepth 8000

structure St where
  F : List Dc
  last : Option Dc
  left : List Int
def St.docs (s : St) : List Dc := s.F ++ s.last.toList
def St.close (s : St) : St := ⟨s.docs, none, s.left⟩
def addD (most : Int) (d : Dc) (F : List Dc) (left : List Int) : St := if stayB most d.pages.length = true then ⟨F, some d, left⟩ else ⟨F ++ [d], none, left⟩
def St.add (most : Int) (s : St) (i : Int) (k : List UInt8) : St := match s.last with
  | some d => addD most ⟨d.kind, d.pages ++ [i]⟩ s.F s.left
  | none => addD most ⟨k, [i]⟩ s.F s.left
def blankS (s : Sh) (w : Wy) : Bool := blankB s.p s.W.toNat s.H.toNat w.margin.toNat w.blank
def sepHit (s : Sh) (w : Wy) : Prop := w.sep ≠ [] ∧ begB s.codes w.sep = true
def blankHit (s : Sh) (w : Wy) : Prop := 0 ≤ w.blank ∧ blankS s w = true
instance (s : Sh) (w : Wy) : Decidable (sepHit s w) := by unfold sepHit; infer_instance
instance (s : Sh) (w : Wy) : Decidable (blankHit s w) := by unfold blankHit; infer_instance
def spStep (s : Sh) (w : Wy) (st : St) (i : Int) : St :=
  if sepHit s w then (if w.keep = true then st.close.add w.most i (kindS s w.rules) else ⟨st.docs, none, st.left ++ [i]⟩)
  else if blankHit s w then ⟨st.F, st.last, st.left ++ [i]⟩
  else if kindS s w.rules ≠ [] then st.close.add w.most i (kindS s w.rules)
  else st.add w.most i (kindS s w.rules)
def spN (l : List Sh) (w : Wy) : Nat → St
  | 0 => ⟨[], none, []⟩
  | i + 1 => spStep (l.getD i Sh.zero) w (spN l w i) i
structure SInv (most : Int) (st : St) (n : Nat) : Prop where
  docs : st.docs.length ≤ n
  left : st.left.length ≤ n
  last : ∀ d, st.last = some d → d.pages.length ≤ n ∧ stayB most d.pages.length = true
theorem SInv.addD {most : Int} {d : Dc} {F : List Dc} {left : List Int} {n : Nat} (h1 : F.length + 1 ≤ n) (h2 : left.length ≤ n) (h3 : d.pages.length ≤ n) : SInv most (addD most d F left) n := by
  unfold Go.Fv.T.addD
  split
  · rename_i h
    exact ⟨by simp [St.docs]; omega, h2, fun d' hd => by cases hd; exact ⟨h3, h⟩⟩
  · exact ⟨by simp [St.docs]; omega, h2, fun d' hd => by cases hd⟩
theorem SInv.add {most : Int} {st : St} {n : Nat} (h : SInv most st n) (i : Int) (k : List UInt8) : SInv most (st.add most i k) (n + 1) := by
  have h1 := h.docs
  have h2 := h.left
  unfold St.add
  cases hl : st.last with
  | some d =>
    have h3 := (h.last d hl).1
    unfold St.docs at h1
    rw [hl] at h1
    simp at h1
    exact SInv.addD (by omega) (by omega) (by simp; omega)
  | none =>
    unfold St.docs at h1
    rw [hl] at h1
    simp at h1
    exact SInv.addD (by omega) (by omega) (by simp)
theorem SInv.close {most : Int} {st : St} {n : Nat} (h : SInv most st n) : SInv most st.close n :=
  ⟨by simpa [St.close, St.docs] using h.docs, h.left, fun d hd => by cases hd⟩
theorem spN_inv (l : List Sh) (w : Wy) : ∀ n, SInv w.most (spN l w n) n
  | 0 => ⟨Nat.le_refl _, Nat.le_refl _, fun d hd => by cases hd⟩
  | n + 1 => by
    have ih := spN_inv l w n
    have h1 := ih.docs
    have h2 := ih.left
    unfold spN spStep
    split
    · split
      · exact ih.close.add _ _
      · exact ⟨by simpa [St.docs] using Nat.le_succ_of_le h1, by simp; omega, fun d hd => by cases hd⟩
    · split
      · exact ⟨Nat.le_succ_of_le h1, by simp; omega, fun d hd => ⟨Nat.le_succ_of_le (ih.last d hd).1, (ih.last d hd).2⟩⟩
      · split
        · exact ih.close.add _ _
        · exact ih.add _ _
theorem sh_dims {s : Sh} (h : shErr s = 0) : ∃ w h : Nat, s.W = w ∧ s.H = h ∧ 1 ≤ w ∧ w ≤ 4000 ∧ 1 ≤ h ∧ h ≤ 4000 ∧ w * h ≤ 1048576 ∧ s.p.length = w * h := by
  have h1 : grayErr s.W s.H s.p.length = 0 := firstErr_zero h _ (.head _)
  unfold grayErr at h1
  split at h1
  · rename_i h2
    have h3 := sizeErr_zero h2
    split at h1
    · rename_i h4
      refine ⟨s.W.toNat, s.H.toNat, by omega, by omega, by omega, by omega, by omega, by omega, ?_, ?_⟩
      · have : ((s.W.toNat * s.H.toNat : Nat) : Int) = s.W * s.H := by rw [Int.natCast_mul]; congr 1 <;> omega
        omega
      · have : ((s.W.toNat * s.H.toNat : Nat) : Int) = s.W * s.H := by rw [Int.natCast_mul]; congr 1 <;> omega
        omega
    · cases h1
  · rename_i h2; exact absurd h1 h2
/-- What a state looks like in memory. -/
def stRows (w : Wy) (st : St) : List (Nat × Item) := match st.last with
  | some d => [(0, .box 4 [.bool true]), (1, .box 45 [.own 3]), (2, .box 50 w.av), (3, .row 52 (.objs 2 (st.F.map Dc.av ++ [[.str d.kind, .own 4]]))), (4, .row 3 (.ints .i64 d.pages)), (5, .row 3 (.ints .i64 st.left))]
  | none => [(0, .box 4 [.bool false]), (1, .box 45 [.own 3]), (2, .box 50 w.av), (3, .row 52 (dcs st.F)), (5, .row 3 (.ints .i64 st.left))]
def spErr (w : Wy) : Int := firstErr [if codeOk w.sep = true then 0 else 2, if w.margin < 0 ∨ 4000 < w.margin ∨ w.blank < -1 ∨ 1000 < w.blank ∨ w.most < 0 ∨ 1000 < w.most then 3 else 0, rusErr w.rules]
end Go.Fv.T
