/-
  A part of the proof of the claim: walks over the program's functions and the plain laws that these need. No condition of its own.
-/
import Derived.Test.YtingcghleidhmaaDoorPSplitsMatchCardPart5
import Derived.Test.YtingcghleidhmaaDoorPSplitsMatchCardPart2
import Derived.Test.YtingcghleidhmaaDoorPSplitsMatchCardPart1
import Derived.Test.YtingcghleidhmaaDoorFvPart9
/-! The reference's box as small as its ink permits: the walk. -/
namespace Go.Fv.P
open Go Go.Proofs
set_option linter.unusedSimpArgs false
set_option linter.unusedVariables false
set_option linter.unnecessarySimpa false
set_option maxRecDepth 8000

theorem cutP_len (p : List Bool) (w : Nat) (b : Nb) : (cutP p w b).length = b.w * b.h := by
  unfold cutP; rw [rowsOf_len, Nat.mul_comm]
theorem natL_congr {g g' : Nat → Nat} {n : Nat} (h : ∀ i, i < n → g i = g' i) : natL g n = natL g' n := by
  unfold natL
  exact List.map_congr_left fun i hi => by rw [h i (List.mem_range.1 hi)]
theorem colsC_ok (p : List Bool) (w : Nat) (b : Nb) (hw : b.w ≤ 4000) (hh : b.h ≤ 4000) :
    FnOk Tryd.prog 40 [.agg [.int .i64 b.w, .int .i64 b.h, .ro (.bools (cutP p w b))]] (.own 0) [(0, .row 3 (.ints .i64 (natL (fun i => colN p w b (b.x + i)) b.w)))] := by
  have k := columnsOf_ok b.w b.h hw hh (cutP p w b) (cutP_len p w b)
  unfold cutP at k
  rw [natL_congr (g' := fun i => colN p w b (b.x + i)) fun i hi => cut_col p w b hi] at k
  exact k
theorem rowsC_ok (p : List Bool) (w : Nat) (b : Nb) (hw : b.w ≤ 4000) (hh : b.h ≤ 4000) :
    FnOk Tryd.prog 41 [.agg [.int .i64 b.w, .int .i64 b.h, .ro (.bools (cutP p w b))]] (.own 0) [(0, .row 3 (.ints .i64 (natL (fun i => rowN p w b (b.y + i)) b.h)))] := by
  have k := rowsOfP_ok b.w b.h hw hh (cutP p w b) (cutP_len p w b)
  unfold cutP at k
  rw [natL_congr (g' := fun i => rowN p w b (b.y + i)) fun i hi => cut_row p w b hi] at k
  exact k
theorem ink_no {p : List Bool} {w : Nat} {b : Nb} (h : inkB p w b = 0) : ∀ i, i < b.w → colN p w b (b.x + i) = 0 := by
  intro i hi
  have : colN p w b (b.x + i) ≤ inkB p w b := inkN_mono p w (by omega) (by omega) (Nat.le_refl _) (Nat.le_refl _)
  omega
set_option maxHeartbeats 4000000 in
theorem boundsNo_ok (p : List Bool) (w : Nat) (b : Nb) (hw : b.w ≤ 4000) (hh : b.h ≤ 4000) (hi : inkB p w b = 0) :
    FnOk Tryd.prog 93 [.agg [.int .i64 b.w, .int .i64 b.h, .ro (.bools (cutP p w b))]] (.tup [.agg [.int .i64 0, .int .i64 0, .int .i64 0, .int .i64 0], .bool false]) [] := by
  have k1 := colsC_ok p w b hw hh
  have k2 := endsNo_ok (fun i => colN p w b (b.x + i)) b.w (ink_no hi)
  generalize natL (fun i => colN p w b (b.x + i)) b.w = L at *
  generalize cutP p w b = q at *
  refine FnOk.of_vc Tryd.func93 rfl (by decide) (by simp [Tryd.f93]) [.cell 2 26, .tmp 3] rfl fun w0 T0 _ => ?_
  simp only [Tryd.f93, argEnv]
  (repeat' first | with_reducible (first | refine Asm.intro fun _ => ?_ | refine Chk.g ?_ | refine AnyI.i64 fun _ _ => ?_ | refine LetW.g ?_ | refine LetW.h ?_ | refine Ite.t fun _ => ?_ | refine Ite.f fun _ => ?_ | refine Ite.decide (fun _ => ?_) fun _ => ?_ | refine Ite.bool (fun _ => ?_) fun _ => ?_ | refine And.intro ?_ ?_) | omega | simp (maxSteps := 1000000) only [go_sem, reduceCtorEq, Nat.reduceLT, Nat.reduceLeDiff, reduceIte, ↓reduceIte, Nat.reduceEqDiff, Nat.reduceAdd, Nat.reduceMul, Nat.reduceSub, Int.reduceLE, Int.reduceLT, Int.reduceNeg, Int.reduceToNat])
  refine VcCall.ro (.ro (.ints .i64 L)) (FnFr.of_ok k1 rfl rfl) (by simp only [noIdR_ok, argOkL, argOk, allOk, argOkN, List.drop_zero, lk, reduceIte, reduceCtorEq, Nat.reduceEqDiff, Option.some.injEq, Item.row.injEq, Item.box.injEq, AV.ro.injEq, exists_eq_left, exists_and_left, exists_eq_left', exists_eq_right, and_assoc, and_true, true_and, List.cons.injEq, exists_eq', exists_eq]) (by simp [outOk, argOkL, allOk, argOk, argOkN, lk, noIdR_ok]) rfl ?_
  (repeat' first | with_reducible (first | refine Asm.intro fun _ => ?_ | refine Chk.g ?_ | refine AnyI.i64 fun _ _ => ?_ | refine LetW.g ?_ | refine LetW.h ?_ | refine Ite.t fun _ => ?_ | refine Ite.f fun _ => ?_ | refine Ite.decide (fun _ => ?_) fun _ => ?_ | refine Ite.bool (fun _ => ?_) fun _ => ?_ | refine And.intro ?_ ?_) | omega | simp (maxSteps := 1000000) only [go_sem, reduceCtorEq, Nat.reduceLT, Nat.reduceLeDiff, reduceIte, ↓reduceIte, Nat.reduceEqDiff, Nat.reduceAdd, Nat.reduceMul, Nat.reduceSub, Int.reduceLE, Int.reduceLT, Int.reduceNeg, Int.reduceToNat])
  refine VcCall.fr (FnFr.of_ok (k2) rfl rfl) (by simp only [noIdR_ok, argOkL, argOk, allOk, argOkN, List.drop_zero, lk, reduceIte, reduceCtorEq, Nat.reduceEqDiff, Option.some.injEq, Item.row.injEq, Item.box.injEq, AV.ro.injEq, exists_eq_left, exists_and_left, exists_eq_left', exists_eq_right, and_assoc, and_true, true_and, List.cons.injEq, exists_eq', exists_eq]) 0 rfl (by simp [rowsB]) ?_
  (repeat' first | with_reducible (first | refine Asm.intro fun _ => ?_ | refine Chk.g ?_ | refine AnyI.i64 fun _ _ => ?_ | refine LetW.g ?_ | refine LetW.h ?_ | refine Ite.t fun _ => ?_ | refine Ite.f fun _ => ?_ | refine Ite.decide (fun _ => ?_) fun _ => ?_ | refine Ite.bool (fun _ => ?_) fun _ => ?_ | refine And.intro ?_ ?_) | omega | simp (maxSteps := 1000000) only [go_sem, reduceCtorEq, Nat.reduceLT, Nat.reduceLeDiff, reduceIte, ↓reduceIte, Nat.reduceEqDiff, Nat.reduceAdd, Nat.reduceMul, Nat.reduceSub, Int.reduceLE, Int.reduceLT, Int.reduceNeg, Int.reduceToNat])
  refine Ret.auto 0 ?_ rfl ?_ <;> simp only [go_sem, reduceCtorEq, reduceIte, Nat.reduceEqDiff, Nat.reduceLT, Nat.reduceLeDiff, Int.natCast_succ, Post]
set_option maxHeartbeats 4000000 in
theorem bounds_ok (p : List Bool) (w : Nat) (b : Nb) (hw : b.w ≤ 4000) (hh : b.h ≤ 4000) {f l f' l' : Nat} (hc : EndsAt (fun i => colN p w b (b.x + i)) b.w f l) (hr : EndsAt (fun i => rowN p w b (b.y + i)) b.h f' l') :
    FnOk Tryd.prog 93 [.agg [.int .i64 b.w, .int .i64 b.h, .ro (.bools (cutP p w b))]] (.tup [.agg [.int .i64 f, .int .i64 f', .int .i64 (l - f + 1 : Nat), .int .i64 (l' - f' + 1 : Nat)], .bool true]) [] := by
  have k1 := colsC_ok p w b hw hh
  have k2 := ends_ok _ b.w f l hc hw
  have k3 := rowsC_ok p w b hw hh
  have k4 := ends_ok _ b.h f' l' hr hh
  have a1 := hc.fl
  have a2 := hc.ln
  have a3 := hr.fl
  have a4 := hr.ln
  generalize natL (fun i => colN p w b (b.x + i)) b.w = L at *
  generalize natL (fun i => rowN p w b (b.y + i)) b.h = L2 at *
  generalize cutP p w b = q at *
  refine FnOk.of_vc Tryd.func93 rfl (by decide) (by simp [Tryd.f93]) [.cell 2 26, .tmp 3] rfl fun w0 T0 _ => ?_
  simp only [Tryd.f93, argEnv]
  (repeat' first | with_reducible (first | refine Asm.intro fun _ => ?_ | refine Chk.g ?_ | refine AnyI.i64 fun _ _ => ?_ | refine LetW.g ?_ | refine LetW.h ?_ | refine Ite.t fun _ => ?_ | refine Ite.f fun _ => ?_ | refine Ite.decide (fun _ => ?_) fun _ => ?_ | refine Ite.bool (fun _ => ?_) fun _ => ?_ | refine And.intro ?_ ?_) | omega | simp (maxSteps := 1000000) only [go_sem, reduceCtorEq, Nat.reduceLT, Nat.reduceLeDiff, reduceIte, ↓reduceIte, Nat.reduceEqDiff, Nat.reduceAdd, Nat.reduceMul, Nat.reduceSub, Int.reduceLE, Int.reduceLT, Int.reduceNeg, Int.reduceToNat])
  refine VcCall.ro (.ro (.ints .i64 L)) (FnFr.of_ok k1 rfl rfl) (by simp only [noIdR_ok, argOkL, argOk, allOk, argOkN, List.drop_zero, lk, reduceIte, reduceCtorEq, Nat.reduceEqDiff, Option.some.injEq, Item.row.injEq, Item.box.injEq, AV.ro.injEq, exists_eq_left, exists_and_left, exists_eq_left', exists_eq_right, and_assoc, and_true, true_and, List.cons.injEq, exists_eq', exists_eq]) (by simp [outOk, argOkL, allOk, argOk, argOkN, lk, noIdR_ok]) rfl ?_
  (repeat' first | with_reducible (first | refine Asm.intro fun _ => ?_ | refine Chk.g ?_ | refine AnyI.i64 fun _ _ => ?_ | refine LetW.g ?_ | refine LetW.h ?_ | refine Ite.t fun _ => ?_ | refine Ite.f fun _ => ?_ | refine Ite.decide (fun _ => ?_) fun _ => ?_ | refine Ite.bool (fun _ => ?_) fun _ => ?_ | refine And.intro ?_ ?_) | omega | simp (maxSteps := 1000000) only [go_sem, reduceCtorEq, Nat.reduceLT, Nat.reduceLeDiff, reduceIte, ↓reduceIte, Nat.reduceEqDiff, Nat.reduceAdd, Nat.reduceMul, Nat.reduceSub, Int.reduceLE, Int.reduceLT, Int.reduceNeg, Int.reduceToNat])
  refine VcCall.fr (FnFr.of_ok (k2) rfl rfl) (by simp only [noIdR_ok, argOkL, argOk, allOk, argOkN, List.drop_zero, lk, reduceIte, reduceCtorEq, Nat.reduceEqDiff, Option.some.injEq, Item.row.injEq, Item.box.injEq, AV.ro.injEq, exists_eq_left, exists_and_left, exists_eq_left', exists_eq_right, and_assoc, and_true, true_and, List.cons.injEq, exists_eq', exists_eq]) 0 rfl (by simp [rowsB]) ?_
  (repeat' first | with_reducible (first | refine Asm.intro fun _ => ?_ | refine Chk.g ?_ | refine AnyI.i64 fun _ _ => ?_ | refine LetW.g ?_ | refine LetW.h ?_ | refine Ite.t fun _ => ?_ | refine Ite.f fun _ => ?_ | refine Ite.decide (fun _ => ?_) fun _ => ?_ | refine Ite.bool (fun _ => ?_) fun _ => ?_ | refine And.intro ?_ ?_) | omega | simp (maxSteps := 1000000) only [go_sem, reduceCtorEq, Nat.reduceLT, Nat.reduceLeDiff, reduceIte, ↓reduceIte, Nat.reduceEqDiff, Nat.reduceAdd, Nat.reduceMul, Nat.reduceSub, Int.reduceLE, Int.reduceLT, Int.reduceNeg, Int.reduceToNat])
  refine VcCall.ro (.ro (.ints .i64 L2)) (FnFr.of_ok k3 rfl rfl) (by simp only [noIdR_ok, argOkL, argOk, allOk, argOkN, List.drop_zero, lk, reduceIte, reduceCtorEq, Nat.reduceEqDiff, Option.some.injEq, Item.row.injEq, Item.box.injEq, AV.ro.injEq, exists_eq_left, exists_and_left, exists_eq_left', exists_eq_right, and_assoc, and_true, true_and, List.cons.injEq, exists_eq', exists_eq]) (by simp [outOk, argOkL, allOk, argOk, argOkN, lk, noIdR_ok]) rfl ?_
  (repeat' first | with_reducible (first | refine Asm.intro fun _ => ?_ | refine Chk.g ?_ | refine AnyI.i64 fun _ _ => ?_ | refine LetW.g ?_ | refine LetW.h ?_ | refine Ite.t fun _ => ?_ | refine Ite.f fun _ => ?_ | refine Ite.decide (fun _ => ?_) fun _ => ?_ | refine Ite.bool (fun _ => ?_) fun _ => ?_ | refine And.intro ?_ ?_) | omega | simp (maxSteps := 1000000) only [go_sem, reduceCtorEq, Nat.reduceLT, Nat.reduceLeDiff, reduceIte, ↓reduceIte, Nat.reduceEqDiff, Nat.reduceAdd, Nat.reduceMul, Nat.reduceSub, Int.reduceLE, Int.reduceLT, Int.reduceNeg, Int.reduceToNat])
  refine VcCall.fr (FnFr.of_ok (k4) rfl rfl) (by simp only [noIdR_ok, argOkL, argOk, allOk, argOkN, List.drop_zero, lk, reduceIte, reduceCtorEq, Nat.reduceEqDiff, Option.some.injEq, Item.row.injEq, Item.box.injEq, AV.ro.injEq, exists_eq_left, exists_and_left, exists_eq_left', exists_eq_right, and_assoc, and_true, true_and, List.cons.injEq, exists_eq', exists_eq]) 0 rfl (by simp [rowsB]) ?_
  (repeat' first | with_reducible (first | refine Asm.intro fun _ => ?_ | refine Chk.g ?_ | refine AnyI.i64 fun _ _ => ?_ | refine LetW.g ?_ | refine LetW.h ?_ | refine Ite.t fun _ => ?_ | refine Ite.f fun _ => ?_ | refine Ite.decide (fun _ => ?_) fun _ => ?_ | refine Ite.bool (fun _ => ?_) fun _ => ?_ | refine And.intro ?_ ?_) | omega | simp (maxSteps := 1000000) only [go_sem, reduceCtorEq, Nat.reduceLT, Nat.reduceLeDiff, reduceIte, ↓reduceIte, Nat.reduceEqDiff, Nat.reduceAdd, Nat.reduceMul, Nat.reduceSub, Int.reduceLE, Int.reduceLT, Int.reduceNeg, Int.reduceToNat])
  refine Ret.auto 0 ?_ rfl ?_ <;> simp only [go_sem, reduceCtorEq, reduceIte, Nat.reduceEqDiff, Nat.reduceLT, Nat.reduceLeDiff, Int.natCast_succ, Post]
  all_goals first | omega | skip
set_option maxHeartbeats 4000000 in
theorem rtightNo_ok (w h : Nat) (hw : w ≤ 4000) (hh : h ≤ 4000) (p : List Bool) (hp : p.length = w * h) (b : Nb) (hX : b.x + b.w ≤ w) (hY : b.y + b.h ≤ h) (hi : inkB p w b = 0) :
    FnOk Tryd.prog 36 [.agg [.int .i64 w, .int .i64 h, .ro (.bools p)], .agg b.av] (.tup [.agg [.int .i64 b.x, .int .i64 b.y, .int .i64 0, .int .i64 0], .bool false]) [] := by
  have k1 := refCut_ok w h hw hh p hp b hX hY
  have k2 := boundsNo_ok p w b (by omega) (by omega) hi
  generalize cutP p w b = q at *
  obtain ⟨x, y, W, H⟩ := b
  unfold Nb.av at *
  dsimp only at *
  refine FnOk.of_vc Tryd.func36 rfl (by decide) (by simp [Tryd.f36]) [.cell 4 26, .tmp 5] rfl fun w0 T0 _ => ?_
  simp only [Tryd.f36, argEnv]
  (repeat' first | with_reducible (first | refine Asm.intro fun _ => ?_ | refine Chk.g ?_ | refine AnyI.i64 fun _ _ => ?_ | refine LetW.g ?_ | refine LetW.h ?_ | refine Ite.t fun _ => ?_ | refine Ite.f fun _ => ?_ | refine Ite.decide (fun _ => ?_) fun _ => ?_ | refine Ite.bool (fun _ => ?_) fun _ => ?_ | refine And.intro ?_ ?_) | omega | simp (maxSteps := 1000000) only [go_sem, reduceCtorEq, Nat.reduceLT, Nat.reduceLeDiff, reduceIte, ↓reduceIte, Nat.reduceEqDiff, Nat.reduceAdd, Nat.reduceMul, Nat.reduceSub, Int.reduceLE, Int.reduceLT, Int.reduceNeg, Int.reduceToNat])
  refine VcCall.ro (.agg [.int .i64 W, .int .i64 H, .ro (.bools q)]) (FnFr.of_ok k1 rfl rfl) (by simp only [noIdR_ok, argOkL, argOk, allOk, argOkN, List.drop_zero, lk, reduceIte, reduceCtorEq, Nat.reduceEqDiff, Option.some.injEq, Item.row.injEq, Item.box.injEq, AV.ro.injEq, exists_eq_left, exists_and_left, exists_eq_left', exists_eq_right, and_assoc, and_true, true_and, List.cons.injEq, exists_eq', exists_eq]) (by simp [outOk, argOkL, allOk, argOk, argOkN, lk, noIdR_ok]) rfl ?_
  (repeat' first | with_reducible (first | refine Asm.intro fun _ => ?_ | refine Chk.g ?_ | refine AnyI.i64 fun _ _ => ?_ | refine LetW.g ?_ | refine LetW.h ?_ | refine Ite.t fun _ => ?_ | refine Ite.f fun _ => ?_ | refine Ite.decide (fun _ => ?_) fun _ => ?_ | refine Ite.bool (fun _ => ?_) fun _ => ?_ | refine And.intro ?_ ?_) | omega | simp (maxSteps := 1000000) only [go_sem, reduceCtorEq, Nat.reduceLT, Nat.reduceLeDiff, reduceIte, ↓reduceIte, Nat.reduceEqDiff, Nat.reduceAdd, Nat.reduceMul, Nat.reduceSub, Int.reduceLE, Int.reduceLT, Int.reduceNeg, Int.reduceToNat])
  refine VcCall.fr (FnFr.of_ok (k2) rfl rfl) (by simp only [noIdR_ok, argOkL, argOk, allOk, argOkN, List.drop_zero, lk, reduceIte, reduceCtorEq, Nat.reduceEqDiff, Option.some.injEq, Item.row.injEq, Item.box.injEq, AV.ro.injEq, exists_eq_left, exists_and_left, exists_eq_left', exists_eq_right, and_assoc, and_true, true_and, List.cons.injEq, exists_eq', exists_eq]) 0 rfl (by simp [rowsB]) ?_
  (repeat' first | with_reducible (first | refine Asm.intro fun _ => ?_ | refine Chk.g ?_ | refine AnyI.i64 fun _ _ => ?_ | refine LetW.g ?_ | refine LetW.h ?_ | refine Ite.t fun _ => ?_ | refine Ite.f fun _ => ?_ | refine Ite.decide (fun _ => ?_) fun _ => ?_ | refine Ite.bool (fun _ => ?_) fun _ => ?_ | refine And.intro ?_ ?_) | omega | simp (maxSteps := 1000000) only [go_sem, reduceCtorEq, Nat.reduceLT, Nat.reduceLeDiff, reduceIte, ↓reduceIte, Nat.reduceEqDiff, Nat.reduceAdd, Nat.reduceMul, Nat.reduceSub, Int.reduceLE, Int.reduceLT, Int.reduceNeg, Int.reduceToNat])
  refine VcDraw.lex [11, 13] [(7, [1]), (8, [1]), (9, [1])] (by kernel_rfl) (by kernel_rfl) ?_
  (repeat' first | with_reducible (first | refine Asm.intro fun _ => ?_ | refine Chk.g ?_ | refine AnyI.i64 fun _ _ => ?_ | refine LetW.g ?_ | refine LetW.h ?_ | refine Ite.t fun _ => ?_ | refine Ite.f fun _ => ?_ | refine Ite.decide (fun _ => ?_) fun _ => ?_ | refine Ite.bool (fun _ => ?_) fun _ => ?_ | refine And.intro ?_ ?_) | omega | simp (maxSteps := 1000000) only [go_sem, reduceCtorEq, Nat.reduceLT, Nat.reduceLeDiff, reduceIte, ↓reduceIte, Nat.reduceEqDiff, Nat.reduceAdd, Nat.reduceMul, Nat.reduceSub, Int.reduceLE, Int.reduceLT, Int.reduceNeg, Int.reduceToNat, Int.zero_add])
  refine Ret.auto 0 ?_ rfl ?_ <;> simp only [go_sem, reduceCtorEq, reduceIte, Nat.reduceEqDiff, Nat.reduceLT, Nat.reduceLeDiff, Int.natCast_succ, Post]
set_option maxHeartbeats 4000000 in
theorem rtight_ok (w h : Nat) (hw : w ≤ 4000) (hh : h ≤ 4000) (p : List Bool) (hp : p.length = w * h) (b : Nb) (hX : b.x + b.w ≤ w) (hY : b.y + b.h ≤ h) (hi : 0 < inkB p w b) :
    FnOk Tryd.prog 36 [.agg [.int .i64 w, .int .i64 h, .ro (.bools p)], .agg b.av] (.tup [.agg (tightB p w b).av, .bool true]) [] := by
  have k1 := refCut_ok w h hw hh p hp b hX hY
  obtain ⟨f, l, hc⟩ := endsAt_ex _ _ (ink_col p w (b := b) (by omega))
  obtain ⟨f', l', hr⟩ := endsAt_ex _ _ (ink_row p w (b := b) (by omega))
  rw [tightB_eq p w hc hr]
  have k2 := bounds_ok p w b (by omega) (by omega) hc hr
  have a1 := hc.fl
  have a2 := hc.ln
  have a3 := hr.fl
  have a4 := hr.ln
  generalize cutP p w b = q at *
  obtain ⟨x, y, W, H⟩ := b
  unfold Nb.av at *
  dsimp only at *
  refine FnOk.of_vc Tryd.func36 rfl (by decide) (by simp [Tryd.f36]) [.cell 4 26, .tmp 5] rfl fun w0 T0 _ => ?_
  simp only [Tryd.f36, argEnv]
  (repeat' first | with_reducible (first | refine Asm.intro fun _ => ?_ | refine Chk.g ?_ | refine AnyI.i64 fun _ _ => ?_ | refine LetW.g ?_ | refine LetW.h ?_ | refine Ite.t fun _ => ?_ | refine Ite.f fun _ => ?_ | refine Ite.decide (fun _ => ?_) fun _ => ?_ | refine Ite.bool (fun _ => ?_) fun _ => ?_ | refine And.intro ?_ ?_) | omega | simp (maxSteps := 1000000) only [go_sem, reduceCtorEq, Nat.reduceLT, Nat.reduceLeDiff, reduceIte, ↓reduceIte, Nat.reduceEqDiff, Nat.reduceAdd, Nat.reduceMul, Nat.reduceSub, Int.reduceLE, Int.reduceLT, Int.reduceNeg, Int.reduceToNat])
  refine VcCall.ro (.agg [.int .i64 W, .int .i64 H, .ro (.bools q)]) (FnFr.of_ok k1 rfl rfl) (by simp only [noIdR_ok, argOkL, argOk, allOk, argOkN, List.drop_zero, lk, reduceIte, reduceCtorEq, Nat.reduceEqDiff, Option.some.injEq, Item.row.injEq, Item.box.injEq, AV.ro.injEq, exists_eq_left, exists_and_left, exists_eq_left', exists_eq_right, and_assoc, and_true, true_and, List.cons.injEq, exists_eq', exists_eq]) (by simp [outOk, argOkL, allOk, argOk, argOkN, lk, noIdR_ok]) rfl ?_
  (repeat' first | with_reducible (first | refine Asm.intro fun _ => ?_ | refine Chk.g ?_ | refine AnyI.i64 fun _ _ => ?_ | refine LetW.g ?_ | refine LetW.h ?_ | refine Ite.t fun _ => ?_ | refine Ite.f fun _ => ?_ | refine Ite.decide (fun _ => ?_) fun _ => ?_ | refine Ite.bool (fun _ => ?_) fun _ => ?_ | refine And.intro ?_ ?_) | omega | simp (maxSteps := 1000000) only [go_sem, reduceCtorEq, Nat.reduceLT, Nat.reduceLeDiff, reduceIte, ↓reduceIte, Nat.reduceEqDiff, Nat.reduceAdd, Nat.reduceMul, Nat.reduceSub, Int.reduceLE, Int.reduceLT, Int.reduceNeg, Int.reduceToNat])
  refine VcCall.fr (FnFr.of_ok (k2) rfl rfl) (by simp only [noIdR_ok, argOkL, argOk, allOk, argOkN, List.drop_zero, lk, reduceIte, reduceCtorEq, Nat.reduceEqDiff, Option.some.injEq, Item.row.injEq, Item.box.injEq, AV.ro.injEq, exists_eq_left, exists_and_left, exists_eq_left', exists_eq_right, and_assoc, and_true, true_and, List.cons.injEq, exists_eq', exists_eq]) 0 rfl (by simp [rowsB]) ?_
  (repeat' first | with_reducible (first | refine Asm.intro fun _ => ?_ | refine Chk.g ?_ | refine AnyI.i64 fun _ _ => ?_ | refine LetW.g ?_ | refine LetW.h ?_ | refine Ite.t fun _ => ?_ | refine Ite.f fun _ => ?_ | refine Ite.decide (fun _ => ?_) fun _ => ?_ | refine Ite.bool (fun _ => ?_) fun _ => ?_ | refine And.intro ?_ ?_) | omega | simp (maxSteps := 1000000) only [go_sem, reduceCtorEq, Nat.reduceLT, Nat.reduceLeDiff, reduceIte, ↓reduceIte, Nat.reduceEqDiff, Nat.reduceAdd, Nat.reduceMul, Nat.reduceSub, Int.reduceLE, Int.reduceLT, Int.reduceNeg, Int.reduceToNat])
  refine VcDraw.lex [11, 13] [(7, [1]), (8, [1]), (9, [1])] (by kernel_rfl) (by kernel_rfl) ?_
  (repeat' first | with_reducible (first | refine Asm.intro fun _ => ?_ | refine Chk.g ?_ | refine AnyI.i64 fun _ _ => ?_ | refine LetW.g ?_ | refine LetW.h ?_ | refine Ite.t fun _ => ?_ | refine Ite.f fun _ => ?_ | refine Ite.decide (fun _ => ?_) fun _ => ?_ | refine Ite.bool (fun _ => ?_) fun _ => ?_ | refine And.intro ?_ ?_) | omega | simp (maxSteps := 1000000) only [go_sem, reduceCtorEq, Nat.reduceLT, Nat.reduceLeDiff, reduceIte, ↓reduceIte, Nat.reduceEqDiff, Nat.reduceAdd, Nat.reduceMul, Nat.reduceSub, Int.reduceLE, Int.reduceLT, Int.reduceNeg, Int.reduceToNat])
  refine Ret.auto 0 ?_ rfl ?_ <;> simp only [go_sem, reduceCtorEq, reduceIte, Nat.reduceEqDiff, Nat.reduceLT, Nat.reduceLeDiff, Int.natCast_succ, Post]
  all_goals first | omega | (constructor <;> omega) | skip
end Go.Fv.P

namespace Go.Fv.P
open Go Go.Proofs
set_option linter.unusedSimpArgs false
set_option linter.unusedVariables false
set_option maxRecDepth 8000
theorem cloneBools_ok (l : List Bool) (hl : l.length ≤ 137438953472) : FnOk Tryd.prog 60 [.ro (.bools l)] (.own 0) [(0, .row 4 (.bools l))] := by
  refine FnOk.of_vc Tryd.func60 rfl (by decide) (by simp [Tryd.f60]) [.tmp 2] rfl fun w0 T0 _ => ?_
  simp only [Tryd.f60, argEnv]
  (repeat' first | with_reducible (first | refine Asm.intro fun _ => ?_ | refine Chk.g ?_ | refine AnyI.i64 fun _ _ => ?_ | refine LetW.g ?_ | refine LetW.h ?_ | refine Ite.t fun _ => ?_ | refine Ite.f fun _ => ?_ | refine Ite.decide (fun _ => ?_) fun _ => ?_ | refine Ite.bool (fun _ => ?_) fun _ => ?_ | refine And.intro ?_ ?_) | omega | simp (maxSteps := 1000000) only [go_sem, reduceCtorEq, Nat.reduceLT, Nat.reduceLeDiff, reduceIte, ↓reduceIte, Nat.reduceEqDiff, Nat.reduceAdd, Nat.reduceMul, Nat.reduceSub, Int.reduceLE, Int.reduceLT, Int.reduceNeg, Int.reduceToNat])
  · rename_i h
    have : l = [] := List.eq_nil_of_length_eq_zero h
    refine Ret.auto 1 ?_ rfl ?_ <;> simp only [go_sem, reduceCtorEq, reduceIte, Nat.reduceEqDiff, Nat.reduceLT, Nat.reduceLeDiff, Int.natCast_succ, Post, this, zrow, List.replicate_zero]
  · refine Ret.auto 1 ?_ rfl ?_ <;> simp only [go_sem, reduceCtorEq, reduceIte, Nat.reduceEqDiff, Nat.reduceLT, Nat.reduceLeDiff, Int.natCast_succ, Post, zrow, List.replicate_zero]
end Go.Fv.P

/-! The reference's stretches: the walk. -/
namespace Go.Fv.P
open Go Go.Proofs
set_option linter.unusedSimpArgs false
set_option linter.unusedVariables false
set_option linter.unnecessarySimpa false
set_option maxRecDepth 8000

def hasL (l : List Int) : List Bool := l.map fun n => decide (0 < n)
set_option maxHeartbeats 2000000 in
theorem has_ok (l : List Int) (hl : l.length ≤ 100000) : FnOk Tryd.prog 38 [.ro (.ints .i64 l)] (.own 0) [(0, .row 4 (.bools (hasL l)))] := by
  refine FnOk.of_vc Tryd.func38 rfl (by decide) (by simp [Tryd.f38]) [.tmp 2] rfl fun w0 T0 _ => ?_
  simp only [Tryd.f38, argEnv]
  (repeat' first | with_reducible (first | refine Asm.intro fun _ => ?_ | refine Chk.g ?_ | refine AnyI.i64 fun _ _ => ?_ | refine LetW.g ?_ | refine LetW.h ?_ | refine Ite.t fun _ => ?_ | refine Ite.f fun _ => ?_ | refine Ite.decide (fun _ => ?_) fun _ => ?_ | refine Ite.bool (fun _ => ?_) fun _ => ?_ | refine And.intro ?_ ?_) | omega | simp (maxSteps := 1000000) only [go_sem, reduceCtorEq, Nat.reduceLT, Nat.reduceLeDiff, reduceIte, ↓reduceIte, Nat.reduceEqDiff, Nat.reduceAdd, Nat.reduceMul, Nat.reduceSub, Int.reduceLE, Int.reduceLT, Int.reduceNeg, Int.reduceToNat])
  refine VcLoop.intro (fun i : Nat => ⟨19, [(8, .int .i64 i), (7, .int .i64 l.length), (6, .ro (.ints .i64 l)), (3, .own 0)], [(0, .row 4 (.bools (hasL (l.take i))))], 1⟩) (fun i => i ≤ l.length) (fun i => l.length - i) 0 ?_ (Nat.zero_le _) fun i hi => ?_
  · refine Ent.auto0 rfl ?_ ?_ <;> simp only [go_sem, reduceCtorEq, reduceIte, Nat.reduceEqDiff, Nat.reduceLT, Nat.reduceLeDiff, Int.natCast_succ, hasL, List.take_zero, List.map_nil]
  by_cases hlt : i < l.length
  · have hs : hasL (l.take (i + 1)) = hasL (l.take i) ++ [decide (0 < l.getD i 0)] := by
      unfold hasL; rw [List.take_add_one, List.getElem?_eq_getElem hlt, List.map_append, getD_lt hlt]; rfl
    have hll : (hasL (l.take i)).length = i := by unfold hasL; rw [List.length_map, List.length_take]; omega
    generalize hasL (l.take i) = L at *
    (repeat' first | with_reducible (first | refine Asm.intro fun _ => ?_ | refine Chk.g ?_ | refine AnyI.i64 fun _ _ => ?_ | refine LetW.g ?_ | refine LetW.h ?_ | refine Ite.t fun _ => ?_ | refine Ite.f fun _ => ?_ | refine Ite.decide (fun _ => ?_) fun _ => ?_ | refine Ite.bool (fun _ => ?_) fun _ => ?_ | refine And.intro ?_ ?_) | omega | simp (maxSteps := 1000000) only [go_sem, reduceCtorEq, Nat.reduceLT, Nat.reduceLeDiff, reduceIte, ↓reduceIte, Nat.reduceEqDiff, Nat.reduceAdd, Nat.reduceMul, Nat.reduceSub, Int.reduceLE, Int.reduceLT, Int.reduceNeg, Int.reduceToNat])
    refine ⟨i + 1, Ent.auto0 rfl ?_ ?_, by omega, by omega⟩ <;> simp only [go_sem, reduceCtorEq, reduceIte, Nat.reduceEqDiff, Nat.reduceLT, Nat.reduceLeDiff, Int.natCast_succ, hs]
  · have e : i = l.length := by omega
    subst e
    rw [List.take_length]
    (repeat' first | with_reducible (first | refine Asm.intro fun _ => ?_ | refine Chk.g ?_ | refine AnyI.i64 fun _ _ => ?_ | refine LetW.g ?_ | refine LetW.h ?_ | refine Ite.t fun _ => ?_ | refine Ite.f fun _ => ?_ | refine Ite.decide (fun _ => ?_) fun _ => ?_ | refine Ite.bool (fun _ => ?_) fun _ => ?_ | refine And.intro ?_ ?_) | omega | simp (maxSteps := 1000000) only [go_sem, reduceCtorEq, Nat.reduceLT, Nat.reduceLeDiff, reduceIte, ↓reduceIte, Nat.reduceEqDiff, Nat.reduceAdd, Nat.reduceMul, Nat.reduceSub, Int.reduceLE, Int.reduceLT, Int.reduceNeg, Int.reduceToNat])
    refine Ret.auto 1 ?_ rfl ?_ <;> simp only [go_sem, reduceCtorEq, reduceIte, Nat.reduceEqDiff, Nat.reduceLT, Nat.reduceLeDiff, Int.natCast_succ, Post]
theorem hasL_natL (g : Nat → Nat) (n : Nat) : hasL (natL g n) = (List.range n).map fun i => !decide (g i = 0) := by
  unfold hasL natL
  rw [List.map_map]
  refine List.map_congr_left fun i _ => ?_
  show decide (0 < ((g i : Nat) : Int)) = !decide (g i = 0)
  by_cases h : g i = 0
  · rw [h]; rfl
  · rw [decide_eq_true (by omega), decide_eq_false h]; rfl
theorem wide_bd2 {least : Nat} {b s : Nat × Nat} {n : Nat} (h1 : b.1 ≤ n ∧ b.2 ≤ n) (h2 : s.1 ≤ n ∧ s.2 ≤ n) : (wide least b s).1 ≤ n ∧ (wide least b s).2 ≤ n := by
  unfold wide; split <;> assumption
set_option maxHeartbeats 4000000 in
theorem rstretch_ok (is : Nat → Bool) (n least : Nat) (hn : n ≤ 4000) : FnOk Tryd.prog 95 [.ro (.bools ((List.range n).map fun i => !is i)), .int .i64 least] (.tup [.int .i64 (stGo is least n 0 0 (0, 0)).1, .int .i64 (stGo is least n 0 0 (0, 0)).2]) [] := by
  have hlen : ((List.range n).map fun i => !is i).length = n := by simp
  have k := cloneBools_ok ((List.range n).map fun i => !is i) (by rw [hlen]; omega)
  have hg : ∀ i, i < n → (((List.range n).map fun i => !is i) ++ [true]).getD i false = !is i := fun i hi => by
    rw [List.getD_eq_getElem?_getD, List.getElem?_append_left (by rw [hlen]; exact hi), List.getElem?_map, List.getElem?_range hi]; rfl
  have hgn : (((List.range n).map fun i => !is i) ++ [true]).getD n false = true := by
    rw [List.getD_eq_getElem?_getD, List.getElem?_append_right (by rw [hlen]; exact Nat.le_refl _), hlen]; simp
  generalize (List.range n).map (fun i => !is i) = l at *
  refine FnOk.of_vc Tryd.func95 rfl (by decide) (by simp [Tryd.f95]) [.tmp 4, .tmp 5] rfl fun w0 T0 _ => ?_
  simp only [Tryd.f95, argEnv]
  (repeat' first | with_reducible (first | refine Asm.intro fun _ => ?_ | refine Chk.g ?_ | refine AnyI.i64 fun _ _ => ?_ | refine LetW.g ?_ | refine LetW.h ?_ | refine Ite.t fun _ => ?_ | refine Ite.f fun _ => ?_ | refine Ite.decide (fun _ => ?_) fun _ => ?_ | refine Ite.bool (fun _ => ?_) fun _ => ?_ | refine And.intro ?_ ?_) | omega | simp (maxSteps := 1000000) only [go_sem, reduceCtorEq, Nat.reduceLT, Nat.reduceLeDiff, reduceIte, ↓reduceIte, Nat.reduceEqDiff, Nat.reduceAdd, Nat.reduceMul, Nat.reduceSub, Int.reduceLE, Int.reduceLT, Int.reduceNeg, Int.reduceToNat])
  refine VcCall.fr (FnFr.of_ok k rfl rfl) (by simp only [noIdR_ok, argOkL, argOk, allOk, argOkN, List.drop_zero, lk, reduceIte, reduceCtorEq, Nat.reduceEqDiff, Option.some.injEq, Item.row.injEq, Item.box.injEq, AV.ro.injEq, exists_eq_left, exists_and_left, exists_eq_left', exists_eq_right, and_assoc, and_true, true_and, List.cons.injEq, exists_eq', exists_eq]) 1 rfl (by simp [rowsB, Item.below, Fv.below, belowR]) ?_
  (repeat' first | with_reducible (first | refine Asm.intro fun _ => ?_ | refine Chk.g ?_ | refine AnyI.i64 fun _ _ => ?_ | refine LetW.g ?_ | refine LetW.h ?_ | refine Ite.t fun _ => ?_ | refine Ite.f fun _ => ?_ | refine Ite.decide (fun _ => ?_) fun _ => ?_ | refine Ite.bool (fun _ => ?_) fun _ => ?_ | refine And.intro ?_ ?_) | omega | simp (maxSteps := 1000000) only [go_sem, reduceCtorEq, Nat.reduceLT, Nat.reduceLeDiff, reduceIte, ↓reduceIte, Nat.reduceEqDiff, Nat.reduceAdd, Nat.reduceMul, Nat.reduceSub, Int.reduceLE, Int.reduceLT, Int.reduceNeg, Int.reduceToNat])
  have hlen2 : (l ++ [true]).length = n + 1 := by rw [List.length_append, hlen]; rfl
  refine VcLoop.intro (fun x : Nat × Nat × Nat × Nat => ⟨38, [(14, .int .i64 x.1), (13, .int .i64 (n + 1 : Nat)), (12, .own 0), (1, .int .i64 least), (6, .int .i64 x.2.1), (4, .int .i64 x.2.2.1), (5, .int .i64 x.2.2.2)], [(0, .row 4 (.bools (l ++ [true])))], 1⟩)
    (fun x => x.1 ≤ n + 1 ∧ x.2.1 ≤ x.1 ∧ (x.2.2.1 ≤ 5000 ∧ x.2.2.2 ≤ 5000) ∧ (x.1 ≤ n → stGo is least (n - x.1) x.1 x.2.1 x.2.2 = stGo is least n 0 0 (0, 0)) ∧ (x.1 = n + 1 → x.2.2 = stGo is least n 0 0 (0, 0))) (fun x => n + 1 - x.1) (0, 0, 0, 0) ?_ ⟨Nat.zero_le _, Nat.le_refl _, ⟨Nat.zero_le _, Nat.zero_le _⟩, fun _ => rfl, fun h => by dsimp only at h; omega⟩ fun x hx => ?_
  · refine Ent.auto0 rfl ?_ ?_ <;> simp only [go_sem, reduceCtorEq, reduceIte, Nat.reduceEqDiff, Nat.reduceLT, Nat.reduceLeDiff, Int.natCast_succ, hlen]
  obtain ⟨i, c, b1, b2⟩ := x
  obtain ⟨h1, h2, h3, h4, h5⟩ := hx
  dsimp only at h1 h2 h3 h4 h5 ⊢
  generalize stGo is least n 0 0 (0, 0) = R at *
  generalize l ++ [true] = l' at *
  have hbd : ∀ s : Nat × Nat, s.1 ≤ 5000 ∧ s.2 ≤ 5000 → (wide least (b1, b2) s).1 ≤ 5000 ∧ (wide least (b1, b2) s).2 ≤ 5000 := fun s hs => wide_bd2 h3 hs
  by_cases hi : i < n
  · have e := hg i hi
    have hst := h4 (by omega)
    rw [show n - i = (n - (i + 1)) + 1 by omega, stGo] at hst
    cases hb : is i with
    | true =>
      rw [hb] at e
      rw [if_pos hb] at hst
      (repeat' first | with_reducible (first | refine Asm.intro fun _ => ?_ | refine Chk.g ?_ | refine AnyI.i64 fun _ _ => ?_ | refine LetW.g ?_ | refine LetW.h ?_ | refine Ite.t fun _ => ?_ | refine Ite.f fun _ => ?_ | refine Ite.decide (fun _ => ?_) fun _ => ?_ | refine Ite.bool (fun _ => ?_) fun _ => ?_ | refine And.intro ?_ ?_) | omega | simp (maxSteps := 1000000) only [go_sem, reduceCtorEq, Nat.reduceLT, Nat.reduceLeDiff, reduceIte, ↓reduceIte, Nat.reduceEqDiff, Nat.reduceAdd, Nat.reduceMul, Nat.reduceSub, Int.reduceLE, Int.reduceLT, Int.reduceNeg, Int.reduceToNat, e, Bool.not_true])
      refine ⟨(i + 1, c + 1, b1, b2), Ent.auto0 rfl ?_ ?_, ⟨by dsimp only; omega, by dsimp only; omega, h3, fun _ => hst, fun hh => by dsimp only at hh; omega⟩, by dsimp only; omega⟩ <;> simp only [go_sem, reduceCtorEq, reduceIte, Nat.reduceEqDiff, Nat.reduceLT, Nat.reduceLeDiff, Int.natCast_succ]
    | false =>
      rw [hb] at e
      rw [if_neg (by rw [hb]; decide)] at hst
      have hw := hbd (i - c, c) ⟨by dsimp only; omega, by dsimp only; omega⟩
      have ew : wide least (b1, b2) (i - c, c) = if least ≤ c ∧ b2 < c then (i - c, c) else (b1, b2) := rfl
      rw [ew] at hst hw
      (repeat' first | with_reducible (first | refine Asm.intro fun _ => ?_ | refine Chk.g ?_ | refine AnyI.i64 fun _ _ => ?_ | refine LetW.g ?_ | refine LetW.h ?_ | refine Ite.t fun _ => ?_ | refine Ite.f fun _ => ?_ | refine Ite.decide (fun _ => ?_) fun _ => ?_ | refine Ite.bool (fun _ => ?_) fun _ => ?_ | refine And.intro ?_ ?_) | omega | simp (maxSteps := 1000000) only [go_sem, reduceCtorEq, Nat.reduceLT, Nat.reduceLeDiff, reduceIte, ↓reduceIte, Nat.reduceEqDiff, Nat.reduceAdd, Nat.reduceMul, Nat.reduceSub, Int.reduceLE, Int.reduceLT, Int.reduceNeg, Int.reduceToNat, e, Bool.not_false])
      · rw [if_pos (by omega)] at hst hw
        refine ⟨(i + 1, 0, i - c, c), Ent.auto0 rfl ?_ ?_, ⟨by dsimp only; omega, by dsimp only; omega, hw, fun _ => hst, fun hh => by dsimp only at hh; omega⟩, by dsimp only; omega⟩ <;> simp only [go_sem, reduceCtorEq, reduceIte, Nat.reduceEqDiff, Nat.reduceLT, Nat.reduceLeDiff, Int.natCast_succ]
        omega
      · rw [if_neg (by omega)] at hst hw
        refine ⟨(i + 1, 0, b1, b2), Ent.auto0 rfl ?_ ?_, ⟨by dsimp only; omega, by dsimp only; omega, h3, fun _ => hst, fun hh => by dsimp only at hh; omega⟩, by dsimp only; omega⟩ <;> simp only [go_sem, reduceCtorEq, reduceIte, Nat.reduceEqDiff, Nat.reduceLT, Nat.reduceLeDiff, Int.natCast_succ]
  · by_cases hin : i = n
    · subst hin
      have hst := h4 (Nat.le_refl _)
      rw [Nat.sub_self, stGo] at hst
      have hw := hbd (i - c, c) ⟨by dsimp only; omega, by dsimp only; omega⟩
      have ew : wide least (b1, b2) (i - c, c) = if least ≤ c ∧ b2 < c then (i - c, c) else (b1, b2) := rfl
      rw [ew] at hst hw
      (repeat' first | with_reducible (first | refine Asm.intro fun _ => ?_ | refine Chk.g ?_ | refine AnyI.i64 fun _ _ => ?_ | refine LetW.g ?_ | refine LetW.h ?_ | refine Ite.t fun _ => ?_ | refine Ite.f fun _ => ?_ | refine Ite.decide (fun _ => ?_) fun _ => ?_ | refine Ite.bool (fun _ => ?_) fun _ => ?_ | refine And.intro ?_ ?_) | omega | simp (maxSteps := 1000000) only [go_sem, reduceCtorEq, Nat.reduceLT, Nat.reduceLeDiff, reduceIte, ↓reduceIte, Nat.reduceEqDiff, Nat.reduceAdd, Nat.reduceMul, Nat.reduceSub, Int.reduceLE, Int.reduceLT, Int.reduceNeg, Int.reduceToNat, hgn])
      · rw [if_pos (by omega)] at hst hw
        refine ⟨(i + 1, 0, i - c, c), Ent.auto0 rfl ?_ ?_, ⟨by dsimp only; omega, by dsimp only; omega, hw, fun hh => by dsimp only at hh; omega, fun _ => hst⟩, by dsimp only; omega⟩ <;> simp only [go_sem, reduceCtorEq, reduceIte, Nat.reduceEqDiff, Nat.reduceLT, Nat.reduceLeDiff, Int.natCast_succ]
        omega
      · rw [if_neg (by omega)] at hst hw
        refine ⟨(i + 1, 0, b1, b2), Ent.auto0 rfl ?_ ?_, ⟨by dsimp only; omega, by dsimp only; omega, h3, fun hh => by dsimp only at hh; omega, fun _ => hst⟩, by dsimp only; omega⟩ <;> simp only [go_sem, reduceCtorEq, reduceIte, Nat.reduceEqDiff, Nat.reduceLT, Nat.reduceLeDiff, Int.natCast_succ]
    · have e : i = n + 1 := by omega
      subst e
      have hst := h5 rfl
      subst hst
      (repeat' first | with_reducible (first | refine Asm.intro fun _ => ?_ | refine Chk.g ?_ | refine AnyI.i64 fun _ _ => ?_ | refine LetW.g ?_ | refine LetW.h ?_ | refine Ite.t fun _ => ?_ | refine Ite.f fun _ => ?_ | refine Ite.decide (fun _ => ?_) fun _ => ?_ | refine Ite.bool (fun _ => ?_) fun _ => ?_ | refine And.intro ?_ ?_) | omega | simp (maxSteps := 1000000) only [go_sem, reduceCtorEq, Nat.reduceLT, Nat.reduceLeDiff, reduceIte, ↓reduceIte, Nat.reduceEqDiff, Nat.reduceAdd, Nat.reduceMul, Nat.reduceSub, Int.reduceLE, Int.reduceLT, Int.reduceNeg, Int.reduceToNat])
      refine Ret.auto 0 ?_ rfl ?_ <;> simp only [go_sem, reduceCtorEq, reduceIte, Nat.reduceEqDiff, Nat.reduceLT, Nat.reduceLeDiff, Int.natCast_succ, Post]
/-- Where a box is to be divided. -/
def cutRes (c r : Nat × Nat) (gx gy : Nat) : Nat × Nat × Nat := if c.2 = 0 ∧ r.2 = 0 then (0, 0, 0) else if r.2 = 0 ∨ (0 < c.2 ∧ r.2 * gx < c.2 * gy) then (1, c.1, c.2) else (2, r.1, r.2)
theorem mul_bdR {a b : Nat} (ha : a ≤ 10000) (hb : b ≤ 4000) : 0 ≤ (a : Int) * b ∧ (a : Int) * b ≤ 40000000 := by
  have : a * b ≤ 10000 * 4000 := Nat.mul_le_mul ha hb
  rw [← Int.natCast_mul]
  omega
set_option maxHeartbeats 4000000 in
theorem cutAt_ok (A B : List Bool) (c r : Nat × Nat) (gx gy : Nat) (hgx : gx ≤ 4000) (hgy : gy ≤ 4000) (hc : c.2 ≤ 10000) (hr : r.2 ≤ 10000)
    (k1 : FnOk Tryd.prog 95 [.ro (.bools A), .int .i64 gx] (.tup [.int .i64 c.1, .int .i64 c.2]) []) (k2 : FnOk Tryd.prog 95 [.ro (.bools B), .int .i64 gy] (.tup [.int .i64 r.1, .int .i64 r.2]) []) :
    FnOk Tryd.prog 39 [.ro (.bools A), .ro (.bools B), .int .i64 gx, .int .i64 gy] (.tup [.int .i64 (cutRes c r gx gy).1, .int .i64 (cutRes c r gx gy).2.1, .int .i64 (cutRes c r gx gy).2.2]) [] := by
  obtain ⟨c1, c2⟩ := c
  obtain ⟨r1, r2⟩ := r
  dsimp only at *
  have m1 := mul_bdR hc hgy
  have m2 := mul_bdR hr hgx
  have e1 := Int.natCast_mul c2 gy
  have e2 := Int.natCast_mul r2 gx
  unfold cutRes
  dsimp only
  refine FnOk.of_vc Tryd.func39 rfl (by decide) (by simp [Tryd.f39]) [.tmp 8, .tmp 9, .tmp 10] rfl fun w0 T0 _ => ?_
  simp only [Tryd.f39, argEnv]
  (repeat' first | with_reducible (first | refine Asm.intro fun _ => ?_ | refine Chk.g ?_ | refine AnyI.i64 fun _ _ => ?_ | refine LetW.g ?_ | refine LetW.h ?_ | refine Ite.t fun _ => ?_ | refine Ite.f fun _ => ?_ | refine Ite.decide (fun _ => ?_) fun _ => ?_ | refine Ite.bool (fun _ => ?_) fun _ => ?_ | refine And.intro ?_ ?_) | omega | simp (maxSteps := 1000000) only [go_sem, reduceCtorEq, Nat.reduceLT, Nat.reduceLeDiff, reduceIte, ↓reduceIte, Nat.reduceEqDiff, Nat.reduceAdd, Nat.reduceMul, Nat.reduceSub, Int.reduceLE, Int.reduceLT, Int.reduceNeg, Int.reduceToNat])
  refine VcCall.fr (FnFr.of_ok (k1) rfl rfl) (by simp only [noIdR_ok, argOkL, argOk, allOk, argOkN, List.drop_zero, lk, reduceIte, reduceCtorEq, Nat.reduceEqDiff, Option.some.injEq, Item.row.injEq, Item.box.injEq, AV.ro.injEq, exists_eq_left, exists_and_left, exists_eq_left', exists_eq_right, and_assoc, and_true, true_and, List.cons.injEq, exists_eq', exists_eq]) 0 rfl (by simp [rowsB]) ?_
  (repeat' first | with_reducible (first | refine Asm.intro fun _ => ?_ | refine Chk.g ?_ | refine AnyI.i64 fun _ _ => ?_ | refine LetW.g ?_ | refine LetW.h ?_ | refine Ite.t fun _ => ?_ | refine Ite.f fun _ => ?_ | refine Ite.decide (fun _ => ?_) fun _ => ?_ | refine Ite.bool (fun _ => ?_) fun _ => ?_ | refine And.intro ?_ ?_) | omega | simp (maxSteps := 1000000) only [go_sem, reduceCtorEq, Nat.reduceLT, Nat.reduceLeDiff, reduceIte, ↓reduceIte, Nat.reduceEqDiff, Nat.reduceAdd, Nat.reduceMul, Nat.reduceSub, Int.reduceLE, Int.reduceLT, Int.reduceNeg, Int.reduceToNat])
  refine VcCall.fr (FnFr.of_ok (k2) rfl rfl) (by simp only [noIdR_ok, argOkL, argOk, allOk, argOkN, List.drop_zero, lk, reduceIte, reduceCtorEq, Nat.reduceEqDiff, Option.some.injEq, Item.row.injEq, Item.box.injEq, AV.ro.injEq, exists_eq_left, exists_and_left, exists_eq_left', exists_eq_right, and_assoc, and_true, true_and, List.cons.injEq, exists_eq', exists_eq]) 0 rfl (by simp [rowsB]) ?_
  (repeat' first | with_reducible (first | refine Asm.intro fun _ => ?_ | refine Chk.g ?_ | refine AnyI.i64 fun _ _ => ?_ | refine LetW.g ?_ | refine LetW.h ?_ | refine Ite.t fun _ => ?_ | refine Ite.f fun _ => ?_ | refine Ite.decide (fun _ => ?_) fun _ => ?_ | refine Ite.bool (fun _ => ?_) fun _ => ?_ | refine And.intro ?_ ?_) | omega | simp (maxSteps := 1000000) only [go_sem, reduceCtorEq, Nat.reduceLT, Nat.reduceLeDiff, reduceIte, ↓reduceIte, Nat.reduceEqDiff, Nat.reduceAdd, Nat.reduceMul, Nat.reduceSub, Int.reduceLE, Int.reduceLT, Int.reduceNeg, Int.reduceToNat])
  · rename_i h0
    rw [if_pos (show c2 = 0 ∧ r2 = 0 by omega)]
    refine Ret.auto 0 ?_ rfl ?_ <;> simp only [go_sem, reduceCtorEq, reduceIte, Nat.reduceEqDiff, Nat.reduceLT, Nat.reduceLeDiff, Int.natCast_succ, Post]
    all_goals rfl
  · rename_i h0 h1
    rw [if_neg (show ¬ (c2 = 0 ∧ r2 = 0) by omega), if_pos (show r2 = 0 ∨ (0 < c2 ∧ r2 * gx < c2 * gy) by rw [Int.natCast_mul c2 gy |>.symm, Int.natCast_mul r2 gx |>.symm] at h1; omega)]
    refine Ret.auto 0 ?_ rfl ?_ <;> simp only [go_sem, reduceCtorEq, reduceIte, Nat.reduceEqDiff, Nat.reduceLT, Nat.reduceLeDiff, Int.natCast_succ, Post]
    all_goals rfl
  · rename_i h0 h1
    rw [if_neg (show ¬ (c2 = 0 ∧ r2 = 0) by omega), if_neg (show ¬ (r2 = 0 ∨ (0 < c2 ∧ r2 * gx < c2 * gy)) by rw [Int.natCast_mul c2 gy |>.symm, Int.natCast_mul r2 gx |>.symm] at h1; omega)]
    refine Ret.auto 0 ?_ rfl ?_ <;> simp only [go_sem, reduceCtorEq, reduceIte, Nat.reduceEqDiff, Nat.reduceLT, Nat.reduceLeDiff, Int.natCast_succ, Post]
    all_goals rfl
end Go.Fv.P
