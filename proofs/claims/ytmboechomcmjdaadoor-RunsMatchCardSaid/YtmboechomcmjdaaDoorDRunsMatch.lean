/-
  A part of the proof of the claim: walks over the program's functions and the plain laws that these need. No condition of its own.
-/
import Derived.Test.YtmboechomcmjdaaDoorDRunsLaw
import Derived.Test.YtmboechomcmjdaaDoorDTrim
import Derived.Test.YtmboechomcmjdaaDoorDEqual
namespace Go.Fv.D
open Go Go.Proofs
set_option linter.unusedSimpArgs false
set_option linter.unusedVariables false
set_option maxRecDepth 8000

set_option maxHeartbeats 2000000 in
theorem runsMatch_ok (row : List Bool) (l : List Int) (w : Int) : FnOk Tryd.prog 3 [.ro (.bools row), .ro (.ints .i64 l), .int .i64 w] (.bool true) [] := by
  refine FnOk.of_vc Tryd.func3 rfl (by decide) (by simp [Tryd.f3]) [.tmp 6] rfl fun w0 T0 => ?_
  simp only [Tryd.f3, argEnv]
  simp only [go_sem, reduceCtorEq, Nat.reduceLT, Nat.reduceLeDiff, reduceIte, ↓reduceIte, Nat.reduceEqDiff, Nat.reduceAdd, Nat.reduceMul, Nat.reduceSub, Int.reduceLE, Int.reduceLT, Int.reduceNeg, Int.reduceToNat]
  refine VcCall.fr (args' := []) (FnFr.of_ok landed_ok rfl rfl) rfl 0 rfl (by simp [rowsB]) ?_
  simp only [go_sem, reduceCtorEq, Nat.reduceLT, Nat.reduceLeDiff, reduceIte, ↓reduceIte, Nat.reduceEqDiff, Nat.reduceAdd, Nat.reduceMul, Nat.reduceSub, Int.reduceLE, Int.reduceLT, Int.reduceNeg, Int.reduceToNat]
  have hc := sruns_ok row
  by_cases h4 : 4000 < (row.length : Int)
  · have e : runsSpec row = ([], 4) := if_pos h4
    rw [e] at hc
    refine VcCall.fr (args' := [.ro (.bools row)]) (FnFr.of_ok hc rfl rfl) (by simp [argOkL, argOk]) 1 rfl (by simp [rowsB, Item.below]) ?_
    simp only [go_sem, reduceCtorEq, Nat.reduceLT, Nat.reduceLeDiff, reduceIte, ↓reduceIte, Nat.reduceEqDiff, Nat.reduceAdd, Nat.reduceMul, Nat.reduceSub, Int.reduceLE, Int.reduceLT, Int.reduceNeg, Int.reduceToNat]
    (repeat' first | (with_reducible refine Asm.intro fun _ => ?_) | ((with_reducible refine Chk.intro ?_ ?_); (· first | omega | (simp; done) | (simp; omega))) | ((with_reducible refine LetW.i64 ?_ ?_ ?_); (· omega); (· omega)) | ((with_reducible refine Ite.decide (fun _ => ?_) (fun _ => ?_)) <;> first | (exfalso; omega) | simp only [go_sem, reduceCtorEq, Nat.reduceLT, Nat.reduceLeDiff, reduceIte, ↓reduceIte, Nat.reduceEqDiff, Nat.reduceAdd, Nat.reduceMul, Nat.reduceSub, Int.reduceLE, Int.reduceLT, Int.reduceNeg, Int.reduceToNat]) | ((with_reducible refine Ite.bool (fun _ => ?_) (fun _ => ?_)) <;> simp only [go_sem, reduceCtorEq, Nat.reduceLT, Nat.reduceLeDiff, reduceIte, ↓reduceIte, Nat.reduceEqDiff, Nat.reduceAdd, Nat.reduceMul, Nat.reduceSub, Int.reduceLE, Int.reduceLT, Int.reduceNeg, Int.reduceToNat]) | (with_reducible refine And.intro ?_ ?_))
    refine VcCall.fr (args' := [.ro (.ints .i64 l), .int .i64 w]) (FnFr.of_ok (fromRuns_ok l w) rfl rfl) (by simp [argOkL, argOk]) 1 rfl (by simp [rowsB, Item.below]) ?_
    simp only [go_sem, reduceCtorEq, Nat.reduceLT, Nat.reduceLeDiff, reduceIte, ↓reduceIte, Nat.reduceEqDiff, Nat.reduceAdd, Nat.reduceMul, Nat.reduceSub, Int.reduceLE, Int.reduceLT, Int.reduceNeg, Int.reduceToNat]
    refine VcCall.fr (args' := [.ro (.ints .i64 l), .int .i64 w]) (FnFr.of_ok (rfromRuns_ok l w) rfl rfl) (by simp [argOkL, argOk]) 1 rfl (by simp [rowsB, Item.below]) ?_
    simp only [go_sem, reduceCtorEq, Nat.reduceLT, Nat.reduceLeDiff, reduceIte, ↓reduceIte, Nat.reduceEqDiff, Nat.reduceAdd, Nat.reduceMul, Nat.reduceSub, Int.reduceLE, Int.reduceLT, Int.reduceNeg, Int.reduceToNat]
    refine VcCall.fr (args' := [.ro (.bools (frSpec l w).1), .ro (.bools (frSpec l w).1)]) (FnFr.of_ok (equalBools_ok _ _) rfl rfl) ?_ 0 rfl (by simp [rowsB]) ?_
    · first | rfl | simp only [argOkL, argOk, cellOkL, cellOk, lk, reduceIte, reduceCtorEq, Nat.reduceEqDiff, Option.some.injEq, Item.row.injEq, Item.box.injEq, AV.ro.injEq, exists_eq_left, exists_and_left, exists_eq_left', exists_eq_right, and_assoc, and_true, true_and, List.cons.injEq, exists_eq', exists_eq]
    simp only [go_sem, reduceCtorEq, Nat.reduceLT, Nat.reduceLeDiff, reduceIte, ↓reduceIte, Nat.reduceEqDiff, Nat.reduceAdd, Nat.reduceMul, Nat.reduceSub, Int.reduceLE, Int.reduceLT, Int.reduceNeg, Int.reduceToNat]
    refine Ret.auto 0 ?_ rfl ?_ <;> simp only [rep_bools, rep_ints, renL_bools, renL_ints, belowL_bools, belowL_ints, mkL_bools, mkL_ints, set_bools, set_ints, rets, rets1, retV, mkRet, tupOf, S.ev, List.map_cons, List.map_nil, envOk, subOk, mkRen, mkEnv, mkRows, mkItem, mkV, mkL, pm, S.get, lk, ren, renL, Fv.below, Fv.belowL, Item.ren, Item.below, List.append_nil, List.nil_append, List.cons_append, and_true, true_and, and_self, eq_self, reduceIte, reduceCtorEq, Nat.reduceEqDiff, Nat.reduceLT, Nat.reduceLeDiff, AV.own.injEq, AV.int.injEq, AV.bool.injEq, AV.str.injEq, AV.ro.injEq, AV.agg.injEq, AV.tup.injEq, List.cons.injEq, Option.some.injEq, Item.row.injEq, Item.box.injEq, RowV.ints.injEq, RowV.bools.injEq, RowV.strs.injEq, RowV.objs.injEq, List.not_mem_nil, false_implies, implies_true, List.mem_cons, forall_eq_or_imp, forall_eq, or_false, Nat.succ_ne_self, ne_eq, not_false_eq_true, or_true, true_or, Bool.and_self, Bool.and_true, decide_true, decide_eq_true_eq, Int.natCast_zero, decide_false, Post]
  · have e : runsSpec row = ((runsAt row row.length).1, 0) := if_neg h4
    rw [e] at hc
    have hf := fromRuns_ok (runsAt row row.length).1 row.length
    rw [runs_back row (by omega)] at hf
    refine VcCall.fr (args' := [.ro (.bools row)]) (FnFr.of_ok hc rfl rfl) (by simp [argOkL, argOk]) 1 rfl (by simp [rowsB, Item.below]) ?_
    simp only [go_sem, reduceCtorEq, Nat.reduceLT, Nat.reduceLeDiff, reduceIte, ↓reduceIte, Nat.reduceEqDiff, Nat.reduceAdd, Nat.reduceMul, Nat.reduceSub, Int.reduceLE, Int.reduceLT, Int.reduceNeg, Int.reduceToNat]
    (repeat' first | (with_reducible refine Asm.intro fun _ => ?_) | ((with_reducible refine Chk.intro ?_ ?_); (· first | omega | (simp; done) | (simp; omega))) | ((with_reducible refine LetW.i64 ?_ ?_ ?_); (· omega); (· omega)) | ((with_reducible refine Ite.decide (fun _ => ?_) (fun _ => ?_)) <;> first | (exfalso; omega) | simp only [go_sem, reduceCtorEq, Nat.reduceLT, Nat.reduceLeDiff, reduceIte, ↓reduceIte, Nat.reduceEqDiff, Nat.reduceAdd, Nat.reduceMul, Nat.reduceSub, Int.reduceLE, Int.reduceLT, Int.reduceNeg, Int.reduceToNat]) | ((with_reducible refine Ite.bool (fun _ => ?_) (fun _ => ?_)) <;> simp only [go_sem, reduceCtorEq, Nat.reduceLT, Nat.reduceLeDiff, reduceIte, ↓reduceIte, Nat.reduceEqDiff, Nat.reduceAdd, Nat.reduceMul, Nat.reduceSub, Int.reduceLE, Int.reduceLT, Int.reduceNeg, Int.reduceToNat]) | (with_reducible refine And.intro ?_ ?_))
    refine VcCall.fr (args' := [.ro (.ints .i64 (runsAt row row.length).1), .int .i64 row.length]) (FnFr.of_ok hf rfl rfl) ?_ 1 rfl (by simp [rowsB, Item.below]) ?_
    · first | rfl | simp only [argOkL, argOk, cellOkL, cellOk, lk, reduceIte, reduceCtorEq, Nat.reduceEqDiff, Option.some.injEq, Item.row.injEq, Item.box.injEq, AV.ro.injEq, exists_eq_left, exists_and_left, exists_eq_left', exists_eq_right, and_assoc, and_true, true_and, List.cons.injEq, exists_eq', exists_eq]
    simp only [go_sem, reduceCtorEq, Nat.reduceLT, Nat.reduceLeDiff, reduceIte, ↓reduceIte, Nat.reduceEqDiff, Nat.reduceAdd, Nat.reduceMul, Nat.reduceSub, Int.reduceLE, Int.reduceLT, Int.reduceNeg, Int.reduceToNat]
    refine VcCall.fr (args' := [.ro (.bools row)]) (FnFr.of_ok (rruns_ok row (by omega)) rfl rfl) (by simp [argOkL, argOk]) 1 rfl (by simp [rowsB, Item.below]) ?_
    simp only [go_sem, reduceCtorEq, Nat.reduceLT, Nat.reduceLeDiff, reduceIte, ↓reduceIte, Nat.reduceEqDiff, Nat.reduceAdd, Nat.reduceMul, Nat.reduceSub, Int.reduceLE, Int.reduceLT, Int.reduceNeg, Int.reduceToNat]
    refine VcCall.fr (args' := [.ro (.ints .i64 (runsAt row row.length).1), .ro (.ints .i64 (runsAt row row.length).1)]) (FnFr.of_ok (equalInts_ok _ _) rfl rfl) ?_ 0 rfl (by simp [rowsB]) ?_
    · first | rfl | simp only [argOkL, argOk, cellOkL, cellOk, lk, reduceIte, reduceCtorEq, Nat.reduceEqDiff, Option.some.injEq, Item.row.injEq, Item.box.injEq, AV.ro.injEq, exists_eq_left, exists_and_left, exists_eq_left', exists_eq_right, and_assoc, and_true, true_and, List.cons.injEq, exists_eq', exists_eq]
    simp only [go_sem, reduceCtorEq, Nat.reduceLT, Nat.reduceLeDiff, reduceIte, ↓reduceIte, Nat.reduceEqDiff, Nat.reduceAdd, Nat.reduceMul, Nat.reduceSub, Int.reduceLE, Int.reduceLT, Int.reduceNeg, Int.reduceToNat]
    refine VcCall.fr (args' := [.ro (.bools row), .ro (.bools row)]) (FnFr.of_ok (equalBools_ok _ _) rfl rfl) ?_ 0 rfl (by simp [rowsB]) ?_
    · first | rfl | simp only [argOkL, argOk, cellOkL, cellOk, lk, reduceIte, reduceCtorEq, Nat.reduceEqDiff, Option.some.injEq, Item.row.injEq, Item.box.injEq, AV.ro.injEq, exists_eq_left, exists_and_left, exists_eq_left', exists_eq_right, and_assoc, and_true, true_and, List.cons.injEq, exists_eq', exists_eq]
    simp only [go_sem, reduceCtorEq, Nat.reduceLT, Nat.reduceLeDiff, reduceIte, ↓reduceIte, Nat.reduceEqDiff, Nat.reduceAdd, Nat.reduceMul, Nat.reduceSub, Int.reduceLE, Int.reduceLT, Int.reduceNeg, Int.reduceToNat]
    refine VcCall.fr (args' := [.ro (.ints .i64 l), .int .i64 w]) (FnFr.of_ok (fromRuns_ok l w) rfl rfl) (by simp [argOkL, argOk]) 1 rfl (by simp [rowsB, Item.below]) ?_
    simp only [go_sem, reduceCtorEq, Nat.reduceLT, Nat.reduceLeDiff, reduceIte, ↓reduceIte, Nat.reduceEqDiff, Nat.reduceAdd, Nat.reduceMul, Nat.reduceSub, Int.reduceLE, Int.reduceLT, Int.reduceNeg, Int.reduceToNat]
    refine VcCall.fr (args' := [.ro (.ints .i64 l), .int .i64 w]) (FnFr.of_ok (rfromRuns_ok l w) rfl rfl) (by simp [argOkL, argOk]) 1 rfl (by simp [rowsB, Item.below]) ?_
    simp only [go_sem, reduceCtorEq, Nat.reduceLT, Nat.reduceLeDiff, reduceIte, ↓reduceIte, Nat.reduceEqDiff, Nat.reduceAdd, Nat.reduceMul, Nat.reduceSub, Int.reduceLE, Int.reduceLT, Int.reduceNeg, Int.reduceToNat]
    refine VcCall.fr (args' := [.ro (.bools (frSpec l w).1), .ro (.bools (frSpec l w).1)]) (FnFr.of_ok (equalBools_ok _ _) rfl rfl) ?_ 0 rfl (by simp [rowsB]) ?_
    · first | rfl | simp only [argOkL, argOk, cellOkL, cellOk, lk, reduceIte, reduceCtorEq, Nat.reduceEqDiff, Option.some.injEq, Item.row.injEq, Item.box.injEq, AV.ro.injEq, exists_eq_left, exists_and_left, exists_eq_left', exists_eq_right, and_assoc, and_true, true_and, List.cons.injEq, exists_eq', exists_eq]
    simp only [go_sem, reduceCtorEq, Nat.reduceLT, Nat.reduceLeDiff, reduceIte, ↓reduceIte, Nat.reduceEqDiff, Nat.reduceAdd, Nat.reduceMul, Nat.reduceSub, Int.reduceLE, Int.reduceLT, Int.reduceNeg, Int.reduceToNat]
    refine Ret.auto 0 ?_ rfl ?_ <;> simp only [rep_bools, rep_ints, renL_bools, renL_ints, belowL_bools, belowL_ints, mkL_bools, mkL_ints, set_bools, set_ints, rets, rets1, retV, mkRet, tupOf, S.ev, List.map_cons, List.map_nil, envOk, subOk, mkRen, mkEnv, mkRows, mkItem, mkV, mkL, pm, S.get, lk, ren, renL, Fv.below, Fv.belowL, Item.ren, Item.below, List.append_nil, List.nil_append, List.cons_append, and_true, true_and, and_self, eq_self, reduceIte, reduceCtorEq, Nat.reduceEqDiff, Nat.reduceLT, Nat.reduceLeDiff, AV.own.injEq, AV.int.injEq, AV.bool.injEq, AV.str.injEq, AV.ro.injEq, AV.agg.injEq, AV.tup.injEq, List.cons.injEq, Option.some.injEq, Item.row.injEq, Item.box.injEq, RowV.ints.injEq, RowV.bools.injEq, RowV.strs.injEq, RowV.objs.injEq, List.not_mem_nil, false_implies, implies_true, List.mem_cons, forall_eq_or_imp, forall_eq, or_false, Nat.succ_ne_self, ne_eq, not_false_eq_true, or_true, true_or, Bool.and_self, Bool.and_true, decide_true, decide_eq_true_eq, Int.natCast_zero, decide_false, Post]
end Go.Fv.D
