/-
  A part of the proof of the claim: walks over the program's functions and the plain laws that these need. No condition of its own.
-/
import Derived.Test.YtfebnhmnkgnofaaDoorKStrokesCardPart4
import Derived.Test.YtfebnhmnkgnofaaDoorFvPart9
namespace Go.Fv.K
open Go Go.Proofs
set_option linter.unusedSimpArgs false
set_option linter.unusedVariables false
set_option maxRecDepth 8000

theorem maj1_ok : InkFn 73 (fun s _ _ => decide (5 ≤ s)) := by
  intro s n b
  refine FnFr.of_ok (rows := []) ?_ rfl rfl
  refine FnOk.of_vc Tryd.func73 rfl (by decide) (by simp [Tryd.f73]) [.tmp 6] rfl fun w0 T0 _ => ?_
  simp only [Tryd.f73, argEnv]
  (repeat' first | (with_reducible refine Asm.intro fun _ => ?_) | ((with_reducible refine Chk.intro ?_ ?_); (· first | omega | (with_reducible refine Chk.intro ?_ ?_ <;> omega) | (simp; done) | (simp; omega))) | (with_reducible refine AnyI.i64 fun _ _ => ?_) | ((with_reducible refine LetW.i64 ?_ ?_ ?_); (· omega); (· omega)) | ((with_reducible refine Ite.decide (fun _ => ?_) (fun _ => ?_)) <;> first | (exfalso; omega) | skip) | (with_reducible refine Ite.bool (fun _ => ?_) (fun _ => ?_)) | (with_reducible refine And.intro ?_ ?_) | omega | simp (maxSteps := 1000000) only [go_sem, reduceCtorEq, Nat.reduceLT, Nat.reduceLeDiff, reduceIte, ↓reduceIte, Nat.reduceEqDiff, Nat.reduceAdd, Nat.reduceMul, Nat.reduceSub, Int.reduceLE, Int.reduceLT, Int.reduceNeg, Int.reduceToNat])
  refine Ret.auto 0 ?_ rfl ?_ <;> simp only [renR_ok, belowR_ok, mkR_ok, noIdR_ok, renL_caps, belowL_caps, mkL_caps, rep_bools, rep_ints, renL_bools, renL_ints, belowL_bools, belowL_ints, mkL_bools, mkL_ints, set_bools, set_ints, rets, rets1, retV, mkRet, tupOf, S.ev, List.map_cons, List.map_nil, envOk, subOk, mkRen, mkEnv, mkRows, mkItem, mkV, mkL, pm, S.get, lk, ren, renL, Fv.below, Fv.belowL, Item.ren, Item.below, List.append_nil, List.nil_append, List.cons_append, and_true, true_and, and_self, eq_self, reduceIte, reduceCtorEq, Nat.reduceEqDiff, Nat.reduceLT, Nat.reduceLeDiff, AV.own.injEq, AV.int.injEq, AV.bool.injEq, AV.str.injEq, AV.ro.injEq, AV.agg.injEq, AV.tup.injEq, List.cons.injEq, Option.some.injEq, Item.row.injEq, Item.box.injEq, RowV.ints.injEq, RowV.bools.injEq, RowV.strs.injEq, RowV.objs.injEq, List.not_mem_nil, false_implies, implies_true, List.mem_cons, forall_eq_or_imp, forall_eq, or_false, Nat.succ_ne_self, ne_eq, not_false_eq_true, or_true, true_or, Bool.and_self, Bool.and_true, decide_true, decide_eq_true_eq, Int.natCast_zero, decide_false, Post]
set_option maxHeartbeats 2000000 in
theorem majority_ok (w h : Nat) (hw1 : 1 ≤ w) (hw : w ≤ 1000) (hh1 : 1 ≤ h) (hh : h ≤ 1000) (p : List Bool) (hp : p.length = w * h) :
    FnOk Tryd.prog 27 [.agg [.int .i64 w, .int .i64 h, .ro (.bools p)]] (.tup [.agg [.int .i64 w, .int .i64 h, .own 0], .int .i64 0]) [(0, .row 4 (.bools (rowsOf w (majB p w h) (h * w))))] := by
  have k := aroundB_ok w h hw1 hw hh1 hh p hp 1 (by decide) 73 _ maj1_ok
  rw [maj_same, show ((1 : Nat) : Int) = 1 from rfl] at k
  generalize rowsOf w (majB p w h) (h * w) = out at *
  refine FnOk.of_vc Tryd.func27 rfl (by decide) (by simp [Tryd.f27]) [.cell 2 29, .tmp 3] rfl fun w0 T0 _ => ?_
  simp only [Tryd.f27, argEnv]
  (repeat' first | (with_reducible refine Asm.intro fun _ => ?_) | ((with_reducible refine Chk.intro ?_ ?_); (· first | omega | (with_reducible refine Chk.intro ?_ ?_ <;> omega) | (simp; done) | (simp; omega))) | (with_reducible refine AnyI.i64 fun _ _ => ?_) | ((with_reducible refine LetW.i64 ?_ ?_ ?_); (· omega); (· omega)) | ((with_reducible refine Ite.decide (fun _ => ?_) (fun _ => ?_)) <;> first | (exfalso; omega) | skip) | (with_reducible refine Ite.bool (fun _ => ?_) (fun _ => ?_)) | (with_reducible refine And.intro ?_ ?_) | omega | simp (maxSteps := 1000000) only [go_sem, reduceCtorEq, Nat.reduceLT, Nat.reduceLeDiff, reduceIte, ↓reduceIte, Nat.reduceEqDiff, Nat.reduceAdd, Nat.reduceMul, Nat.reduceSub, Int.reduceLE, Int.reduceLT, Int.reduceNeg, Int.reduceToNat])
  refine VcCall.fr (FnFr.of_ok k rfl rfl) (by simp only [noIdR_ok, argOkL, argOk, allOk, argOkN, List.drop_zero, lk, reduceIte, reduceCtorEq, Nat.reduceEqDiff, Option.some.injEq, Item.row.injEq, Item.box.injEq, AV.ro.injEq, exists_eq_left, exists_and_left, exists_eq_left', exists_eq_right, and_assoc, and_true, true_and, List.cons.injEq, exists_eq', exists_eq]) 1 rfl (by simp [rowsB, Item.below, Fv.below, belowL]) ?_
  (repeat' first | (with_reducible refine Asm.intro fun _ => ?_) | ((with_reducible refine Chk.intro ?_ ?_); (· first | omega | (with_reducible refine Chk.intro ?_ ?_ <;> omega) | (simp; done) | (simp; omega))) | (with_reducible refine AnyI.i64 fun _ _ => ?_) | ((with_reducible refine LetW.i64 ?_ ?_ ?_); (· omega); (· omega)) | ((with_reducible refine Ite.decide (fun _ => ?_) (fun _ => ?_)) <;> first | (exfalso; omega) | skip) | (with_reducible refine Ite.bool (fun _ => ?_) (fun _ => ?_)) | (with_reducible refine And.intro ?_ ?_) | omega | simp (maxSteps := 1000000) only [go_sem, reduceCtorEq, Nat.reduceLT, Nat.reduceLeDiff, reduceIte, ↓reduceIte, Nat.reduceEqDiff, Nat.reduceAdd, Nat.reduceMul, Nat.reduceSub, Int.reduceLE, Int.reduceLT, Int.reduceNeg, Int.reduceToNat])
  refine Ret.auto 1 ?_ rfl ?_ <;> simp only [renR_ok, belowR_ok, mkR_ok, noIdR_ok, renL_caps, belowL_caps, mkL_caps, rep_bools, rep_ints, renL_bools, renL_ints, belowL_bools, belowL_ints, mkL_bools, mkL_ints, set_bools, set_ints, rets, rets1, retV, mkRet, tupOf, S.ev, List.map_cons, List.map_nil, envOk, subOk, mkRen, mkEnv, mkRows, mkItem, mkV, mkL, pm, S.get, lk, ren, renL, Fv.below, Fv.belowL, Item.ren, Item.below, List.append_nil, List.nil_append, List.cons_append, and_true, true_and, and_self, eq_self, reduceIte, reduceCtorEq, Nat.reduceEqDiff, Nat.reduceLT, Nat.reduceLeDiff, AV.own.injEq, AV.int.injEq, AV.bool.injEq, AV.str.injEq, AV.ro.injEq, AV.agg.injEq, AV.tup.injEq, List.cons.injEq, Option.some.injEq, Item.row.injEq, Item.box.injEq, RowV.ints.injEq, RowV.bools.injEq, RowV.strs.injEq, RowV.objs.injEq, List.not_mem_nil, false_implies, implies_true, List.mem_cons, forall_eq_or_imp, forall_eq, or_false, Nat.succ_ne_self, ne_eq, not_false_eq_true, or_true, true_or, Bool.and_self, Bool.and_true, decide_true, decide_eq_true_eq, Int.natCast_zero, decide_false, Post, List.drop_zero]
  simp (maxSteps := 1000000) only [go_sem, reduceCtorEq, Nat.reduceLT, Nat.reduceLeDiff, reduceIte, ↓reduceIte, Nat.reduceEqDiff, Nat.reduceAdd, Nat.reduceMul, Nat.reduceSub, Int.reduceLE, Int.reduceLT, Int.reduceNeg, Int.reduceToNat]

set_option maxHeartbeats 4000000 in
theorem refMaj1_ok (w h : Nat) (hw : w ≤ 4000) (hh : h ≤ 4000) (p : List Bool) (hp : p.length = w * h) (x y : Nat) (hx : x < w) (hy : y < h) :
    FnOk Tryd.prog 78 [.int .i64 x, .int .i64 y, .cell [.int .i64 w, .int .i64 h, .ro (.bools p)]] (.bool (majB p w h x y)) [] := by
  refine FnOk.of_vc Tryd.func78 rfl (by decide) (by simp [Tryd.f78]) [.tmp 5] rfl fun w0 T0 _ => ?_
  simp only [Tryd.f78, argEnv]
  (repeat' first | (with_reducible refine Asm.intro fun _ => ?_) | ((with_reducible refine Chk.intro ?_ ?_); (· first | omega | (with_reducible refine Chk.intro ?_ ?_ <;> omega) | (simp; done) | (simp; omega))) | (with_reducible refine AnyI.i64 fun _ _ => ?_) | ((with_reducible refine LetW.i64 ?_ ?_ ?_); (· omega); (· omega)) | ((with_reducible refine Ite.decide (fun _ => ?_) (fun _ => ?_)) <;> first | (exfalso; omega) | skip) | (with_reducible refine Ite.bool (fun _ => ?_) (fun _ => ?_)) | (with_reducible refine And.intro ?_ ?_) | omega | simp (maxSteps := 1000000) only [go_sem, reduceCtorEq, Nat.reduceLT, Nat.reduceLeDiff, reduceIte, ↓reduceIte, Nat.reduceEqDiff, Nat.reduceAdd, Nat.reduceMul, Nat.reduceSub, Int.reduceLE, Int.reduceLT, Int.reduceNeg, Int.reduceToNat])
  refine VcLoop.intro (fun k : Nat => ⟨28, [(8, .int .i64 k), (6, .int .i64 (nineS p w h x y k)), (0, .int .i64 x), (1, .int .i64 y), (2, .cell [.int .i64 w, .int .i64 h, .ro (.bools p)])], [], 0⟩) (fun k => k ≤ 9) (fun k => 9 - k) 0 ?_ (Nat.zero_le _) fun k hk => ?_
  · refine Ent.auto0 rfl ?_ ?_ <;> simp only [renR_ok, belowR_ok, mkR_ok, noIdR_ok, renL_caps, belowL_caps, mkL_caps, rep_bools, rep_ints, renL_bools, renL_ints, belowL_bools, belowL_ints, mkL_bools, mkL_ints, set_bools, set_ints, rets, rets1, retV, mkRet, tupOf, S.ev, List.map_cons, List.map_nil, envOk, subOk, mkRen, mkEnv, mkRows, mkItem, mkV, mkL, pm, S.get, lk, ren, renL, Fv.below, Fv.belowL, Item.ren, Item.below, List.append_nil, List.nil_append, List.cons_append, and_true, true_and, and_self, eq_self, reduceIte, reduceCtorEq, Nat.reduceEqDiff, Nat.reduceLT, Nat.reduceLeDiff, AV.own.injEq, AV.int.injEq, AV.bool.injEq, AV.str.injEq, AV.ro.injEq, AV.agg.injEq, AV.tup.injEq, List.cons.injEq, Option.some.injEq, Item.row.injEq, Item.box.injEq, RowV.ints.injEq, RowV.bools.injEq, RowV.strs.injEq, RowV.objs.injEq, List.not_mem_nil, false_implies, implies_true, List.mem_cons, forall_eq_or_imp, forall_eq, or_false, Nat.succ_ne_self, ne_eq, not_false_eq_true, or_true, true_or, Bool.and_self, Bool.and_true, decide_true, decide_eq_true_eq, Int.natCast_zero, decide_false, nineS]
  have hb := nineS_bd p w h x y k
  have e1 : ((k : Nat) : Int).tmod 3 = ((k % 3 : Nat) : Int) := up_tmod k 3
  have e2 : ((k : Nat) : Int).tdiv 3 = ((k / 3 : Nat) : Int) := up_tdiv k 3
  (repeat' first | (with_reducible refine Asm.intro fun _ => ?_) | ((with_reducible refine Chk.intro ?_ ?_); (· first | omega | (with_reducible refine Chk.intro ?_ ?_ <;> omega) | (simp; done) | (simp; omega))) | (with_reducible refine AnyI.i64 fun _ _ => ?_) | ((with_reducible refine LetW.i64 ?_ ?_ ?_); (· omega); (· omega)) | ((with_reducible refine Ite.decide (fun _ => ?_) (fun _ => ?_)) <;> first | (exfalso; omega) | skip) | (with_reducible refine Ite.bool (fun _ => ?_) (fun _ => ?_)) | (with_reducible refine And.intro ?_ ?_) | omega | simp (maxSteps := 1000000) only [go_sem, reduceCtorEq, Nat.reduceLT, Nat.reduceLeDiff, reduceIte, ↓reduceIte, Nat.reduceEqDiff, Nat.reduceAdd, Nat.reduceMul, Nat.reduceSub, Int.reduceLE, Int.reduceLT, Int.reduceNeg, Int.reduceToNat, e1, e2])
  · refine VcCall.fr (FnFr.of_ok (refAt_ok w h hw hh p hp ((x : Int) + (k % 3 : Nat) - 1) ((y : Int) + (k / 3 : Nat) - 1)) rfl rfl) (by simp only [noIdR_ok, argOkL, argOk, allOk, argOkN, List.drop_zero, lk, reduceIte, reduceCtorEq, Nat.reduceEqDiff, Option.some.injEq, Item.row.injEq, Item.box.injEq, AV.ro.injEq, exists_eq_left, exists_and_left, exists_eq_left', exists_eq_right, and_assoc, and_true, true_and, List.cons.injEq, exists_eq', exists_eq]) 0 rfl (by simp [rowsB]) ?_
    (repeat' first | (with_reducible refine Asm.intro fun _ => ?_) | ((with_reducible refine Chk.intro ?_ ?_); (· first | omega | (with_reducible refine Chk.intro ?_ ?_ <;> omega) | (simp; done) | (simp; omega))) | (with_reducible refine AnyI.i64 fun _ _ => ?_) | ((with_reducible refine LetW.i64 ?_ ?_ ?_); (· omega); (· omega)) | ((with_reducible refine Ite.decide (fun _ => ?_) (fun _ => ?_)) <;> first | (exfalso; omega) | skip) | (with_reducible refine Ite.bool (fun _ => ?_) (fun _ => ?_)) | (with_reducible refine And.intro ?_ ?_) | omega | simp (maxSteps := 1000000) only [go_sem, reduceCtorEq, Nat.reduceLT, Nat.reduceLeDiff, reduceIte, ↓reduceIte, Nat.reduceEqDiff, Nat.reduceAdd, Nat.reduceMul, Nat.reduceSub, Int.reduceLE, Int.reduceLT, Int.reduceNeg, Int.reduceToNat])
    · rename_i h1
      refine ⟨k + 1, Ent.auto0 rfl ?_ ?_, by omega, by omega⟩ <;> simp only [renR_ok, belowR_ok, mkR_ok, noIdR_ok, renL_caps, belowL_caps, mkL_caps, rep_bools, rep_ints, renL_bools, renL_ints, belowL_bools, belowL_ints, mkL_bools, mkL_ints, set_bools, set_ints, rets, rets1, retV, mkRet, tupOf, S.ev, List.map_cons, List.map_nil, envOk, subOk, mkRen, mkEnv, mkRows, mkItem, mkV, mkL, pm, S.get, lk, ren, renL, Fv.below, Fv.belowL, Item.ren, Item.below, List.append_nil, List.nil_append, List.cons_append, and_true, true_and, and_self, eq_self, reduceIte, reduceCtorEq, Nat.reduceEqDiff, Nat.reduceLT, Nat.reduceLeDiff, AV.own.injEq, AV.int.injEq, AV.bool.injEq, AV.str.injEq, AV.ro.injEq, AV.agg.injEq, AV.tup.injEq, List.cons.injEq, Option.some.injEq, Item.row.injEq, Item.box.injEq, RowV.ints.injEq, RowV.bools.injEq, RowV.strs.injEq, RowV.objs.injEq, List.not_mem_nil, false_implies, implies_true, List.mem_cons, forall_eq_or_imp, forall_eq, or_false, Nat.succ_ne_self, ne_eq, not_false_eq_true, or_true, true_or, Bool.and_self, Bool.and_true, decide_true, decide_eq_true_eq, Int.natCast_zero, decide_false, nineS, nineV, cellV, h1]
      rfl
    · rename_i h1
      refine ⟨k + 1, Ent.auto0 rfl ?_ ?_, by omega, by omega⟩ <;> simp only [renR_ok, belowR_ok, mkR_ok, noIdR_ok, renL_caps, belowL_caps, mkL_caps, rep_bools, rep_ints, renL_bools, renL_ints, belowL_bools, belowL_ints, mkL_bools, mkL_ints, set_bools, set_ints, rets, rets1, retV, mkRet, tupOf, S.ev, List.map_cons, List.map_nil, envOk, subOk, mkRen, mkEnv, mkRows, mkItem, mkV, mkL, pm, S.get, lk, ren, renL, Fv.below, Fv.belowL, Item.ren, Item.below, List.append_nil, List.nil_append, List.cons_append, and_true, true_and, and_self, eq_self, reduceIte, reduceCtorEq, Nat.reduceEqDiff, Nat.reduceLT, Nat.reduceLeDiff, AV.own.injEq, AV.int.injEq, AV.bool.injEq, AV.str.injEq, AV.ro.injEq, AV.agg.injEq, AV.tup.injEq, List.cons.injEq, Option.some.injEq, Item.row.injEq, Item.box.injEq, RowV.ints.injEq, RowV.bools.injEq, RowV.strs.injEq, RowV.objs.injEq, List.not_mem_nil, false_implies, implies_true, List.mem_cons, forall_eq_or_imp, forall_eq, or_false, Nat.succ_ne_self, ne_eq, not_false_eq_true, or_true, true_or, Bool.and_self, Bool.and_true, decide_true, decide_eq_true_eq, Int.natCast_zero, decide_false, nineS, nineV, cellV, h1, Int.add_zero]
      rfl
  · have e : k = 9 := by omega
    subst e
    refine Ret.auto 0 ?_ rfl ?_ <;> simp only [renR_ok, belowR_ok, mkR_ok, noIdR_ok, renL_caps, belowL_caps, mkL_caps, rep_bools, rep_ints, renL_bools, renL_ints, belowL_bools, belowL_ints, mkL_bools, mkL_ints, set_bools, set_ints, rets, rets1, retV, mkRet, tupOf, S.ev, List.map_cons, List.map_nil, envOk, subOk, mkRen, mkEnv, mkRows, mkItem, mkV, mkL, pm, S.get, lk, ren, renL, Fv.below, Fv.belowL, Item.ren, Item.below, List.append_nil, List.nil_append, List.cons_append, and_true, true_and, and_self, eq_self, reduceIte, reduceCtorEq, Nat.reduceEqDiff, Nat.reduceLT, Nat.reduceLeDiff, AV.own.injEq, AV.int.injEq, AV.bool.injEq, AV.str.injEq, AV.ro.injEq, AV.agg.injEq, AV.tup.injEq, List.cons.injEq, Option.some.injEq, Item.row.injEq, Item.box.injEq, RowV.ints.injEq, RowV.bools.injEq, RowV.strs.injEq, RowV.objs.injEq, List.not_mem_nil, false_implies, implies_true, List.mem_cons, forall_eq_or_imp, forall_eq, or_false, Nat.succ_ne_self, ne_eq, not_false_eq_true, or_true, true_or, Bool.and_self, Bool.and_true, decide_true, decide_eq_true_eq, Int.natCast_zero, decide_false, Post, majB]
set_option maxHeartbeats 2000000 in
theorem refMajority_ok (w h : Nat) (hw : w ≤ 4000) (hh : h ≤ 4000) (p : List Bool) (hp : p.length = w * h) :
    FnOk Tryd.prog 29 [.agg [.int .i64 w, .int .i64 h, .ro (.bools p)]] (.agg [.int .i64 w, .int .i64 h, .own 0]) [(0, .row 4 (.bools (rowsOf w (majB p w h) (h * w))))] := by
  haveI c1 : CapsOk [.cell [.int .i64 w, .int .i64 h, .ro (.bools p)]] := ⟨rfl⟩
  have k1 := made_ok w h hw hh 78 [.cell [.int .i64 w, .int .i64 h, .ro (.bools p)]] (majB p w h)
    (fun x y hx hy => FnFr.of_ok (refMaj1_ok w h hw hh p hp x y hx hy) rfl rfl)
  generalize rowsOf w (majB p w h) (h * w) = out at *
  refine FnOk.of_vc Tryd.func29 rfl (by decide) (by simp [Tryd.f29]) [.cell 2 29] rfl fun w0 T0 _ => ?_
  simp only [Tryd.f29, argEnv]
  (repeat' first | (with_reducible refine Asm.intro fun _ => ?_) | ((with_reducible refine Chk.intro ?_ ?_); (· first | omega | (with_reducible refine Chk.intro ?_ ?_ <;> omega) | (simp; done) | (simp; omega))) | (with_reducible refine AnyI.i64 fun _ _ => ?_) | ((with_reducible refine LetW.i64 ?_ ?_ ?_); (· omega); (· omega)) | ((with_reducible refine Ite.decide (fun _ => ?_) (fun _ => ?_)) <;> first | (exfalso; omega) | skip) | (with_reducible refine Ite.bool (fun _ => ?_) (fun _ => ?_)) | (with_reducible refine And.intro ?_ ?_) | omega | simp (maxSteps := 1000000) only [go_sem, reduceCtorEq, Nat.reduceLT, Nat.reduceLeDiff, reduceIte, ↓reduceIte, Nat.reduceEqDiff, Nat.reduceAdd, Nat.reduceMul, Nat.reduceSub, Int.reduceLE, Int.reduceLT, Int.reduceNeg, Int.reduceToNat])
  refine VcCall.fr (FnFr.of_ok k1 rfl rfl) (by simp only [noIdR_ok, argOkL, argOk, allOk, argOkN, List.drop_zero, lk, reduceIte, reduceCtorEq, Nat.reduceEqDiff, Option.some.injEq, Item.row.injEq, Item.box.injEq, AV.ro.injEq, exists_eq_left, exists_and_left, exists_eq_left', exists_eq_right, and_assoc, and_true, true_and, List.cons.injEq, exists_eq', exists_eq]) 1 rfl (by simp [rowsB, Item.below, Fv.below, belowL]) ?_
  (repeat' first | (with_reducible refine Asm.intro fun _ => ?_) | ((with_reducible refine Chk.intro ?_ ?_); (· first | omega | (with_reducible refine Chk.intro ?_ ?_ <;> omega) | (simp; done) | (simp; omega))) | (with_reducible refine AnyI.i64 fun _ _ => ?_) | ((with_reducible refine LetW.i64 ?_ ?_ ?_); (· omega); (· omega)) | ((with_reducible refine Ite.decide (fun _ => ?_) (fun _ => ?_)) <;> first | (exfalso; omega) | skip) | (with_reducible refine Ite.bool (fun _ => ?_) (fun _ => ?_)) | (with_reducible refine And.intro ?_ ?_) | omega | simp (maxSteps := 1000000) only [go_sem, reduceCtorEq, Nat.reduceLT, Nat.reduceLeDiff, reduceIte, ↓reduceIte, Nat.reduceEqDiff, Nat.reduceAdd, Nat.reduceMul, Nat.reduceSub, Int.reduceLE, Int.reduceLT, Int.reduceNeg, Int.reduceToNat])
  refine Ret.auto 1 ?_ rfl ?_ <;> simp only [renR_ok, belowR_ok, mkR_ok, noIdR_ok, renL_caps, belowL_caps, mkL_caps, rep_bools, rep_ints, renL_bools, renL_ints, belowL_bools, belowL_ints, mkL_bools, mkL_ints, set_bools, set_ints, rets, rets1, retV, mkRet, tupOf, S.ev, List.map_cons, List.map_nil, envOk, subOk, mkRen, mkEnv, mkRows, mkItem, mkV, mkL, pm, S.get, lk, ren, renL, Fv.below, Fv.belowL, Item.ren, Item.below, List.append_nil, List.nil_append, List.cons_append, and_true, true_and, and_self, eq_self, reduceIte, reduceCtorEq, Nat.reduceEqDiff, Nat.reduceLT, Nat.reduceLeDiff, AV.own.injEq, AV.int.injEq, AV.bool.injEq, AV.str.injEq, AV.ro.injEq, AV.agg.injEq, AV.tup.injEq, List.cons.injEq, Option.some.injEq, Item.row.injEq, Item.box.injEq, RowV.ints.injEq, RowV.bools.injEq, RowV.strs.injEq, RowV.objs.injEq, List.not_mem_nil, false_implies, implies_true, List.mem_cons, forall_eq_or_imp, forall_eq, or_false, Nat.succ_ne_self, ne_eq, not_false_eq_true, or_true, true_or, Bool.and_self, Bool.and_true, decide_true, decide_eq_true_eq, Int.natCast_zero, decide_false, Post, List.drop_zero]
  simp (maxSteps := 1000000) only [go_sem, reduceCtorEq, Nat.reduceLT, Nat.reduceLeDiff, reduceIte, ↓reduceIte, Nat.reduceEqDiff, Nat.reduceAdd, Nat.reduceMul, Nat.reduceSub, Int.reduceLE, Int.reduceLT, Int.reduceNeg, Int.reduceToNat]
end Go.Fv.K

namespace Go.Fv.K
open Go
set_option linter.unusedSimpArgs false
set_option linter.unusedVariables false

/-! ### Lengths, counted in a map -/
def uq (l : List Int) : List Int := l.foldl insE []
def cnt (l : List Int) (k : Int) : Int := ((l.count k : Nat) : Int)
theorem uq_snoc (l : List Int) (r : Int) : uq (l ++ [r]) = insE (uq l) r := by simp [uq, List.foldl_append]
theorem mem_foldl_insE : ∀ (l s : List Int) (x : Int), x ∈ l.foldl insE s ↔ x ∈ s ∨ x ∈ l
  | [], s, x => by simp
  | y :: l, s, x => by simp only [List.foldl_cons]; rw [mem_foldl_insE l, mem_insE, List.mem_cons, or_assoc]
theorem mem_uq {l : List Int} {x : Int} : x ∈ uq l ↔ x ∈ l := by unfold uq; rw [mem_foldl_insE]; simp
theorem insE_nodup {s : List Int} {x : Int} (h : s.Nodup) : (insE s x).Nodup := by
  unfold insE; split
  · exact h
  · rename_i hx
    rw [List.nodup_append]
    refine ⟨h, by simp, ?_⟩
    intro a ha b hb e
    simp only [List.mem_singleton] at hb
    subst hb; subst e; exact hx ha
theorem foldl_insE_nodup : ∀ (l s : List Int), s.Nodup → (l.foldl insE s).Nodup
  | [], s, h => h
  | y :: l, s, h => foldl_insE_nodup l _ (insE_nodup h)
theorem uq_nodup (l : List Int) : (uq l).Nodup := foldl_insE_nodup l [] List.nodup_nil
theorem cnt_snoc (l : List Int) (r k : Int) : cnt (l ++ [r]) k = if k = r then cnt l k + 1 else cnt l k := by
  unfold cnt
  rw [List.count_append]
  by_cases e : k = r
  · subst e; simp
  · rw [if_neg e, List.count_eq_zero (l := [r]).2 (by simp [e])]; simp
theorem cnt_none {l : List Int} {k : Int} (h : k ∉ l) : cnt l k = 0 := by unfold cnt; rw [List.count_eq_zero.2 h]; rfl
theorem cnt_pos {l : List Int} {k : Int} (h : k ∈ l) : 0 < cnt l k := by unfold cnt; have := List.count_pos_iff.2 h; omega
theorem cnt_bd (l : List Int) (k : Int) : 0 ≤ cnt l k ∧ cnt l k ≤ (l.length : Int) := by unfold cnt; have := List.count_le_length (a := k) (l := l); omega
/-- The keys and the values of such a map. -/
def cKs (l : List Int) : List AV := (uq l).map (.int .i64)
def cVs (l : List Int) : List AV := (uq l).map fun k => .int .i64 (cnt l k)
theorem getI_cnt (l : List Int) (r : Int) : getI (cKs l) (cVs l) (.int .i64 r) = cnt l r := by
  unfold getI getV cKs cVs
  rw [keyIdx_ints]
  cases h : ixOf (uq l) r with
  | none => simp [cnt_none (fun hm => ixOf_none.1 h (mem_uq.2 hm))]
  | some j => simp [ixOf_some h]
theorem updKs_cnt (l : List Int) (r : Int) : updKs (cKs l) (.int .i64 r) = cKs (l ++ [r]) := by
  unfold cKs; rw [updKs_ints, uq_snoc]
theorem entIx_bd (l : List Int) (r : Int) : entIx (cKs l) (.int .i64 r) < (entVs (cKs l) (cVs l) (.int .i64 r) (.int .i64 0)).length := by
  unfold entIx entVs cKs cVs
  rw [keyIdx_ints]
  cases h : ixOf (uq l) r with
  | none => simp
  | some j =>
    have := (List.getElem?_eq_some_iff.1 (ixOf_some h)).1
    simpa using this
theorem set_cnt (l : List Int) (r : Int) : (entVs (cKs l) (cVs l) (.int .i64 r) (.int .i64 0)).set (entIx (cKs l) (.int .i64 r)) (.int .i64 (cnt l r + 1)) = cVs (l ++ [r]) := by
  unfold entIx entVs cKs cVs
  rw [keyIdx_ints, uq_snoc]
  cases h : ixOf (uq l) r with
  | none =>
    have hn := ixOf_none.1 h
    unfold insE
    rw [if_neg hn]
    simp only [List.map_append, List.map_cons, List.map_nil, List.length_map]
    rw [List.set_append_right _ _ (by simp)]
    simp only [List.length_map, Nat.sub_self, List.set_cons_zero]
    congr 1
    · refine List.map_congr_left fun k hk => ?_
      rw [cnt_snoc, if_neg (fun e => hn (by rw [← e]; exact hk))]
    · rw [cnt_snoc, if_pos rfl]
  | some j =>
    have hj := ixOf_some h
    have hm := List.mem_of_getElem? hj
    unfold insE
    rw [if_pos hm]
    refine List.ext_getElem? fun i => ?_
    rw [List.getElem?_set]
    by_cases e : j = i
    · subst e
      have hlt := (List.getElem?_eq_some_iff.1 hj).1
      simp only [List.length_map, hlt, reduceIte, List.getElem?_map, hj, Option.map_some]
      rw [cnt_snoc, if_pos rfl]
    · rw [if_neg e, List.getElem?_map, List.getElem?_map]
      cases hi : (uq l)[i]? with
      | none => rfl
      | some k =>
        simp only [Option.map_some]
        rw [cnt_snoc, if_neg]
        intro ek
        subst ek
        have h1 := (List.getElem?_eq_some_iff.1 hj)
        have h2 := (List.getElem?_eq_some_iff.1 hi)
        obtain ⟨a1, a2⟩ := h1
        obtain ⟨b1, b2⟩ := h2
        exact e ((List.getElem_inj (uq_nodup l)).1 (a2.trans b2.symm))

theorem updVs_cnt (l : List Int) (r : Int) : updVs (cKs l) (cVs l) (.int .i64 r) (.int .i64 (cnt l r + 1)) = cVs (l ++ [r]) := by
  rw [← set_cnt]
  unfold updVs entIx entVs cKs cVs
  rw [keyIdx_ints]
  cases h : ixOf (uq l) r with
  | none => simp
  | some j => simp
theorem isI_cnt (l : List Int) : (cVs l).all (isI .i64) = true := by simp [cVs, isI]
theorem len_cnt (l : List Int) : (cVs l).length = (cKs l).length := by simp [cVs, cKs]

/-! ### Runs of ink in lines -/
def runAt (g : Nat → Bool) : Nat → Int
  | 0 => 0
  | k + 1 => if g k = true then runAt g k + 1 else 0
def runL (g : Nat → Bool) : Nat → List Int
  | 0 => []
  | k + 1 => if g k = true then runL g k else if 0 < runAt g k then runL g k ++ [runAt g k] else runL g k
theorem runAt_bd (g : Nat → Bool) : ∀ k : Nat, 0 ≤ runAt g k ∧ runAt g k ≤ k
  | 0 => by simp [runAt]
  | k + 1 => by have := runAt_bd g k; simp only [runAt]; split <;> omega
theorem runL_len (g : Nat → Bool) : ∀ k : Nat, (runL g k).length ≤ k
  | 0 => by simp [runL]
  | k + 1 => by
    have := runL_len g k
    simp only [runL]
    split
    · omega
    · split
      · simp; omega
      · omega
theorem runL_pos (g : Nat → Bool) : ∀ (k : Nat) (x : Int), x ∈ runL g k → 0 < x
  | 0, x, h => by simp [runL] at h
  | k + 1, x, h => by
    simp only [runL] at h
    split at h
    · exact runL_pos g k x h
    · split at h
      · rename_i h2
        rcases List.mem_append.1 h with h | h
        · exact runL_pos g k x h
        · rw [List.mem_singleton.1 h]; exact h2
      · exact runL_pos g k x h
/-- A line, and a last place without ink behind it. -/
def lineG (f : Nat → Nat → Bool) (m i k : Nat) : Bool := decide (k < m) && f i k
def linesL (f : Nat → Nat → Bool) (m : Nat) : Nat → List Int
  | 0 => []
  | i + 1 => linesL f m i ++ runL (lineG f m i) (m + 1)
theorem linesL_len (f : Nat → Nat → Bool) (m : Nat) : ∀ n, (linesL f m n).length ≤ n * (m + 1)
  | 0 => by simp [linesL]
  | i + 1 => by
    have h1 := linesL_len f m i
    have h2 := runL_len (lineG f m i) (m + 1)
    rw [linesL, List.length_append, Nat.succ_mul]
    omega
theorem linesL_pos (f : Nat → Nat → Bool) (m : Nat) : ∀ (n : Nat) (x : Int), x ∈ linesL f m n → 0 < x
  | 0, x, h => by simp [linesL] at h
  | i + 1, x, h => by
    rcases List.mem_append.1 h with h | h
    · exact linesL_pos f m i x h
    · exact runL_pos _ _ x h

/-! ### The length that comes most often -/
def BestL (l S : List Int) (b : Int) : Prop := (S = [] ∧ b = 0) ∨ (b ∈ S ∧ ∀ k, k ∈ S → cnt l k < cnt l b ∨ (cnt l k = cnt l b ∧ b ≤ k))
def pickB (l : List Int) (b k : Int) : Int := if cnt l b < cnt l k ∨ (cnt l k = cnt l b ∧ k < b) then k else b
theorem BestL.step {l S : List Int} {b k : Int} (h0 : cnt l 0 = 0) (hk : 0 < cnt l k) (h : BestL l S b) : BestL l (S ++ [k]) (pickB l b k) := by
  unfold pickB
  rcases h with ⟨rfl, rfl⟩ | ⟨hb, ha⟩
  · rw [if_pos (.inl (by omega))]
    exact .inr ⟨by simp, fun k' hk' => .inr (by simp at hk'; subst hk'; exact ⟨rfl, Int.le_refl _⟩)⟩
  · split
    · rename_i hc
      refine .inr ⟨by simp, fun k' hk' => ?_⟩
      rcases List.mem_append.1 hk' with hk' | hk'
      · have := ha k' hk'; omega
      · simp at hk'; subst hk'; exact .inr ⟨rfl, Int.le_refl _⟩
    · rename_i hc
      refine .inr ⟨List.mem_append_left _ hb, fun k' hk' => ?_⟩
      rcases List.mem_append.1 hk' with hk' | hk'
      · exact ha k' hk'
      · simp at hk'; subst hk'; omega
theorem BestL.zero {l S : List Int} {b : Int} (hS : ∀ k, k ∈ S → 0 < k) (h : BestL l S b) : b = 0 ↔ S = [] := by
  rcases h with ⟨rfl, rfl⟩ | ⟨hb, ha⟩
  · simp
  · have := hS b hb
    constructor
    · intro e; omega
    · intro e; subst e; simp at hb
theorem BestL.one {l S S' : List Int} {b b' : Int} (he : ∀ k, k ∈ S ↔ k ∈ S') (h : BestL l S b) (h' : BestL l S' b') : b = b' := by
  rcases h with ⟨rfl, rfl⟩ | ⟨hb, ha⟩
  · rcases h' with ⟨_, rfl⟩ | ⟨hb', _⟩
    · rfl
    · exact absurd ((he _).2 hb') (by simp)
  · rcases h' with ⟨rfl, _⟩ | ⟨hb', ha'⟩
    · exact absurd ((he _).1 hb) (by simp)
    · have h1 := ha b' ((he _).2 hb')
      have h2 := ha' b ((he _).1 hb)
      omega
def bestOf (l : List Int) : Int := (uq l).foldl (pickB l) 0
theorem bestOf_spec {l : List Int} (hp : ∀ k, k ∈ l → 0 < k) : BestL l (uq l) (bestOf l) := by
  have h0 : cnt l 0 = 0 := cnt_none fun h => absurd (hp 0 h) (by omega)
  have aux : ∀ (r S : List Int) (b : Int), (∀ k, k ∈ r → 0 < cnt l k) → BestL l S b → BestL l (S ++ r) (r.foldl (pickB l) b) := by
    intro r
    induction r with
    | nil => intro S b _ h; simpa using h
    | cons k r ih =>
      intro S b hr h
      have := ih (S ++ [k]) (pickB l b k) (fun k' hk' => hr k' (.tail _ hk')) (h.step h0 (hr k (.head _)))
      simpa using this
  have := aux (uq l) [] 0 (fun k hk => cnt_pos (mem_uq.1 hk)) (.inl ⟨rfl, rfl⟩)
  simpa [bestOf] using this

/-! ### All entries of a map, in any order -/
def left (n : Nat) (seen : List Nat) : Nat := ((List.range n).filter fun j => decide (j ∉ seen)).length
theorem filter_len_le {α : Type} {p q : α → Bool} : ∀ (l : List α), (∀ x, x ∈ l → q x = true → p x = true) → (l.filter q).length ≤ (l.filter p).length
  | [], _ => by simp
  | y :: l, h => by
    have ih := filter_len_le l (fun x hx => h x (.tail _ hx))
    have hy := h y (.head _)
    simp only [List.filter_cons]
    split
    · rw [if_pos (hy (by assumption))]; simp; exact ih
    · split
      · simp; omega
      · exact ih
theorem filter_len_lt {α : Type} {p q : α → Bool} : ∀ (l : List α) (a : α), a ∈ l → p a = true → q a = false → (∀ x, x ∈ l → q x = true → p x = true) → (l.filter q).length < (l.filter p).length
  | y :: l, a, ha, hp, hq, h => by
    simp only [List.filter_cons]
    rcases List.mem_cons.1 ha with rfl | ha
    · rw [if_pos hp, if_neg (by simp [hq])]
      have := filter_len_le l (fun x hx => h x (.tail _ hx))
      simp; omega
    · have ih := filter_len_lt l a ha hp hq (fun x hx => h x (.tail _ hx))
      have hy := h y (.head _)
      split
      · rw [if_pos (hy (by assumption))]; simp; exact ih
      · split
        · simp; omega
        · exact ih
theorem left_lt {n : Nat} {seen : List Nat} {j : Nat} (hj : j ∉ seen) (hn : j < n) : left n (seen ++ [j]) < left n seen := by
  unfold left
  refine filter_len_lt _ j (List.mem_range.2 hn) (by simpa using hj) (by simp) fun x _ hx => ?_
  simp only [List.mem_append, List.mem_singleton, not_or, decide_eq_true_eq] at hx ⊢
  exact hx.1
/-- The keys that were seen. -/
def seenK (l : List Int) (seen : List Nat) : List Int := seen.map fun j => (uq l).getD j 0
theorem seenK_snoc (l : List Int) (seen : List Nat) (j : Nat) : seenK l (seen ++ [j]) = seenK l seen ++ [(uq l).getD j 0] := by simp [seenK]
theorem cKs_at {l : List Int} {j : Nat} {x : AV} (h : (cKs l)[j]? = some x) : j < (uq l).length ∧ x = .int .i64 ((uq l).getD j 0) ∧ (uq l).getD j 0 ∈ l := by
  unfold cKs at h
  rw [List.getElem?_map, Option.map_eq_some_iff] at h
  obtain ⟨k, hk, rfl⟩ := h
  refine ⟨(List.getElem?_eq_some_iff.1 hk).1, ?_, ?_⟩
  · simp [hk]
  · have := List.mem_of_getElem? hk
    rw [List.getD_eq_getElem?_getD, hk]; exact mem_uq.1 this
theorem cVs_at {l : List Int} {j : Nat} {x : AV} (h : (cVs l)[j]? = some x) : x = .int .i64 (cnt l ((uq l).getD j 0)) := by
  unfold cVs at h
  rw [List.getElem?_map, Option.map_eq_some_iff] at h
  obtain ⟨k, hk, rfl⟩ := h
  simp [hk]
theorem cKs_len (l : List Int) : (cKs l).length = (uq l).length := by simp [cKs]
theorem seen_all {l : List Int} {seen : List Nat} {b : Int} (hp : ∀ k, k ∈ l → 0 < k) (hs : ∀ j, j ∈ seen → j < (uq l).length) (ha : ∀ j, j < (uq l).length → j ∈ seen) (h : BestL l (seenK l seen) b) : b = bestOf l := by
  refine h.one (fun k => ?_) (bestOf_spec hp)
  unfold seenK
  rw [List.mem_map]
  constructor
  · rintro ⟨j, hj, rfl⟩
    have := hs j hj
    rw [List.getD_eq_getElem?_getD, List.getElem?_eq_getElem this]
    exact List.getElem_mem this
  · intro hk
    obtain ⟨j, hj, e⟩ := List.getElem_of_mem hk
    exact ⟨j, ha j hj, by rw [List.getD_eq_getElem?_getD, List.getElem?_eq_getElem hj]; exact e⟩
theorem seenK_mem {l : List Int} {seen : List Nat} (hs : ∀ j, j ∈ seen → j < (uq l).length) {k : Int} (hk : k ∈ seenK l seen) : k ∈ l := by
  unfold seenK at hk
  obtain ⟨j, hj, rfl⟩ := List.mem_map.1 hk
  have := hs j hj
  rw [List.getD_eq_getElem?_getD, List.getElem?_eq_getElem this]
  exact mem_uq.1 (List.getElem_mem this)
end Go.Fv.K
