/-
  A part of the proof of the claim: walks over the program's functions and the plain laws that these need. No condition of its own.
-/
import Derived.Test.YtpnlkjeedfmhfaaDoorSBlanksCardPart2
import Derived.Test.YtpnlkjeedfmhfaaDoorFvPart7
import Derived.Test.YtpnlkjeedfmhfaaDoorSBlanksCardPart1
namespace Go.Fv.S
open Go Go.Proofs
set_option linter.unusedSimpArgs false
set_option linter.unusedVariables false
set_option maxRecDepth 8000
theorem when_ok (b : Bool) (e : Int) : FnOk Tryd.prog 18 [.bool b, .int .i64 e] (.int .i64 (if b = true then e else 0)) [] := by
  refine FnOk.of_vc Tryd.func18 rfl (by decide) (by simp [Tryd.f18]) [.tmp 4] rfl fun w0 T0 => ?_
  simp only [Tryd.f18, argEnv]
  cases b <;> simp (maxSteps := 1000000) only [go_sem, reduceCtorEq, Nat.reduceLT, Nat.reduceLeDiff, reduceIte, ↓reduceIte, Nat.reduceEqDiff, Nat.reduceAdd, Nat.reduceMul, Nat.reduceSub, Int.reduceLE, Int.reduceLT, Int.reduceNeg, Int.reduceToNat] <;> (refine Ret.auto 0 ?_ rfl ?_ <;> simp only [renL_caps, belowL_caps, mkL_caps, rep_bools, rep_ints, renL_bools, renL_ints, belowL_bools, belowL_ints, mkL_bools, mkL_ints, set_bools, set_ints, rets, rets1, retV, mkRet, tupOf, S.ev, List.map_cons, List.map_nil, envOk, subOk, mkRen, mkEnv, mkRows, mkItem, mkV, mkL, pm, S.get, lk, ren, renL, Fv.below, Fv.belowL, Item.ren, Item.below, List.append_nil, List.nil_append, List.cons_append, and_true, true_and, and_self, eq_self, reduceIte, reduceCtorEq, Nat.reduceEqDiff, Nat.reduceLT, Nat.reduceLeDiff, AV.own.injEq, AV.int.injEq, AV.bool.injEq, AV.str.injEq, AV.ro.injEq, AV.agg.injEq, AV.tup.injEq, List.cons.injEq, Option.some.injEq, Item.row.injEq, Item.box.injEq, RowV.ints.injEq, RowV.bools.injEq, RowV.strs.injEq, RowV.objs.injEq, List.not_mem_nil, false_implies, implies_true, List.mem_cons, forall_eq_or_imp, forall_eq, or_false, Nat.succ_ne_self, ne_eq, not_false_eq_true, or_true, true_or, Bool.and_self, Bool.and_true, decide_true, decide_eq_true_eq, Int.natCast_zero, decide_false, Post])
end Go.Fv.S

namespace Go.Fv.S
open Go Go.Proofs
set_option linter.unusedSimpArgs false
set_option linter.unusedVariables false
set_option maxRecDepth 8000
def sizeErr (w h : Int) : Int := if w < 1 ∨ 4000 < w ∨ h < 1 ∨ 4000 < h then 3 else if 1048576 < w * h then 4 else 0
set_option maxHeartbeats 1000000 in
theorem checkSize_ok (w h : Int) : FnOk Tryd.prog 139 [.int .i64 w, .int .i64 h] (.int .i64 (sizeErr w h)) [] := by
  refine FnOk.of_vc Tryd.func139 rfl (by decide) (by simp [Tryd.f139]) [.tmp 4] rfl fun w0 T0 => ?_
  simp only [Tryd.f139, argEnv]
  simp (maxSteps := 1000000) only [go_sem, reduceCtorEq, Nat.reduceLT, Nat.reduceLeDiff, reduceIte, ↓reduceIte, Nat.reduceEqDiff, Nat.reduceAdd, Nat.reduceMul, Nat.reduceSub, Int.reduceLE, Int.reduceLT, Int.reduceNeg, Int.reduceToNat]
  (repeat' first | (with_reducible refine Asm.intro fun _ => ?_) | ((with_reducible refine Chk.intro ?_ ?_); (· first | omega | (with_reducible refine Chk.intro ?_ ?_ <;> omega) | (simp; done) | (simp; omega))) | ((with_reducible refine LetW.i64 ?_ ?_ ?_); (· omega); (· omega)) | ((with_reducible refine Ite.decide (fun _ => ?_) (fun _ => ?_)) <;> first | (exfalso; omega) | simp (maxSteps := 1000000) only [go_sem, reduceCtorEq, Nat.reduceLT, Nat.reduceLeDiff, reduceIte, ↓reduceIte, Nat.reduceEqDiff, Nat.reduceAdd, Nat.reduceMul, Nat.reduceSub, Int.reduceLE, Int.reduceLT, Int.reduceNeg, Int.reduceToNat]) | ((with_reducible refine Ite.bool (fun _ => ?_) (fun _ => ?_)) <;> simp (maxSteps := 1000000) only [go_sem, reduceCtorEq, Nat.reduceLT, Nat.reduceLeDiff, reduceIte, ↓reduceIte, Nat.reduceEqDiff, Nat.reduceAdd, Nat.reduceMul, Nat.reduceSub, Int.reduceLE, Int.reduceLT, Int.reduceNeg, Int.reduceToNat]) | (with_reducible refine And.intro ?_ ?_))
  · rename_i h1
    refine Ret.auto 0 ?_ rfl ?_ <;> simp only [renL_caps, belowL_caps, mkL_caps, rep_bools, rep_ints, renL_bools, renL_ints, belowL_bools, belowL_ints, mkL_bools, mkL_ints, set_bools, set_ints, rets, rets1, retV, mkRet, tupOf, S.ev, List.map_cons, List.map_nil, envOk, subOk, mkRen, mkEnv, mkRows, mkItem, mkV, mkL, pm, S.get, lk, ren, renL, Fv.below, Fv.belowL, Item.ren, Item.below, List.append_nil, List.nil_append, List.cons_append, and_true, true_and, and_self, eq_self, reduceIte, reduceCtorEq, Nat.reduceEqDiff, Nat.reduceLT, Nat.reduceLeDiff, AV.own.injEq, AV.int.injEq, AV.bool.injEq, AV.str.injEq, AV.ro.injEq, AV.agg.injEq, AV.tup.injEq, List.cons.injEq, Option.some.injEq, Item.row.injEq, Item.box.injEq, RowV.ints.injEq, RowV.bools.injEq, RowV.strs.injEq, RowV.objs.injEq, List.not_mem_nil, false_implies, implies_true, List.mem_cons, forall_eq_or_imp, forall_eq, or_false, Nat.succ_ne_self, ne_eq, not_false_eq_true, or_true, true_or, Bool.and_self, Bool.and_true, decide_true, decide_eq_true_eq, Int.natCast_zero, decide_false, Post, sizeErr]
    rw [if_pos (by omega)]
  · rename_i h1
    have hm1 : 0 ≤ w * h := Int.mul_nonneg (by omega) (by omega)
    have hm2 : w * h ≤ 4000 * 4000 := Int.mul_le_mul (by omega) (by omega) (by omega) (by omega)
    refine LetW.i64 (by omega) (by omega) ?_
    (repeat' first | (with_reducible refine Asm.intro fun _ => ?_) | ((with_reducible refine Chk.intro ?_ ?_); (· first | omega | (with_reducible refine Chk.intro ?_ ?_ <;> omega) | (simp; done) | (simp; omega))) | ((with_reducible refine LetW.i64 ?_ ?_ ?_); (· omega); (· omega)) | ((with_reducible refine Ite.decide (fun _ => ?_) (fun _ => ?_)) <;> first | (exfalso; omega) | simp (maxSteps := 1000000) only [go_sem, reduceCtorEq, Nat.reduceLT, Nat.reduceLeDiff, reduceIte, ↓reduceIte, Nat.reduceEqDiff, Nat.reduceAdd, Nat.reduceMul, Nat.reduceSub, Int.reduceLE, Int.reduceLT, Int.reduceNeg, Int.reduceToNat]) | ((with_reducible refine Ite.bool (fun _ => ?_) (fun _ => ?_)) <;> simp (maxSteps := 1000000) only [go_sem, reduceCtorEq, Nat.reduceLT, Nat.reduceLeDiff, reduceIte, ↓reduceIte, Nat.reduceEqDiff, Nat.reduceAdd, Nat.reduceMul, Nat.reduceSub, Int.reduceLE, Int.reduceLT, Int.reduceNeg, Int.reduceToNat]) | (with_reducible refine And.intro ?_ ?_))
    · refine Ret.auto 0 ?_ rfl ?_ <;> simp only [renL_caps, belowL_caps, mkL_caps, rep_bools, rep_ints, renL_bools, renL_ints, belowL_bools, belowL_ints, mkL_bools, mkL_ints, set_bools, set_ints, rets, rets1, retV, mkRet, tupOf, S.ev, List.map_cons, List.map_nil, envOk, subOk, mkRen, mkEnv, mkRows, mkItem, mkV, mkL, pm, S.get, lk, ren, renL, Fv.below, Fv.belowL, Item.ren, Item.below, List.append_nil, List.nil_append, List.cons_append, and_true, true_and, and_self, eq_self, reduceIte, reduceCtorEq, Nat.reduceEqDiff, Nat.reduceLT, Nat.reduceLeDiff, AV.own.injEq, AV.int.injEq, AV.bool.injEq, AV.str.injEq, AV.ro.injEq, AV.agg.injEq, AV.tup.injEq, List.cons.injEq, Option.some.injEq, Item.row.injEq, Item.box.injEq, RowV.ints.injEq, RowV.bools.injEq, RowV.strs.injEq, RowV.objs.injEq, List.not_mem_nil, false_implies, implies_true, List.mem_cons, forall_eq_or_imp, forall_eq, or_false, Nat.succ_ne_self, ne_eq, not_false_eq_true, or_true, true_or, Bool.and_self, Bool.and_true, decide_true, decide_eq_true_eq, Int.natCast_zero, decide_false, Post, sizeErr]
      rw [if_neg (by omega), if_pos (by omega)]
    · refine Ret.auto 0 ?_ rfl ?_ <;> simp only [renL_caps, belowL_caps, mkL_caps, rep_bools, rep_ints, renL_bools, renL_ints, belowL_bools, belowL_ints, mkL_bools, mkL_ints, set_bools, set_ints, rets, rets1, retV, mkRet, tupOf, S.ev, List.map_cons, List.map_nil, envOk, subOk, mkRen, mkEnv, mkRows, mkItem, mkV, mkL, pm, S.get, lk, ren, renL, Fv.below, Fv.belowL, Item.ren, Item.below, List.append_nil, List.nil_append, List.cons_append, and_true, true_and, and_self, eq_self, reduceIte, reduceCtorEq, Nat.reduceEqDiff, Nat.reduceLT, Nat.reduceLeDiff, AV.own.injEq, AV.int.injEq, AV.bool.injEq, AV.str.injEq, AV.ro.injEq, AV.agg.injEq, AV.tup.injEq, List.cons.injEq, Option.some.injEq, Item.row.injEq, Item.box.injEq, RowV.ints.injEq, RowV.bools.injEq, RowV.strs.injEq, RowV.objs.injEq, List.not_mem_nil, false_implies, implies_true, List.mem_cons, forall_eq_or_imp, forall_eq, or_false, Nat.succ_ne_self, ne_eq, not_false_eq_true, or_true, true_or, Bool.and_self, Bool.and_true, decide_true, decide_eq_true_eq, Int.natCast_zero, decide_false, Post, sizeErr]
      rw [if_neg (by omega), if_neg (by omega)]
def grayErr (w h : Int) (n : Nat) : Int := if sizeErr w h = 0 then (if (n : Int) = w * h then 0 else 2) else sizeErr w h
theorem sizeErr_zero {w h : Int} (e : sizeErr w h = 0) : 1 ≤ w ∧ w ≤ 4000 ∧ 1 ≤ h ∧ h ≤ 4000 ∧ w * h ≤ 1048576 ∧ 1 ≤ w * h := by
  unfold sizeErr at e
  split at e
  · omega
  · split at e
    · omega
    · rename_i h1 h2
      have : 1 * 1 ≤ w * h := Int.mul_le_mul (by omega) (by omega) (by omega) (by omega)
      omega
theorem sizeErr_of {w h : Int} (h1 : 1 ≤ w) (h2 : w ≤ 1000) (h3 : 1 ≤ h) (h4 : h ≤ 1000) : sizeErr w h = 0 := by
  unfold sizeErr
  have hm2 : w * h ≤ 1000 * 1000 := Int.mul_le_mul (by omega) (by omega) (by omega) (by omega)
  rw [if_neg (by omega), if_neg (by omega)]
set_option maxHeartbeats 1000000 in
theorem checkBits_ok (w h : Int) (p : List Bool) : FnOk Tryd.prog 68 [.agg [.int .i64 w, .int .i64 h, .ro (.bools p)]] (.int .i64 (grayErr w h p.length)) [] := by
  refine FnOk.of_vc Tryd.func68 rfl (by decide) (by simp [Tryd.f68]) [.tmp 2] rfl fun w0 T0 => ?_
  simp only [Tryd.f68, argEnv]
  simp (maxSteps := 1000000) only [go_sem, reduceCtorEq, Nat.reduceLT, Nat.reduceLeDiff, reduceIte, ↓reduceIte, Nat.reduceEqDiff, Nat.reduceAdd, Nat.reduceMul, Nat.reduceSub, Int.reduceLE, Int.reduceLT, Int.reduceNeg, Int.reduceToNat]
  (repeat' first | (with_reducible refine Asm.intro fun _ => ?_) | ((with_reducible refine Chk.intro ?_ ?_); (· first | omega | (with_reducible refine Chk.intro ?_ ?_ <;> omega) | (simp; done) | (simp; omega))) | ((with_reducible refine LetW.i64 ?_ ?_ ?_); (· omega); (· omega)) | ((with_reducible refine Ite.decide (fun _ => ?_) (fun _ => ?_)) <;> first | (exfalso; omega) | simp (maxSteps := 1000000) only [go_sem, reduceCtorEq, Nat.reduceLT, Nat.reduceLeDiff, reduceIte, ↓reduceIte, Nat.reduceEqDiff, Nat.reduceAdd, Nat.reduceMul, Nat.reduceSub, Int.reduceLE, Int.reduceLT, Int.reduceNeg, Int.reduceToNat]) | ((with_reducible refine Ite.bool (fun _ => ?_) (fun _ => ?_)) <;> simp (maxSteps := 1000000) only [go_sem, reduceCtorEq, Nat.reduceLT, Nat.reduceLeDiff, reduceIte, ↓reduceIte, Nat.reduceEqDiff, Nat.reduceAdd, Nat.reduceMul, Nat.reduceSub, Int.reduceLE, Int.reduceLT, Int.reduceNeg, Int.reduceToNat]) | (with_reducible refine And.intro ?_ ?_))
  refine VcCall.fr (args' := [.int .i64 w, .int .i64 h]) (FnFr.of_ok (checkSize_ok w h) rfl rfl) (by simp [argOkL, allOk, argOkN]) 0 rfl (by simp [rowsB]) ?_
  simp (maxSteps := 1000000) only [go_sem, reduceCtorEq, Nat.reduceLT, Nat.reduceLeDiff, reduceIte, ↓reduceIte, Nat.reduceEqDiff, Nat.reduceAdd, Nat.reduceMul, Nat.reduceSub, Int.reduceLE, Int.reduceLT, Int.reduceNeg, Int.reduceToNat]
  (repeat' first | (with_reducible refine Asm.intro fun _ => ?_) | ((with_reducible refine Chk.intro ?_ ?_); (· first | omega | (with_reducible refine Chk.intro ?_ ?_ <;> omega) | (simp; done) | (simp; omega))) | ((with_reducible refine LetW.i64 ?_ ?_ ?_); (· omega); (· omega)) | ((with_reducible refine Ite.decide (fun _ => ?_) (fun _ => ?_)) <;> first | (exfalso; omega) | simp (maxSteps := 1000000) only [go_sem, reduceCtorEq, Nat.reduceLT, Nat.reduceLeDiff, reduceIte, ↓reduceIte, Nat.reduceEqDiff, Nat.reduceAdd, Nat.reduceMul, Nat.reduceSub, Int.reduceLE, Int.reduceLT, Int.reduceNeg, Int.reduceToNat]) | ((with_reducible refine Ite.bool (fun _ => ?_) (fun _ => ?_)) <;> simp (maxSteps := 1000000) only [go_sem, reduceCtorEq, Nat.reduceLT, Nat.reduceLeDiff, reduceIte, ↓reduceIte, Nat.reduceEqDiff, Nat.reduceAdd, Nat.reduceMul, Nat.reduceSub, Int.reduceLE, Int.reduceLT, Int.reduceNeg, Int.reduceToNat]) | (with_reducible refine And.intro ?_ ?_))

  · rename_i h1
    refine Ret.auto 0 ?_ rfl ?_ <;> simp only [renL_caps, belowL_caps, mkL_caps, rep_bools, rep_ints, renL_bools, renL_ints, belowL_bools, belowL_ints, mkL_bools, mkL_ints, set_bools, set_ints, rets, rets1, retV, mkRet, tupOf, S.ev, List.map_cons, List.map_nil, envOk, subOk, mkRen, mkEnv, mkRows, mkItem, mkV, mkL, pm, S.get, lk, ren, renL, Fv.below, Fv.belowL, Item.ren, Item.below, List.append_nil, List.nil_append, List.cons_append, and_true, true_and, and_self, eq_self, reduceIte, reduceCtorEq, Nat.reduceEqDiff, Nat.reduceLT, Nat.reduceLeDiff, AV.own.injEq, AV.int.injEq, AV.bool.injEq, AV.str.injEq, AV.ro.injEq, AV.agg.injEq, AV.tup.injEq, List.cons.injEq, Option.some.injEq, Item.row.injEq, Item.box.injEq, RowV.ints.injEq, RowV.bools.injEq, RowV.strs.injEq, RowV.objs.injEq, List.not_mem_nil, false_implies, implies_true, List.mem_cons, forall_eq_or_imp, forall_eq, or_false, Nat.succ_ne_self, ne_eq, not_false_eq_true, or_true, true_or, Bool.and_self, Bool.and_true, decide_true, decide_eq_true_eq, Int.natCast_zero, decide_false, Post, grayErr, h1, reduceIte]
  · have h1 : sizeErr w h = 0 := by omega
    have hs := sizeErr_zero h1
    refine LetW.i64 (by omega) (by omega) ?_
    (repeat' first | (with_reducible refine Asm.intro fun _ => ?_) | ((with_reducible refine Chk.intro ?_ ?_); (· first | omega | (with_reducible refine Chk.intro ?_ ?_ <;> omega) | (simp; done) | (simp; omega))) | ((with_reducible refine LetW.i64 ?_ ?_ ?_); (· omega); (· omega)) | ((with_reducible refine Ite.decide (fun _ => ?_) (fun _ => ?_)) <;> first | (exfalso; omega) | simp (maxSteps := 1000000) only [go_sem, reduceCtorEq, Nat.reduceLT, Nat.reduceLeDiff, reduceIte, ↓reduceIte, Nat.reduceEqDiff, Nat.reduceAdd, Nat.reduceMul, Nat.reduceSub, Int.reduceLE, Int.reduceLT, Int.reduceNeg, Int.reduceToNat]) | ((with_reducible refine Ite.bool (fun _ => ?_) (fun _ => ?_)) <;> simp (maxSteps := 1000000) only [go_sem, reduceCtorEq, Nat.reduceLT, Nat.reduceLeDiff, reduceIte, ↓reduceIte, Nat.reduceEqDiff, Nat.reduceAdd, Nat.reduceMul, Nat.reduceSub, Int.reduceLE, Int.reduceLT, Int.reduceNeg, Int.reduceToNat]) | (with_reducible refine And.intro ?_ ?_))
    · rename_i h2
      refine Ret.auto 0 ?_ rfl ?_ <;> simp only [renL_caps, belowL_caps, mkL_caps, rep_bools, rep_ints, renL_bools, renL_ints, belowL_bools, belowL_ints, mkL_bools, mkL_ints, set_bools, set_ints, rets, rets1, retV, mkRet, tupOf, S.ev, List.map_cons, List.map_nil, envOk, subOk, mkRen, mkEnv, mkRows, mkItem, mkV, mkL, pm, S.get, lk, ren, renL, Fv.below, Fv.belowL, Item.ren, Item.below, List.append_nil, List.nil_append, List.cons_append, and_true, true_and, and_self, eq_self, reduceIte, reduceCtorEq, Nat.reduceEqDiff, Nat.reduceLT, Nat.reduceLeDiff, AV.own.injEq, AV.int.injEq, AV.bool.injEq, AV.str.injEq, AV.ro.injEq, AV.agg.injEq, AV.tup.injEq, List.cons.injEq, Option.some.injEq, Item.row.injEq, Item.box.injEq, RowV.ints.injEq, RowV.bools.injEq, RowV.strs.injEq, RowV.objs.injEq, List.not_mem_nil, false_implies, implies_true, List.mem_cons, forall_eq_or_imp, forall_eq, or_false, Nat.succ_ne_self, ne_eq, not_false_eq_true, or_true, true_or, Bool.and_self, Bool.and_true, decide_true, decide_eq_true_eq, Int.natCast_zero, decide_false, Post, grayErr, h1, h2, reduceIte]
    · rename_i h2
      refine Ret.auto 0 ?_ rfl ?_ <;> simp only [renL_caps, belowL_caps, mkL_caps, rep_bools, rep_ints, renL_bools, renL_ints, belowL_bools, belowL_ints, mkL_bools, mkL_ints, set_bools, set_ints, rets, rets1, retV, mkRet, tupOf, S.ev, List.map_cons, List.map_nil, envOk, subOk, mkRen, mkEnv, mkRows, mkItem, mkV, mkL, pm, S.get, lk, ren, renL, Fv.below, Fv.belowL, Item.ren, Item.below, List.append_nil, List.nil_append, List.cons_append, and_true, true_and, and_self, eq_self, reduceIte, reduceCtorEq, Nat.reduceEqDiff, Nat.reduceLT, Nat.reduceLeDiff, AV.own.injEq, AV.int.injEq, AV.bool.injEq, AV.str.injEq, AV.ro.injEq, AV.agg.injEq, AV.tup.injEq, List.cons.injEq, Option.some.injEq, Item.row.injEq, Item.box.injEq, RowV.ints.injEq, RowV.bools.injEq, RowV.strs.injEq, RowV.objs.injEq, List.not_mem_nil, false_implies, implies_true, List.mem_cons, forall_eq_or_imp, forall_eq, or_false, Nat.succ_ne_self, ne_eq, not_false_eq_true, or_true, true_or, Bool.and_self, Bool.and_true, decide_true, decide_eq_true_eq, Int.natCast_zero, decide_false, Post, grayErr, h1, reduceIte]
      rw [if_pos (by omega)]
end Go.Fv.S

namespace Go.Fv.S
open Go Go.Proofs
set_option linter.unusedSimpArgs false
set_option linter.unusedVariables false
set_option maxRecDepth 8000

set_option maxHeartbeats 2000000 in
theorem sumsOf_ok (w h : Nat) (hw : w ≤ 4000) (hh : h ≤ 4000) (f : Nat) (caps : List AV) [CapsOk caps] (v : Nat → Int) (hv : ∀ i, 0 ≤ v i ∧ v i ≤ 255) (hq : ∀ i : Nat, i < w * h → FnFr Tryd.prog f ([.int .i64 i] ++ caps) (.int .i64 (v i)) []) :
    FnOk Tryd.prog 145 [.int .i64 w, .int .i64 h, .fn f caps] (.ptr 0 0) [(0, .box 185 [.int .i64 w, .int .i64 h, .own 1]), (1, .row 3 (.ints .i64 (sumsAt v w ((w + 1) * (h + 1)) ((w + 1) * (h + 1)))))] := by
  have hc : ((w : Int) + 1) * ((h : Int) + 1) = (((w + 1) * (h + 1) : Nat) : Int) := (Int.natCast_mul _ _).symm
  have hlast : ∀ y : Nat, y < h → (y + 2) * (w + 1) ≤ (w + 1) * (h + 1) := fun y hy => by rw [Nat.mul_comm]; exact Nat.mul_le_mul_left _ (by omega)
  have hb : (w + 1) * (h + 1) ≤ 4001 * 4001 := Nat.mul_le_mul (by omega) (by omega)
  generalize hn : (w + 1) * (h + 1) = n at hc hb hlast ⊢
  refine FnOk.of_vc Tryd.func145 rfl (by decide) (by simp [Tryd.f145]) [.tmp 6] rfl fun w0 T0 => ?_
  simp only [Tryd.f145, argEnv]
  simp (maxSteps := 1000000) only [go_sem, reduceCtorEq, Nat.reduceLT, Nat.reduceLeDiff, reduceIte, ↓reduceIte, Nat.reduceEqDiff, Nat.reduceAdd, Nat.reduceMul, Nat.reduceSub, Int.reduceLE, Int.reduceLT, Int.reduceNeg, Int.reduceToNat]
  (repeat' first | (with_reducible refine Asm.intro fun _ => ?_) | ((with_reducible refine Chk.intro ?_ ?_); (· first | omega | (with_reducible refine Chk.intro ?_ ?_ <;> omega) | (simp; done) | (simp; omega))) | ((with_reducible refine LetW.i64 ?_ ?_ ?_); (· omega); (· omega)) | ((with_reducible refine Ite.decide (fun _ => ?_) (fun _ => ?_)) <;> first | (exfalso; omega) | simp (maxSteps := 1000000) only [go_sem, reduceCtorEq, Nat.reduceLT, Nat.reduceLeDiff, reduceIte, ↓reduceIte, Nat.reduceEqDiff, Nat.reduceAdd, Nat.reduceMul, Nat.reduceSub, Int.reduceLE, Int.reduceLT, Int.reduceNeg, Int.reduceToNat]) | ((with_reducible refine Ite.bool (fun _ => ?_) (fun _ => ?_)) <;> simp (maxSteps := 1000000) only [go_sem, reduceCtorEq, Nat.reduceLT, Nat.reduceLeDiff, reduceIte, ↓reduceIte, Nat.reduceEqDiff, Nat.reduceAdd, Nat.reduceMul, Nat.reduceSub, Int.reduceLE, Int.reduceLT, Int.reduceNeg, Int.reduceToNat]) | (with_reducible refine And.intro ?_ ?_))
  rw [hc]
  (repeat' first | (with_reducible refine Asm.intro fun _ => ?_) | ((with_reducible refine Chk.intro ?_ ?_); (· first | omega | (with_reducible refine Chk.intro ?_ ?_ <;> omega) | (simp; done) | (simp; omega))) | ((with_reducible refine LetW.i64 ?_ ?_ ?_); (· omega); (· omega)) | ((with_reducible refine Ite.decide (fun _ => ?_) (fun _ => ?_)) <;> first | (exfalso; omega) | simp (maxSteps := 1000000) only [go_sem, reduceCtorEq, Nat.reduceLT, Nat.reduceLeDiff, reduceIte, ↓reduceIte, Nat.reduceEqDiff, Nat.reduceAdd, Nat.reduceMul, Nat.reduceSub, Int.reduceLE, Int.reduceLT, Int.reduceNeg, Int.reduceToNat]) | ((with_reducible refine Ite.bool (fun _ => ?_) (fun _ => ?_)) <;> simp (maxSteps := 1000000) only [go_sem, reduceCtorEq, Nat.reduceLT, Nat.reduceLeDiff, reduceIte, ↓reduceIte, Nat.reduceEqDiff, Nat.reduceAdd, Nat.reduceMul, Nat.reduceSub, Int.reduceLE, Int.reduceLT, Int.reduceNeg, Int.reduceToNat]) | (with_reducible refine And.intro ?_ ?_))
  refine VcLoop.intro (fun y : Nat => ⟨69, [(22, .int .i64 y), (21, .int .i64 h), (7, .ptr 1 0), (0, .int .i64 w), (1, .int .i64 h), (2, .fn f caps)], [(1, .box 185 [.int .i64 w, .int .i64 h, .own 0]), (0, .row 3 (.ints .i64 (sumsAt v w n ((y + 1) * (w + 1)))))], 2⟩) (fun y => y ≤ h) (fun y => h - y) 0 ?_ (Nat.zero_le _) fun y hy => ?_
  · have e := sumsAt_first (v := v) (w := w) (n := n) (w + 1) (Nat.le_refl _) (by rw [← hn]; exact Nat.le_mul_of_pos_right _ (by omega))
    refine Ent.auto0 rfl ?_ ?_ <;> simp only [renL_caps, belowL_caps, mkL_caps, rep_bools, rep_ints, renL_bools, renL_ints, belowL_bools, belowL_ints, mkL_bools, mkL_ints, set_bools, set_ints, rets, rets1, retV, mkRet, tupOf, S.ev, List.map_cons, List.map_nil, envOk, subOk, mkRen, mkEnv, mkRows, mkItem, mkV, mkL, pm, S.get, lk, ren, renL, Fv.below, Fv.belowL, Item.ren, Item.below, List.append_nil, List.nil_append, List.cons_append, and_true, true_and, and_self, eq_self, reduceIte, reduceCtorEq, Nat.reduceEqDiff, Nat.reduceLT, Nat.reduceLeDiff, AV.own.injEq, AV.int.injEq, AV.bool.injEq, AV.str.injEq, AV.ro.injEq, AV.agg.injEq, AV.tup.injEq, List.cons.injEq, Option.some.injEq, Item.row.injEq, Item.box.injEq, RowV.ints.injEq, RowV.bools.injEq, RowV.strs.injEq, RowV.objs.injEq, List.not_mem_nil, false_implies, implies_true, List.mem_cons, forall_eq_or_imp, forall_eq, or_false, Nat.succ_ne_self, ne_eq, not_false_eq_true, or_true, true_or, Bool.and_self, Bool.and_true, decide_true, decide_eq_true_eq, Int.natCast_zero, decide_false, Nat.zero_add, Nat.one_mul, ← e, Int.toNat_natCast]
    simp [sumsAt]
  simp (maxSteps := 1000000) only [go_sem, reduceCtorEq, Nat.reduceLT, Nat.reduceLeDiff, reduceIte, ↓reduceIte, Nat.reduceEqDiff, Nat.reduceAdd, Nat.reduceMul, Nat.reduceSub, Int.reduceLE, Int.reduceLT, Int.reduceNeg, Int.reduceToNat]
  (repeat' first | (with_reducible refine Asm.intro fun _ => ?_) | ((with_reducible refine Chk.intro ?_ ?_); (· first | omega | (with_reducible refine Chk.intro ?_ ?_ <;> omega) | (simp; done) | (simp; omega))) | ((with_reducible refine LetW.i64 ?_ ?_ ?_); (· omega); (· omega)) | ((with_reducible refine Ite.decide (fun _ => ?_) (fun _ => ?_)) <;> first | (exfalso; omega) | simp (maxSteps := 1000000) only [go_sem, reduceCtorEq, Nat.reduceLT, Nat.reduceLeDiff, reduceIte, ↓reduceIte, Nat.reduceEqDiff, Nat.reduceAdd, Nat.reduceMul, Nat.reduceSub, Int.reduceLE, Int.reduceLT, Int.reduceNeg, Int.reduceToNat]) | ((with_reducible refine Ite.bool (fun _ => ?_) (fun _ => ?_)) <;> simp (maxSteps := 1000000) only [go_sem, reduceCtorEq, Nat.reduceLT, Nat.reduceLeDiff, reduceIte, ↓reduceIte, Nat.reduceEqDiff, Nat.reduceAdd, Nat.reduceMul, Nat.reduceSub, Int.reduceLE, Int.reduceLT, Int.reduceNeg, Int.reduceToNat]) | (with_reducible refine And.intro ?_ ?_))
  · have hl := hlast y (by omega)
    have e2 : (y + 2) * (w + 1) = (y + 1) * (w + 1) + (w + 1) := by rw [← Nat.succ_mul]
    have z := tabAt_mk v (w := w) (x := 0) (y := y + 1) (by omega)
    rw [tab_zero, Nat.add_zero] at z
    have e := sumsAt_zero (v := v) (w := w) (n := n) (m := (y + 1) * (w + 1)) (by omega) z
    refine VcLoop.intro (fun x : Nat => ⟨69, [(26, .int .i64 x), (25, .int .i64 w), (9, .int .i64 (sumTo (fun i => v (y * w + i)) x)), (8, .int .i64 y), (22, .int .i64 y), (21, .int .i64 h), (7, .ptr 1 0), (0, .int .i64 w), (1, .int .i64 h), (2, .fn f caps)], [(1, .box 185 [.int .i64 w, .int .i64 h, .own 0]), (0, .row 3 (.ints .i64 (sumsAt v w n ((y + 1) * (w + 1) + x + 1))))], 2⟩) (fun x => x ≤ w) (fun x => w - x) 0 ?_ (Nat.zero_le _) fun x hx => ?_
    · refine Ent.auto0 rfl ?_ ?_ <;> simp only [renL_caps, belowL_caps, mkL_caps, rep_bools, rep_ints, renL_bools, renL_ints, belowL_bools, belowL_ints, mkL_bools, mkL_ints, set_bools, set_ints, rets, rets1, retV, mkRet, tupOf, S.ev, List.map_cons, List.map_nil, envOk, subOk, mkRen, mkEnv, mkRows, mkItem, mkV, mkL, pm, S.get, lk, ren, renL, Fv.below, Fv.belowL, Item.ren, Item.below, List.append_nil, List.nil_append, List.cons_append, and_true, true_and, and_self, eq_self, reduceIte, reduceCtorEq, Nat.reduceEqDiff, Nat.reduceLT, Nat.reduceLeDiff, AV.own.injEq, AV.int.injEq, AV.bool.injEq, AV.str.injEq, AV.ro.injEq, AV.agg.injEq, AV.tup.injEq, List.cons.injEq, Option.some.injEq, Item.row.injEq, Item.box.injEq, RowV.ints.injEq, RowV.bools.injEq, RowV.strs.injEq, RowV.objs.injEq, List.not_mem_nil, false_implies, implies_true, List.mem_cons, forall_eq_or_imp, forall_eq, or_false, Nat.succ_ne_self, ne_eq, not_false_eq_true, or_true, true_or, Bool.and_self, Bool.and_true, decide_true, decide_eq_true_eq, Int.natCast_zero, decide_false, Nat.add_zero, ← e]
      rfl
    simp (maxSteps := 1000000) only [go_sem, reduceCtorEq, Nat.reduceLT, Nat.reduceLeDiff, reduceIte, ↓reduceIte, Nat.reduceEqDiff, Nat.reduceAdd, Nat.reduceMul, Nat.reduceSub, Int.reduceLE, Int.reduceLT, Int.reduceNeg, Int.reduceToNat]
    (repeat' first | (with_reducible refine Asm.intro fun _ => ?_) | ((with_reducible refine Chk.intro ?_ ?_); (· first | omega | (with_reducible refine Chk.intro ?_ ?_ <;> omega) | (simp; done) | (simp; omega))) | ((with_reducible refine LetW.i64 ?_ ?_ ?_); (· omega); (· omega)) | ((with_reducible refine Ite.decide (fun _ => ?_) (fun _ => ?_)) <;> first | (exfalso; omega) | simp (maxSteps := 1000000) only [go_sem, reduceCtorEq, Nat.reduceLT, Nat.reduceLeDiff, reduceIte, ↓reduceIte, Nat.reduceEqDiff, Nat.reduceAdd, Nat.reduceMul, Nat.reduceSub, Int.reduceLE, Int.reduceLT, Int.reduceNeg, Int.reduceToNat]) | ((with_reducible refine Ite.bool (fun _ => ?_) (fun _ => ?_)) <;> simp (maxSteps := 1000000) only [go_sem, reduceCtorEq, Nat.reduceLT, Nat.reduceLeDiff, reduceIte, ↓reduceIte, Nat.reduceEqDiff, Nat.reduceAdd, Nat.reduceMul, Nat.reduceSub, Int.reduceLE, Int.reduceLT, Int.reduceNeg, Int.reduceToNat]) | (with_reducible refine And.intro ?_ ?_))
    · have hyw : y * w ≤ 4000 * 4000 := Nat.mul_le_mul (by omega) hw
      have hin : y * w + x < w * h := by
        have : y * w + w ≤ h * w := by rw [← Nat.succ_mul]; exact Nat.mul_le_mul_right _ (by omega)
        rw [Nat.mul_comm w h]; omega
      have hs := sumTo_bd (f := fun i => v (y * w + i)) (c := 255) (fun i => hv _) x
      have hvi := hv (y * w + x)
      simp (maxSteps := 1000000) only [go_sem, reduceCtorEq, Nat.reduceLT, Nat.reduceLeDiff, reduceIte, ↓reduceIte, Nat.reduceEqDiff, Nat.reduceAdd, Nat.reduceMul, Nat.reduceSub, Int.reduceLE, Int.reduceLT, Int.reduceNeg, Int.reduceToNat, up_add, up_mul]
      (repeat' first | (with_reducible refine Asm.intro fun _ => ?_) | ((with_reducible refine Chk.intro ?_ ?_); (· first | omega | (with_reducible refine Chk.intro ?_ ?_ <;> omega) | (simp; done) | (simp; omega))) | ((with_reducible refine LetW.i64 ?_ ?_ ?_); (· omega); (· omega)) | ((with_reducible refine Ite.decide (fun _ => ?_) (fun _ => ?_)) <;> first | (exfalso; omega) | simp (maxSteps := 1000000) only [go_sem, reduceCtorEq, Nat.reduceLT, Nat.reduceLeDiff, reduceIte, ↓reduceIte, Nat.reduceEqDiff, Nat.reduceAdd, Nat.reduceMul, Nat.reduceSub, Int.reduceLE, Int.reduceLT, Int.reduceNeg, Int.reduceToNat]) | ((with_reducible refine Ite.bool (fun _ => ?_) (fun _ => ?_)) <;> simp (maxSteps := 1000000) only [go_sem, reduceCtorEq, Nat.reduceLT, Nat.reduceLeDiff, reduceIte, ↓reduceIte, Nat.reduceEqDiff, Nat.reduceAdd, Nat.reduceMul, Nat.reduceSub, Int.reduceLE, Int.reduceLT, Int.reduceNeg, Int.reduceToNat]) | (with_reducible refine And.intro ?_ ?_))
      refine VcCall.fr (args' := [.int .i64 ((y * w + x : Nat) : Int)] ++ caps) (hq (y * w + x) hin) (by simp [argOkL, allOk, argOkN, allOk_caps]) 0 rfl (by simp [rowsB]) ?_
      simp (maxSteps := 1000000) only [go_sem, reduceCtorEq, Nat.reduceLT, Nat.reduceLeDiff, reduceIte, ↓reduceIte, Nat.reduceEqDiff, Nat.reduceAdd, Nat.reduceMul, Nat.reduceSub, Int.reduceLE, Int.reduceLT, Int.reduceNeg, Int.reduceToNat]
      (repeat' first | (with_reducible refine Asm.intro fun _ => ?_) | ((with_reducible refine Chk.intro ?_ ?_); (· first | omega | (with_reducible refine Chk.intro ?_ ?_ <;> omega) | (simp; done) | (simp; omega))) | ((with_reducible refine LetW.i64 ?_ ?_ ?_); (· omega); (· omega)) | ((with_reducible refine Ite.decide (fun _ => ?_) (fun _ => ?_)) <;> first | (exfalso; omega) | simp (maxSteps := 1000000) only [go_sem, reduceCtorEq, Nat.reduceLT, Nat.reduceLeDiff, reduceIte, ↓reduceIte, Nat.reduceEqDiff, Nat.reduceAdd, Nat.reduceMul, Nat.reduceSub, Int.reduceLE, Int.reduceLT, Int.reduceNeg, Int.reduceToNat]) | ((with_reducible refine Ite.bool (fun _ => ?_) (fun _ => ?_)) <;> simp (maxSteps := 1000000) only [go_sem, reduceCtorEq, Nat.reduceLT, Nat.reduceLeDiff, reduceIte, ↓reduceIte, Nat.reduceEqDiff, Nat.reduceAdd, Nat.reduceMul, Nat.reduceSub, Int.reduceLE, Int.reduceLT, Int.reduceNeg, Int.reduceToNat]) | (with_reducible refine And.intro ?_ ?_))
      refine VcDraw.lex [28] [] (by kernel_rfl) (by kernel_rfl) ?_
      (repeat' first | (with_reducible refine Asm.intro fun _ => ?_) | ((with_reducible refine Chk.intro ?_ ?_); (· first | omega | (with_reducible refine Chk.intro ?_ ?_ <;> omega) | (simp; done) | (simp; omega))) | ((with_reducible refine LetW.i64 ?_ ?_ ?_); (· omega); (· omega)) | ((with_reducible refine Ite.decide (fun _ => ?_) (fun _ => ?_)) <;> first | (exfalso; omega) | skip) | (with_reducible refine Ite.bool (fun _ => ?_) (fun _ => ?_)) | (with_reducible refine And.intro ?_ ?_) | omega | simp (maxSteps := 1000000) only [go_sem, reduceCtorEq, Nat.reduceLT, Nat.reduceLeDiff, reduceIte, ↓reduceIte, Nat.reduceEqDiff, Nat.reduceAdd, Nat.reduceMul, Nat.reduceSub, Int.reduceLE, Int.reduceLT, Int.reduceNeg, Int.reduceToNat])
      have hA : (y + 1) * (w + 1) + x + 1 < n := by omega
      have e4 : (y + 1) * (w + 1) = y * (w + 1) + (w + 1) := Nat.succ_mul _ _
      have hB : y * (w + 1) + x + 1 < (y + 1) * (w + 1) + x + 1 := by omega
      have hlen := sumsAt_len (v := v) (w := w) (n := n) (m := (y + 1) * (w + 1) + x + 1) (by omega)
      have hget := sumsAt_get (v := v) (w := w) (n := n) hB
      rw [show y * (w + 1) + x + 1 = y * (w + 1) + (x + 1) from rfl, tabAt_mk v (by omega)] at hget
      have htb := tab_bd hv (w := w) (x := x + 1) (y := y) (by omega) (by omega)
      have hset := sumsAt_set (v := v) (w := w) (n := n) hA
      rw [show (y + 1) * (w + 1) + x + 1 = (y + 1) * (w + 1) + (x + 1) from rfl, tabAt_mk v (by omega), tab_succ] at hset
      simp only [up_add, up_one, up_mul, Int.toNat_natCast, hlen, hget, show y * (w + 1) + x + 1 = y * (w + 1) + (x + 1) from rfl]
      (repeat' first | (with_reducible refine Asm.intro fun _ => ?_) | ((with_reducible refine Chk.intro ?_ ?_); (· first | omega | (with_reducible refine Chk.intro ?_ ?_ <;> omega) | (simp; done) | (simp; omega))) | ((with_reducible refine LetW.i64 ?_ ?_ ?_); (· omega); (· omega)) | ((with_reducible refine Ite.decide (fun _ => ?_) (fun _ => ?_)) <;> first | (exfalso; omega) | simp (maxSteps := 1000000) only [go_sem, reduceCtorEq, Nat.reduceLT, Nat.reduceLeDiff, reduceIte, ↓reduceIte, Nat.reduceEqDiff, Nat.reduceAdd, Nat.reduceMul, Nat.reduceSub, Int.reduceLE, Int.reduceLT, Int.reduceNeg, Int.reduceToNat]) | ((with_reducible refine Ite.bool (fun _ => ?_) (fun _ => ?_)) <;> simp (maxSteps := 1000000) only [go_sem, reduceCtorEq, Nat.reduceLT, Nat.reduceLeDiff, reduceIte, ↓reduceIte, Nat.reduceEqDiff, Nat.reduceAdd, Nat.reduceMul, Nat.reduceSub, Int.reduceLE, Int.reduceLT, Int.reduceNeg, Int.reduceToNat]) | (with_reducible refine And.intro ?_ ?_))
      refine ⟨x + 1, Ent.auto0 rfl ?_ ?_, by omega, by omega⟩ <;> simp only [renL_caps, belowL_caps, mkL_caps, rep_bools, rep_ints, renL_bools, renL_ints, belowL_bools, belowL_ints, mkL_bools, mkL_ints, set_bools, set_ints, rets, rets1, retV, mkRet, tupOf, S.ev, List.map_cons, List.map_nil, envOk, subOk, mkRen, mkEnv, mkRows, mkItem, mkV, mkL, pm, S.get, lk, ren, renL, Fv.below, Fv.belowL, Item.ren, Item.below, List.append_nil, List.nil_append, List.cons_append, and_true, true_and, and_self, eq_self, reduceIte, reduceCtorEq, Nat.reduceEqDiff, Nat.reduceLT, Nat.reduceLeDiff, AV.own.injEq, AV.int.injEq, AV.bool.injEq, AV.str.injEq, AV.ro.injEq, AV.agg.injEq, AV.tup.injEq, List.cons.injEq, Option.some.injEq, Item.row.injEq, Item.box.injEq, RowV.ints.injEq, RowV.bools.injEq, RowV.strs.injEq, RowV.objs.injEq, List.not_mem_nil, false_implies, implies_true, List.mem_cons, forall_eq_or_imp, forall_eq, or_false, Nat.succ_ne_self, ne_eq, not_false_eq_true, or_true, true_or, Bool.and_self, Bool.and_true, decide_true, decide_eq_true_eq, Int.natCast_zero, decide_false]
      · rfl
      · exact hset
    · refine ⟨y + 1, Ent.auto0 rfl ?_ ?_, by omega, by omega⟩ <;> simp only [renL_caps, belowL_caps, mkL_caps, rep_bools, rep_ints, renL_bools, renL_ints, belowL_bools, belowL_ints, mkL_bools, mkL_ints, set_bools, set_ints, rets, rets1, retV, mkRet, tupOf, S.ev, List.map_cons, List.map_nil, envOk, subOk, mkRen, mkEnv, mkRows, mkItem, mkV, mkL, pm, S.get, lk, ren, renL, Fv.below, Fv.belowL, Item.ren, Item.below, List.append_nil, List.nil_append, List.cons_append, and_true, true_and, and_self, eq_self, reduceIte, reduceCtorEq, Nat.reduceEqDiff, Nat.reduceLT, Nat.reduceLeDiff, AV.own.injEq, AV.int.injEq, AV.bool.injEq, AV.str.injEq, AV.ro.injEq, AV.agg.injEq, AV.tup.injEq, List.cons.injEq, Option.some.injEq, Item.row.injEq, Item.box.injEq, RowV.ints.injEq, RowV.bools.injEq, RowV.strs.injEq, RowV.objs.injEq, List.not_mem_nil, false_implies, implies_true, List.mem_cons, forall_eq_or_imp, forall_eq, or_false, Nat.succ_ne_self, ne_eq, not_false_eq_true, or_true, true_or, Bool.and_self, Bool.and_true, decide_true, decide_eq_true_eq, Int.natCast_zero, decide_false]
      · rfl
      · have e3 : x = w := by omega
        rw [e3, show y + 1 + 1 = y + 2 from rfl, e2]; rfl
  · have e : y = h := by omega
    subst e
    rw [Nat.mul_comm] at hn
    refine Ret.auto 2 ?_ rfl ?_ <;> simp only [renL_caps, belowL_caps, mkL_caps, rep_bools, rep_ints, renL_bools, renL_ints, belowL_bools, belowL_ints, mkL_bools, mkL_ints, set_bools, set_ints, rets, rets1, retV, mkRet, tupOf, S.ev, List.map_cons, List.map_nil, envOk, subOk, mkRen, mkEnv, mkRows, mkItem, mkV, mkL, pm, S.get, lk, ren, renL, Fv.below, Fv.belowL, Item.ren, Item.below, List.append_nil, List.nil_append, List.cons_append, and_true, true_and, and_self, eq_self, reduceIte, reduceCtorEq, Nat.reduceEqDiff, Nat.reduceLT, Nat.reduceLeDiff, AV.own.injEq, AV.int.injEq, AV.bool.injEq, AV.str.injEq, AV.ro.injEq, AV.agg.injEq, AV.tup.injEq, List.cons.injEq, Option.some.injEq, Item.row.injEq, Item.box.injEq, RowV.ints.injEq, RowV.bools.injEq, RowV.strs.injEq, RowV.objs.injEq, List.not_mem_nil, false_implies, implies_true, List.mem_cons, forall_eq_or_imp, forall_eq, or_false, Nat.succ_ne_self, ne_eq, not_false_eq_true, or_true, true_or, Bool.and_self, Bool.and_true, decide_true, decide_eq_true_eq, Int.natCast_zero, decide_false, Post, hn]
end Go.Fv.S

namespace Go.Fv.S
open Go Go.Proofs
set_option linter.unusedSimpArgs false
set_option linter.unusedVariables false
set_option maxRecDepth 8000
theorem place_le {w h x y : Nat} (hx : x ≤ w) (hy : y ≤ h) : y * (w + 1) + x < (w + 1) * (h + 1) := by
  have : y * (w + 1) + (w + 1) ≤ (h + 1) * (w + 1) := by rw [← Nat.succ_mul]; exact Nat.mul_le_mul_right _ (by omega)
  rw [Nat.mul_comm (w + 1)]; omega

set_option maxHeartbeats 2000000 in
theorem in_ok (w h : Nat) (hw : w ≤ 4000) (hh : h ≤ 4000) (v : Nat → Int) (hv : ∀ i, 0 ≤ v i ∧ v i ≤ 255) (X Y W H : Nat) (hX : X + W ≤ w) (hY : Y + H ≤ h) :
    FnOk Tryd.prog 81 [.cell [.int .i64 w, .int .i64 h, .ro (.ints .i64 (sumsAt v w ((w + 1) * (h + 1)) ((w + 1) * (h + 1))))], .agg [.int .i64 X, .int .i64 Y, .int .i64 W, .int .i64 H]] (.int .i64 (rect v w X (X + W) Y (Y + H))) [] := by
  have p1 := place_le (w := w) (h := h) (x := X + W) (y := Y + H) hX hY
  have p2 := place_le (w := w) (h := h) (x := X + W) (y := Y) hX (by omega)
  have p3 := place_le (w := w) (h := h) (x := X) (y := Y + H) (by omega) hY
  have p4 := place_le (w := w) (h := h) (x := X) (y := Y) (by omega) (by omega)
  have hb : (w + 1) * (h + 1) ≤ 4001 * 4001 := Nat.mul_le_mul (by omega) (by omega)
  generalize (w + 1) * (h + 1) = n at p1 p2 p3 p4 hb ⊢
  refine FnOk.of_vc Tryd.func81 rfl (by decide) (by simp [Tryd.f81]) [.tmp 4] rfl fun w0 T0 => ?_
  simp only [Tryd.f81, argEnv]
  (repeat' first | (with_reducible refine Asm.intro fun _ => ?_) | ((with_reducible refine Chk.intro ?_ ?_); (· first | omega | (with_reducible refine Chk.intro ?_ ?_ <;> omega) | (simp; done) | (simp; omega))) | ((with_reducible refine LetW.i64 ?_ ?_ ?_); (· omega); (· omega)) | ((with_reducible refine Ite.decide (fun _ => ?_) (fun _ => ?_)) <;> first | (exfalso; omega) | skip) | (with_reducible refine Ite.bool (fun _ => ?_) (fun _ => ?_)) | (with_reducible refine And.intro ?_ ?_) | omega | simp (maxSteps := 1000000) only [go_sem, reduceCtorEq, Nat.reduceLT, Nat.reduceLeDiff, reduceIte, ↓reduceIte, Nat.reduceEqDiff, Nat.reduceAdd, Nat.reduceMul, Nat.reduceSub, Int.reduceLE, Int.reduceLT, Int.reduceNeg, Int.reduceToNat])
  refine VcDraw.lex [] [] (by kernel_rfl) (by kernel_rfl) ?_
  (repeat' first | (with_reducible refine Asm.intro fun _ => ?_) | ((with_reducible refine Chk.intro ?_ ?_); (· first | omega | (with_reducible refine Chk.intro ?_ ?_ <;> omega) | (simp; done) | (simp; omega))) | ((with_reducible refine LetW.i64 ?_ ?_ ?_); (· omega); (· omega)) | ((with_reducible refine Ite.decide (fun _ => ?_) (fun _ => ?_)) <;> first | (exfalso; omega) | skip) | (with_reducible refine Ite.bool (fun _ => ?_) (fun _ => ?_)) | (with_reducible refine And.intro ?_ ?_) | omega | simp (maxSteps := 1000000) only [go_sem, reduceCtorEq, Nat.reduceLT, Nat.reduceLeDiff, reduceIte, ↓reduceIte, Nat.reduceEqDiff, Nat.reduceAdd, Nat.reduceMul, Nat.reduceSub, Int.reduceLE, Int.reduceLT, Int.reduceNeg, Int.reduceToNat])
  simp only [up_add, up_one]
  refine VcDraw.lex [] [] (by kernel_rfl) (by kernel_rfl) ?_
  (repeat' first | (with_reducible refine Asm.intro fun _ => ?_) | ((with_reducible refine Chk.intro ?_ ?_); (· first | omega | (with_reducible refine Chk.intro ?_ ?_ <;> omega) | (simp; done) | (simp; omega))) | ((with_reducible refine LetW.i64 ?_ ?_ ?_); (· omega); (· omega)) | ((with_reducible refine Ite.decide (fun _ => ?_) (fun _ => ?_)) <;> first | (exfalso; omega) | skip) | (with_reducible refine Ite.bool (fun _ => ?_) (fun _ => ?_)) | (with_reducible refine And.intro ?_ ?_) | omega | simp (maxSteps := 1000000) only [go_sem, reduceCtorEq, Nat.reduceLT, Nat.reduceLeDiff, reduceIte, ↓reduceIte, Nat.reduceEqDiff, Nat.reduceAdd, Nat.reduceMul, Nat.reduceSub, Int.reduceLE, Int.reduceLT, Int.reduceNeg, Int.reduceToNat])
  have hlen := sumsAt_len (v := v) (w := w) (n := n) (m := n) (Nat.le_refl _)
  have g1 := sumsAt_get (v := v) (w := w) (n := n) p1
  have g2 := sumsAt_get (v := v) (w := w) (n := n) p2
  have g3 := sumsAt_get (v := v) (w := w) (n := n) p3
  have g4 := sumsAt_get (v := v) (w := w) (n := n) p4
  rw [tabAt_mk v (by omega)] at g1 g2 g3 g4
  have b1 := tab_bd hv (w := w) (x := X + W) (y := Y + H) (by omega) (by omega)
  have b2 := tab_bd hv (w := w) (x := X + W) (y := Y) (by omega) (by omega)
  have b3 := tab_bd hv (w := w) (x := X) (y := Y + H) (by omega) (by omega)
  have b4 := tab_bd hv (w := w) (x := X) (y := Y) (by omega) (by omega)
  simp only [up_add, up_one, up_mul, Int.toNat_natCast, hlen, g1, g2, g3, g4]
  (repeat' first | (with_reducible refine Asm.intro fun _ => ?_) | ((with_reducible refine Chk.intro ?_ ?_); (· first | omega | (with_reducible refine Chk.intro ?_ ?_ <;> omega) | (simp; done) | (simp; omega))) | ((with_reducible refine LetW.i64 ?_ ?_ ?_); (· omega); (· omega)) | ((with_reducible refine Ite.decide (fun _ => ?_) (fun _ => ?_)) <;> first | (exfalso; omega) | simp (maxSteps := 1000000) only [go_sem, reduceCtorEq, Nat.reduceLT, Nat.reduceLeDiff, reduceIte, ↓reduceIte, Nat.reduceEqDiff, Nat.reduceAdd, Nat.reduceMul, Nat.reduceSub, Int.reduceLE, Int.reduceLT, Int.reduceNeg, Int.reduceToNat]) | ((with_reducible refine Ite.bool (fun _ => ?_) (fun _ => ?_)) <;> simp (maxSteps := 1000000) only [go_sem, reduceCtorEq, Nat.reduceLT, Nat.reduceLeDiff, reduceIte, ↓reduceIte, Nat.reduceEqDiff, Nat.reduceAdd, Nat.reduceMul, Nat.reduceSub, Int.reduceLE, Int.reduceLT, Int.reduceNeg, Int.reduceToNat]) | (with_reducible refine And.intro ?_ ?_))
  refine Ret.auto 0 ?_ rfl ?_ <;> simp only [renL_caps, belowL_caps, mkL_caps, rep_bools, rep_ints, renL_bools, renL_ints, belowL_bools, belowL_ints, mkL_bools, mkL_ints, set_bools, set_ints, rets, rets1, retV, mkRet, tupOf, S.ev, List.map_cons, List.map_nil, envOk, subOk, mkRen, mkEnv, mkRows, mkItem, mkV, mkL, pm, S.get, lk, ren, renL, Fv.below, Fv.belowL, Item.ren, Item.below, List.append_nil, List.nil_append, List.cons_append, and_true, true_and, and_self, eq_self, reduceIte, reduceCtorEq, Nat.reduceEqDiff, Nat.reduceLT, Nat.reduceLeDiff, AV.own.injEq, AV.int.injEq, AV.bool.injEq, AV.str.injEq, AV.ro.injEq, AV.agg.injEq, AV.tup.injEq, List.cons.injEq, Option.some.injEq, Item.row.injEq, Item.box.injEq, RowV.ints.injEq, RowV.bools.injEq, RowV.strs.injEq, RowV.objs.injEq, List.not_mem_nil, false_implies, implies_true, List.mem_cons, forall_eq_or_imp, forall_eq, or_false, Nat.succ_ne_self, ne_eq, not_false_eq_true, or_true, true_or, Bool.and_self, Bool.and_true, decide_true, decide_eq_true_eq, Int.natCast_zero, decide_false, Post, rect]

end Go.Fv.S

namespace Go.Fv.S
open Go Go.Proofs
set_option linter.unusedSimpArgs false
set_option linter.unusedVariables false
set_option maxRecDepth 8000
/-- The first n values of a page told by places. -/
def rowsOf {α : Type} (w : Nat) (p : Nat → Nat → α) (n : Nat) : List α := (List.range n).map fun k => p (k % w) (k / w)
theorem rowsOf_len {α : Type} (w : Nat) (p : Nat → Nat → α) (n : Nat) : (rowsOf w p n).length = n := by simp [rowsOf]
theorem rowsOf_succ {α : Type} {w : Nat} (p : Nat → Nat → α) {x y : Nat} (hx : x < w) : rowsOf w p (y * w + (x + 1)) = rowsOf w p (y * w + x) ++ [p x y] := by
  unfold rowsOf
  rw [← Nat.add_assoc, List.range_succ, List.map_append]
  have e1 : (y * w + x) % w = x := by rw [Nat.mul_comm, Nat.mul_add_mod, Nat.mod_eq_of_lt hx]
  have e2 : (y * w + x) / w = y := by rw [Nat.mul_comm, Nat.mul_add_div (by omega), Nat.div_eq_of_lt hx, Nat.add_zero]
  simp [e1, e2]

set_option maxHeartbeats 1000000 in
theorem made_ok (w h : Nat) (hw : w ≤ 4000) (hh : h ≤ 4000) (f : Nat) (caps : List AV) [CapsOk caps] (p : Nat → Nat → Bool) (hp : ∀ x y : Nat, x < w → y < h → FnFr Tryd.prog f ([.int .i64 x, .int .i64 y] ++ caps) (.bool (p x y)) []) :
    FnOk Tryd.prog 76 [.int .i64 w, .int .i64 h, .fn f caps] (.agg [.int .i64 w, .int .i64 h, .own 0]) [(0, .row 4 (.bools (rowsOf w p (h * w))))] := by
  refine FnOk.of_vc Tryd.func76 rfl (by decide) (by simp [Tryd.f76]) [.cell 6 27] rfl fun w0 T0 => ?_
  simp only [Tryd.f76, argEnv]
  simp (maxSteps := 1000000) only [go_sem, reduceCtorEq, Nat.reduceLT, Nat.reduceLeDiff, reduceIte, ↓reduceIte, Nat.reduceEqDiff, Nat.reduceAdd, Nat.reduceMul, Nat.reduceSub, Int.reduceLE, Int.reduceLT, Int.reduceNeg, Int.reduceToNat]
  (repeat' first | (with_reducible refine Asm.intro fun _ => ?_) | ((with_reducible refine Chk.intro ?_ ?_); (· first | omega | (with_reducible refine Chk.intro ?_ ?_ <;> omega) | (simp; done) | (simp; omega))) | ((with_reducible refine LetW.i64 ?_ ?_ ?_); (· omega); (· omega)) | ((with_reducible refine Ite.decide (fun _ => ?_) (fun _ => ?_)) <;> first | (exfalso; omega) | simp (maxSteps := 1000000) only [go_sem, reduceCtorEq, Nat.reduceLT, Nat.reduceLeDiff, reduceIte, ↓reduceIte, Nat.reduceEqDiff, Nat.reduceAdd, Nat.reduceMul, Nat.reduceSub, Int.reduceLE, Int.reduceLT, Int.reduceNeg, Int.reduceToNat]) | ((with_reducible refine Ite.bool (fun _ => ?_) (fun _ => ?_)) <;> simp (maxSteps := 1000000) only [go_sem, reduceCtorEq, Nat.reduceLT, Nat.reduceLeDiff, reduceIte, ↓reduceIte, Nat.reduceEqDiff, Nat.reduceAdd, Nat.reduceMul, Nat.reduceSub, Int.reduceLE, Int.reduceLT, Int.reduceNeg, Int.reduceToNat]) | (with_reducible refine And.intro ?_ ?_))
  refine VcLoop.intro (fun y : Nat => ⟨33, [(14, .int .i64 y), (13, .int .i64 h), (7, .ptr 1 0), (6, .ptr 0 0), (0, .int .i64 w), (2, .fn f caps)], [(1, .box 27 [.int .i64 w, .int .i64 h, .own 2]), (0, .box 27 [.int .i64 0, .int .i64 0, .nilS]), (2, .row 4 (.bools (rowsOf w p (y * w))))], 3⟩) (fun y => y ≤ h) (fun y => h - y) 0 ?_ (Nat.zero_le _) fun y hy => ?_
  · refine Ent.trans (Ent.nilBox (P := Tryd.prog) 1 2 4 e4 rfl rfl) (Ent.auto0 rfl ?_ ?_) <;> simp only [renL_caps, belowL_caps, mkL_caps, rep_bools, rep_ints, renL_bools, renL_ints, belowL_bools, belowL_ints, mkL_bools, mkL_ints, set_bools, set_ints, rets, rets1, retV, mkRet, tupOf, S.ev, List.map_cons, List.map_nil, envOk, subOk, mkRen, mkEnv, mkRows, mkItem, mkV, mkL, pm, S.get, lk, ren, renL, Fv.below, Fv.belowL, Item.ren, Item.below, List.append_nil, List.nil_append, List.cons_append, and_true, true_and, and_self, eq_self, reduceIte, reduceCtorEq, Nat.reduceEqDiff, Nat.reduceLT, Nat.reduceLeDiff, AV.own.injEq, AV.int.injEq, AV.bool.injEq, AV.str.injEq, AV.ro.injEq, AV.agg.injEq, AV.tup.injEq, List.cons.injEq, Option.some.injEq, Item.row.injEq, Item.box.injEq, RowV.ints.injEq, RowV.bools.injEq, RowV.strs.injEq, RowV.objs.injEq, List.not_mem_nil, false_implies, implies_true, List.mem_cons, forall_eq_or_imp, forall_eq, or_false, Nat.succ_ne_self, ne_eq, not_false_eq_true, or_true, true_or, Bool.and_self, Bool.and_true, decide_true, decide_eq_true_eq, Int.natCast_zero, decide_false, rowsOf, zrow, put, List.set_cons_zero, List.set_cons_succ, Nat.zero_mul, List.range_zero, List.map_nil, List.replicate_zero]
  simp (maxSteps := 1000000) only [go_sem, reduceCtorEq, Nat.reduceLT, Nat.reduceLeDiff, reduceIte, ↓reduceIte, Nat.reduceEqDiff, Nat.reduceAdd, Nat.reduceMul, Nat.reduceSub, Int.reduceLE, Int.reduceLT, Int.reduceNeg, Int.reduceToNat]
  (repeat' first | (with_reducible refine Asm.intro fun _ => ?_) | ((with_reducible refine Chk.intro ?_ ?_); (· first | omega | (with_reducible refine Chk.intro ?_ ?_ <;> omega) | (simp; done) | (simp; omega))) | ((with_reducible refine LetW.i64 ?_ ?_ ?_); (· omega); (· omega)) | ((with_reducible refine Ite.decide (fun _ => ?_) (fun _ => ?_)) <;> first | (exfalso; omega) | simp (maxSteps := 1000000) only [go_sem, reduceCtorEq, Nat.reduceLT, Nat.reduceLeDiff, reduceIte, ↓reduceIte, Nat.reduceEqDiff, Nat.reduceAdd, Nat.reduceMul, Nat.reduceSub, Int.reduceLE, Int.reduceLT, Int.reduceNeg, Int.reduceToNat]) | ((with_reducible refine Ite.bool (fun _ => ?_) (fun _ => ?_)) <;> simp (maxSteps := 1000000) only [go_sem, reduceCtorEq, Nat.reduceLT, Nat.reduceLeDiff, reduceIte, ↓reduceIte, Nat.reduceEqDiff, Nat.reduceAdd, Nat.reduceMul, Nat.reduceSub, Int.reduceLE, Int.reduceLT, Int.reduceNeg, Int.reduceToNat]) | (with_reducible refine And.intro ?_ ?_))
  · refine VcLoop.intro (fun x : Nat => ⟨33, [(18, .int .i64 x), (17, .int .i64 w), (8, .int .i64 y), (14, .int .i64 y), (13, .int .i64 h), (7, .ptr 1 0), (6, .ptr 0 0), (0, .int .i64 w), (2, .fn f caps)], [(1, .box 27 [.int .i64 w, .int .i64 h, .own 2]), (0, .box 27 [.int .i64 0, .int .i64 0, .nilS]), (2, .row 4 (.bools (rowsOf w p (y * w + x))))], 3⟩) (fun x => x ≤ w) (fun x => w - x) 0 ?_ (Nat.zero_le _) fun x hx => ?_
    · refine Ent.auto0 rfl ?_ ?_ <;> simp only [renL_caps, belowL_caps, mkL_caps, rep_bools, rep_ints, renL_bools, renL_ints, belowL_bools, belowL_ints, mkL_bools, mkL_ints, set_bools, set_ints, rets, rets1, retV, mkRet, tupOf, S.ev, List.map_cons, List.map_nil, envOk, subOk, mkRen, mkEnv, mkRows, mkItem, mkV, mkL, pm, S.get, lk, ren, renL, Fv.below, Fv.belowL, Item.ren, Item.below, List.append_nil, List.nil_append, List.cons_append, and_true, true_and, and_self, eq_self, reduceIte, reduceCtorEq, Nat.reduceEqDiff, Nat.reduceLT, Nat.reduceLeDiff, AV.own.injEq, AV.int.injEq, AV.bool.injEq, AV.str.injEq, AV.ro.injEq, AV.agg.injEq, AV.tup.injEq, List.cons.injEq, Option.some.injEq, Item.row.injEq, Item.box.injEq, RowV.ints.injEq, RowV.bools.injEq, RowV.strs.injEq, RowV.objs.injEq, List.not_mem_nil, false_implies, implies_true, List.mem_cons, forall_eq_or_imp, forall_eq, or_false, Nat.succ_ne_self, ne_eq, not_false_eq_true, or_true, true_or, Bool.and_self, Bool.and_true, decide_true, decide_eq_true_eq, Int.natCast_zero, decide_false, Nat.add_zero]
    simp (maxSteps := 1000000) only [go_sem, reduceCtorEq, Nat.reduceLT, Nat.reduceLeDiff, reduceIte, ↓reduceIte, Nat.reduceEqDiff, Nat.reduceAdd, Nat.reduceMul, Nat.reduceSub, Int.reduceLE, Int.reduceLT, Int.reduceNeg, Int.reduceToNat]
    (repeat' first | (with_reducible refine Asm.intro fun _ => ?_) | ((with_reducible refine Chk.intro ?_ ?_); (· first | omega | (with_reducible refine Chk.intro ?_ ?_ <;> omega) | (simp; done) | (simp; omega))) | ((with_reducible refine LetW.i64 ?_ ?_ ?_); (· omega); (· omega)) | ((with_reducible refine Ite.decide (fun _ => ?_) (fun _ => ?_)) <;> first | (exfalso; omega) | simp (maxSteps := 1000000) only [go_sem, reduceCtorEq, Nat.reduceLT, Nat.reduceLeDiff, reduceIte, ↓reduceIte, Nat.reduceEqDiff, Nat.reduceAdd, Nat.reduceMul, Nat.reduceSub, Int.reduceLE, Int.reduceLT, Int.reduceNeg, Int.reduceToNat]) | ((with_reducible refine Ite.bool (fun _ => ?_) (fun _ => ?_)) <;> simp (maxSteps := 1000000) only [go_sem, reduceCtorEq, Nat.reduceLT, Nat.reduceLeDiff, reduceIte, ↓reduceIte, Nat.reduceEqDiff, Nat.reduceAdd, Nat.reduceMul, Nat.reduceSub, Int.reduceLE, Int.reduceLT, Int.reduceNeg, Int.reduceToNat]) | (with_reducible refine And.intro ?_ ?_))
    · refine VcDraw.lex [6, 7, 9] [(0, [1]), (1, [1])] (by kernel_rfl) (by kernel_rfl) ?_
      simp (maxSteps := 1000000) only [go_sem, reduceCtorEq, Nat.reduceLT, Nat.reduceLeDiff, reduceIte, ↓reduceIte, Nat.reduceEqDiff, Nat.reduceAdd, Nat.reduceMul, Nat.reduceSub, Int.reduceLE, Int.reduceLT, Int.reduceNeg, Int.reduceToNat]
      (repeat' first | (with_reducible refine Asm.intro fun _ => ?_) | ((with_reducible refine Chk.intro ?_ ?_); (· first | omega | (with_reducible refine Chk.intro ?_ ?_ <;> omega) | (simp; done) | (simp; omega))) | ((with_reducible refine LetW.i64 ?_ ?_ ?_); (· omega); (· omega)) | ((with_reducible refine Ite.decide (fun _ => ?_) (fun _ => ?_)) <;> first | (exfalso; omega) | simp (maxSteps := 1000000) only [go_sem, reduceCtorEq, Nat.reduceLT, Nat.reduceLeDiff, reduceIte, ↓reduceIte, Nat.reduceEqDiff, Nat.reduceAdd, Nat.reduceMul, Nat.reduceSub, Int.reduceLE, Int.reduceLT, Int.reduceNeg, Int.reduceToNat]) | ((with_reducible refine Ite.bool (fun _ => ?_) (fun _ => ?_)) <;> simp (maxSteps := 1000000) only [go_sem, reduceCtorEq, Nat.reduceLT, Nat.reduceLeDiff, reduceIte, ↓reduceIte, Nat.reduceEqDiff, Nat.reduceAdd, Nat.reduceMul, Nat.reduceSub, Int.reduceLE, Int.reduceLT, Int.reduceNeg, Int.reduceToNat]) | (with_reducible refine And.intro ?_ ?_))
      refine QV.intro (.bool (p x y)) ?_ ?_
      · simp (maxSteps := 1000000) only [go_sem, reduceCtorEq, Nat.reduceLT, Nat.reduceLeDiff, reduceIte, ↓reduceIte, Nat.reduceEqDiff, Nat.reduceAdd, Nat.reduceMul, Nat.reduceSub, Int.reduceLE, Int.reduceLT, Int.reduceNeg, Int.reduceToNat]
        refine VcCall.fr (args' := [.int .i64 x, .int .i64 y] ++ caps) (hp x y (by omega) (by omega)) (by simp [argOkL, allOk, argOkN, allOk_caps]) 0 rfl (by simp [rowsB]) ?_
        simp (maxSteps := 1000000) only [go_sem, reduceCtorEq, Nat.reduceLT, Nat.reduceLeDiff, reduceIte, ↓reduceIte, Nat.reduceEqDiff, Nat.reduceAdd, Nat.reduceMul, Nat.reduceSub, Int.reduceLE, Int.reduceLT, Int.reduceNeg, Int.reduceToNat]
      · simp (maxSteps := 1000000) only [go_sem, reduceCtorEq, Nat.reduceLT, Nat.reduceLeDiff, reduceIte, ↓reduceIte, Nat.reduceEqDiff, Nat.reduceAdd, Nat.reduceMul, Nat.reduceSub, Int.reduceLE, Int.reduceLT, Int.reduceNeg, Int.reduceToNat]
        have hb : y * w + x ≤ 4000 * 4000 + 4000 := Nat.add_le_add (Nat.mul_le_mul (by omega) hw) (by omega)
        have hr := rowsOf_len w p (y * w + x)
        have hs := rowsOf_succ p (x := x) (y := y) (w := w) (by omega)
        (repeat' first | (with_reducible refine Asm.intro fun _ => ?_) | ((with_reducible refine Chk.intro ?_ ?_); (· first | omega | (with_reducible refine Chk.intro ?_ ?_ <;> omega) | (simp; done) | (simp; omega))) | ((with_reducible refine LetW.i64 ?_ ?_ ?_); (· omega); (· omega)) | ((with_reducible refine Ite.decide (fun _ => ?_) (fun _ => ?_)) <;> first | (exfalso; omega) | simp (maxSteps := 1000000) only [go_sem, reduceCtorEq, Nat.reduceLT, Nat.reduceLeDiff, reduceIte, ↓reduceIte, Nat.reduceEqDiff, Nat.reduceAdd, Nat.reduceMul, Nat.reduceSub, Int.reduceLE, Int.reduceLT, Int.reduceNeg, Int.reduceToNat]) | ((with_reducible refine Ite.bool (fun _ => ?_) (fun _ => ?_)) <;> simp (maxSteps := 1000000) only [go_sem, reduceCtorEq, Nat.reduceLT, Nat.reduceLeDiff, reduceIte, ↓reduceIte, Nat.reduceEqDiff, Nat.reduceAdd, Nat.reduceMul, Nat.reduceSub, Int.reduceLE, Int.reduceLT, Int.reduceNeg, Int.reduceToNat]) | (with_reducible refine And.intro ?_ ?_))
        refine ⟨x + 1, Ent.auto0 rfl ?_ ?_, by omega, by omega⟩ <;> simp only [renL_caps, belowL_caps, mkL_caps, rep_bools, rep_ints, renL_bools, renL_ints, belowL_bools, belowL_ints, mkL_bools, mkL_ints, set_bools, set_ints, rets, rets1, retV, mkRet, tupOf, S.ev, List.map_cons, List.map_nil, envOk, subOk, mkRen, mkEnv, mkRows, mkItem, mkV, mkL, pm, S.get, lk, ren, renL, Fv.below, Fv.belowL, Item.ren, Item.below, List.append_nil, List.nil_append, List.cons_append, and_true, true_and, and_self, eq_self, reduceIte, reduceCtorEq, Nat.reduceEqDiff, Nat.reduceLT, Nat.reduceLeDiff, AV.own.injEq, AV.int.injEq, AV.bool.injEq, AV.str.injEq, AV.ro.injEq, AV.agg.injEq, AV.tup.injEq, List.cons.injEq, Option.some.injEq, Item.row.injEq, Item.box.injEq, RowV.ints.injEq, RowV.bools.injEq, RowV.strs.injEq, RowV.objs.injEq, List.not_mem_nil, false_implies, implies_true, List.mem_cons, forall_eq_or_imp, forall_eq, or_false, Nat.succ_ne_self, ne_eq, not_false_eq_true, or_true, true_or, Bool.and_self, Bool.and_true, decide_true, decide_eq_true_eq, Int.natCast_zero, decide_false, hs]
        rfl
    · refine ⟨y + 1, Ent.auto0 rfl ?_ ?_, by omega, by omega⟩ <;> simp only [renL_caps, belowL_caps, mkL_caps, rep_bools, rep_ints, renL_bools, renL_ints, belowL_bools, belowL_ints, mkL_bools, mkL_ints, set_bools, set_ints, rets, rets1, retV, mkRet, tupOf, S.ev, List.map_cons, List.map_nil, envOk, subOk, mkRen, mkEnv, mkRows, mkItem, mkV, mkL, pm, S.get, lk, ren, renL, Fv.below, Fv.belowL, Item.ren, Item.below, List.append_nil, List.nil_append, List.cons_append, and_true, true_and, and_self, eq_self, reduceIte, reduceCtorEq, Nat.reduceEqDiff, Nat.reduceLT, Nat.reduceLeDiff, AV.own.injEq, AV.int.injEq, AV.bool.injEq, AV.str.injEq, AV.ro.injEq, AV.agg.injEq, AV.tup.injEq, List.cons.injEq, Option.some.injEq, Item.row.injEq, Item.box.injEq, RowV.ints.injEq, RowV.bools.injEq, RowV.strs.injEq, RowV.objs.injEq, List.not_mem_nil, false_implies, implies_true, List.mem_cons, forall_eq_or_imp, forall_eq, or_false, Nat.succ_ne_self, ne_eq, not_false_eq_true, or_true, true_or, Bool.and_self, Bool.and_true, decide_true, decide_eq_true_eq, Int.natCast_zero, decide_false]
      · rfl
      · have e : x = w := by omega
        rw [e, Nat.succ_mul]
  · have e : y = h := by omega
    subst e
    refine Ret.auto 1 ?_ rfl ?_ <;> simp only [renL_caps, belowL_caps, mkL_caps, rep_bools, rep_ints, renL_bools, renL_ints, belowL_bools, belowL_ints, mkL_bools, mkL_ints, set_bools, set_ints, rets, rets1, retV, mkRet, tupOf, S.ev, List.map_cons, List.map_nil, envOk, subOk, mkRen, mkEnv, mkRows, mkItem, mkV, mkL, pm, S.get, lk, ren, renL, Fv.below, Fv.belowL, Item.ren, Item.below, List.append_nil, List.nil_append, List.cons_append, and_true, true_and, and_self, eq_self, reduceIte, reduceCtorEq, Nat.reduceEqDiff, Nat.reduceLT, Nat.reduceLeDiff, AV.own.injEq, AV.int.injEq, AV.bool.injEq, AV.str.injEq, AV.ro.injEq, AV.agg.injEq, AV.tup.injEq, List.cons.injEq, Option.some.injEq, Item.row.injEq, Item.box.injEq, RowV.ints.injEq, RowV.bools.injEq, RowV.strs.injEq, RowV.objs.injEq, List.not_mem_nil, false_implies, implies_true, List.mem_cons, forall_eq_or_imp, forall_eq, or_false, Nat.succ_ne_self, ne_eq, not_false_eq_true, or_true, true_or, Bool.and_self, Bool.and_true, decide_true, decide_eq_true_eq, Int.natCast_zero, decide_false, Post, List.drop_zero]
    simp (maxSteps := 1000000) only [go_sem, reduceCtorEq, Nat.reduceLT, Nat.reduceLeDiff, reduceIte, ↓reduceIte, Nat.reduceEqDiff, Nat.reduceAdd, Nat.reduceMul, Nat.reduceSub, Int.reduceLE, Int.reduceLT, Int.reduceNeg, Int.reduceToNat]

end Go.Fv.S

namespace Go.Fv.S
open Go Go.Proofs
set_option linter.unusedSimpArgs false
set_option linter.unusedVariables false
set_option maxRecDepth 8000

def segL (v : Nat → Int) (w y l n : Nat) : List Int := (List.range n).map fun i => v (y * w + (l + i))
def boxL (v : Nat → Int) (w t l n : Nat) : Nat → List Int
  | 0 => []
  | m + 1 => boxL v w t l n m ++ segL v w (t + m) l n
theorem segL_succ (v : Nat → Int) (w y l n : Nat) : segL v w y l (n + 1) = segL v w y l n ++ [v (y * w + (l + n))] := by
  simp [segL, List.range_succ]
theorem segL_len (v : Nat → Int) (w y l n : Nat) : (segL v w y l n).length = n := by simp [segL]
theorem boxL_len (v : Nat → Int) (w t l n : Nat) : ∀ m, (boxL v w t l n m).length = m * n
  | 0 => by simp [boxL]
  | m + 1 => by simp [boxL, boxL_len v w t l n m, segL_len, Nat.succ_mul]
theorem sum_seg (v : Nat → Int) (w y l : Nat) : ∀ n, (segL v w y l n).sum = sumTo (fun i => v (y * w + i)) (l + n) - sumTo (fun i => v (y * w + i)) l
  | 0 => by simp [segL]
  | n + 1 => by
    have e : sumTo (fun i => v (y * w + i)) (l + (n + 1)) = sumTo (fun i => v (y * w + i)) (l + n) + v (y * w + (l + n)) := rfl
    rw [segL_succ, List.sum_append, sum_seg v w y l n, e]
    simp; omega
theorem sum_box (v : Nat → Int) (w t l n : Nat) : ∀ m, (boxL v w t l n m).sum = rect v w l (l + n) t (t + m)
  | 0 => by simp [boxL, rect]; omega
  | m + 1 => by
    rw [boxL, List.sum_append, sum_box v w t l n m, sum_seg, ← Nat.add_assoc]
    unfold rect
    rw [tab_succ, tab_succ]
    omega
theorem sum_take (l : List Int) {i : Nat} (h : i < l.length) : (l.take (i + 1)).sum = (l.take i).sum + l.getD i 0 := by
  rw [List.take_succ_eq_append_getElem h, List.sum_append, getD_lt h]
  simp
theorem sum_bd {l : List Int} (h : ∀ x, x ∈ l → 0 ≤ x ∧ x ≤ 255) : 0 ≤ l.sum ∧ l.sum ≤ 255 * (l.length : Int) := by
  induction l with
  | nil => simp
  | cons x l ih =>
    have h1 := h x (.head _)
    have h2 := ih fun y hy => h y (.tail _ hy)
    simp only [List.sum_cons, List.length_cons]
    omega
theorem boxL_mem {v : Nat → Int} (hv : ∀ i, 0 ≤ v i ∧ v i ≤ 255) (w t l n : Nat) : ∀ m x, x ∈ boxL v w t l n m → 0 ≤ x ∧ x ≤ 255
  | 0, x, h => by simp [boxL] at h
  | m + 1, x, h => by
    rcases List.mem_append.1 h with h | h
    · exact boxL_mem hv w t l n m x h
    · obtain ⟨i, _, rfl⟩ := List.mem_map.1 h
      exact hv _

theorem rect_bd {v : Nat → Int} (hv : ∀ i, 0 ≤ v i ∧ v i ≤ 255) {w l r t b : Nat} (hl : l ≤ 4000) (hr : r ≤ 4000) (ht : t ≤ 4000) (hb : b ≤ 4000) : -8200000000 ≤ rect v w l r t b ∧ rect v w l r t b ≤ 8200000000 := by
  have b1 := tab_bd hv (w := w) (x := r) (y := b) (by omega) (by omega)
  have b2 := tab_bd hv (w := w) (x := r) (y := t) (by omega) (by omega)
  have b3 := tab_bd hv (w := w) (x := l) (y := b) (by omega) (by omega)
  have b4 := tab_bd hv (w := w) (x := l) (y := t) (by omega) (by omega)
  unfold rect; omega

theorem rowsOf_congr {α : Type} {w h : Nat} {f g : Nat → Nat → α} (hfg : ∀ x y, x < w → y < h → f x y = g x y) : rowsOf w f (h * w) = rowsOf w g (h * w) := by
  unfold rowsOf
  refine List.map_congr_left fun k hk => ?_
  have hk := List.mem_range.1 hk
  have hw : 0 < w := by rcases Nat.eq_zero_or_pos w with rfl | h' <;> omega
  exact hfg _ _ (Nat.mod_lt _ hw) (Nat.div_lt_of_lt_mul (by rw [Nat.mul_comm]; exact hk))
theorem rowsOf_get {w h x y : Nat} {f : Nat → Nat → Bool} (hx : x < w) (hy : y < h) : (rowsOf w f (h * w)).getD (y * w + x) false = f x y := by
  have b : y * w + w ≤ h * w := by rw [← Nat.succ_mul]; exact Nat.mul_le_mul_right _ (by omega)
  have e1 : (y * w + x) % w = x := by rw [Nat.mul_comm, Nat.mul_add_mod, Nat.mod_eq_of_lt hx]
  have e2 : (y * w + x) / w = y := by rw [Nat.mul_comm, Nat.mul_add_div (by omega), Nat.div_eq_of_lt hx, Nat.add_zero]
  unfold rowsOf
  rw [List.getD_eq_getElem?_getD, List.getElem?_map, List.getElem?_range (by omega)]
  simp [e1, e2]
end Go.Fv.S

namespace Go.Fv.S
open Go Go.Proofs
set_option linter.unusedSimpArgs false
set_option linter.unusedVariables false
set_option maxRecDepth 8000
/-- Ink as a number. -/
def inkV (p : List Bool) (i : Nat) : Int := if p.getD i false = true then 1 else 0
theorem inkV_bd (p : List Bool) (i : Nat) : 0 ≤ inkV p i ∧ inkV p i ≤ 255 := by unfold inkV; split <;> omega
theorem inkSums1_ok (W H : Int) (p : List Bool) (i : Nat) (hi : i < p.length) :
    FnOk Tryd.prog 146 [.int .i64 i, .cell [.int .i64 W, .int .i64 H, .ro (.bools p)]] (.int .i64 (inkV p i)) [] := by
  refine FnOk.of_vc Tryd.func146 rfl (by decide) (by simp [Tryd.f146]) [.tmp 3] rfl fun w0 T0 => ?_
  simp only [Tryd.f146, argEnv]
  (repeat' first | (with_reducible refine Asm.intro fun _ => ?_) | ((with_reducible refine Chk.intro ?_ ?_); (· first | omega | (with_reducible refine Chk.intro ?_ ?_ <;> omega) | (simp; done) | (simp; omega))) | ((with_reducible refine LetW.i64 ?_ ?_ ?_); (· omega); (· omega)) | ((with_reducible refine Ite.decide (fun _ => ?_) (fun _ => ?_)) <;> first | (exfalso; omega) | skip) | (with_reducible refine Ite.bool (fun _ => ?_) (fun _ => ?_)) | (with_reducible refine And.intro ?_ ?_) | omega | simp (maxSteps := 1000000) only [go_sem, reduceCtorEq, Nat.reduceLT, Nat.reduceLeDiff, reduceIte, ↓reduceIte, Nat.reduceEqDiff, Nat.reduceAdd, Nat.reduceMul, Nat.reduceSub, Int.reduceLE, Int.reduceLT, Int.reduceNeg, Int.reduceToNat])
  · rename_i h1
    refine Ret.auto 0 ?_ rfl ?_ <;> simp only [renL_caps, belowL_caps, mkL_caps, rep_bools, rep_ints, renL_bools, renL_ints, belowL_bools, belowL_ints, mkL_bools, mkL_ints, set_bools, set_ints, rets, rets1, retV, mkRet, tupOf, S.ev, List.map_cons, List.map_nil, envOk, subOk, mkRen, mkEnv, mkRows, mkItem, mkV, mkL, pm, S.get, lk, ren, renL, Fv.below, Fv.belowL, Item.ren, Item.below, List.append_nil, List.nil_append, List.cons_append, and_true, true_and, and_self, eq_self, reduceIte, reduceCtorEq, Nat.reduceEqDiff, Nat.reduceLT, Nat.reduceLeDiff, AV.own.injEq, AV.int.injEq, AV.bool.injEq, AV.str.injEq, AV.ro.injEq, AV.agg.injEq, AV.tup.injEq, List.cons.injEq, Option.some.injEq, Item.row.injEq, Item.box.injEq, RowV.ints.injEq, RowV.bools.injEq, RowV.strs.injEq, RowV.objs.injEq, List.not_mem_nil, false_implies, implies_true, List.mem_cons, forall_eq_or_imp, forall_eq, or_false, Nat.succ_ne_self, ne_eq, not_false_eq_true, or_true, true_or, Bool.and_self, Bool.and_true, decide_true, decide_eq_true_eq, Int.natCast_zero, decide_false, Post, inkV, h1, reduceIte]
  · rename_i h1
    refine Ret.auto 0 ?_ rfl ?_ <;> simp only [renL_caps, belowL_caps, mkL_caps, rep_bools, rep_ints, renL_bools, renL_ints, belowL_bools, belowL_ints, mkL_bools, mkL_ints, set_bools, set_ints, rets, rets1, retV, mkRet, tupOf, S.ev, List.map_cons, List.map_nil, envOk, subOk, mkRen, mkEnv, mkRows, mkItem, mkV, mkL, pm, S.get, lk, ren, renL, Fv.below, Fv.belowL, Item.ren, Item.below, List.append_nil, List.nil_append, List.cons_append, and_true, true_and, and_self, eq_self, reduceIte, reduceCtorEq, Nat.reduceEqDiff, Nat.reduceLT, Nat.reduceLeDiff, AV.own.injEq, AV.int.injEq, AV.bool.injEq, AV.str.injEq, AV.ro.injEq, AV.agg.injEq, AV.tup.injEq, List.cons.injEq, Option.some.injEq, Item.row.injEq, Item.box.injEq, RowV.ints.injEq, RowV.bools.injEq, RowV.strs.injEq, RowV.objs.injEq, List.not_mem_nil, false_implies, implies_true, List.mem_cons, forall_eq_or_imp, forall_eq, or_false, Nat.succ_ne_self, ne_eq, not_false_eq_true, or_true, true_or, Bool.and_self, Bool.and_true, decide_true, decide_eq_true_eq, Int.natCast_zero, decide_false, Post, inkV, h1, reduceIte]
set_option maxHeartbeats 2000000 in
theorem inkSums_ok (w h : Nat) (hw : w ≤ 4000) (hh : h ≤ 4000) (p : List Bool) (hp : p.length = w * h) :
    FnOk Tryd.prog 80 [.agg [.int .i64 w, .int .i64 h, .ro (.bools p)]] (.ptr 0 0) [(0, .box 185 [.int .i64 w, .int .i64 h, .own 1]), (1, .row 3 (.ints .i64 (sumsAt (inkV p) w ((w + 1) * (h + 1)) ((w + 1) * (h + 1)))))] := by
  haveI c1 : CapsOk [.cell [.int .i64 w, .int .i64 h, .ro (.bools p)]] := ⟨rfl⟩
  have k1 := sumsOf_ok w h hw hh 146 [.cell [.int .i64 w, .int .i64 h, .ro (.bools p)]] (inkV p) (inkV_bd p) (fun i hi => FnFr.of_ok (inkSums1_ok w h p i (by omega)) rfl rfl)
  generalize sumsAt (inkV p) w ((w + 1) * (h + 1)) ((w + 1) * (h + 1)) = L at *
  refine FnOk.of_vc Tryd.func80 rfl (by decide) (by simp [Tryd.f80]) [.tmp 2] rfl fun w0 T0 => ?_
  simp only [Tryd.f80, argEnv]
  (repeat' first | (with_reducible refine Asm.intro fun _ => ?_) | ((with_reducible refine Chk.intro ?_ ?_); (· first | omega | (with_reducible refine Chk.intro ?_ ?_ <;> omega) | (simp; done) | (simp; omega))) | ((with_reducible refine LetW.i64 ?_ ?_ ?_); (· omega); (· omega)) | ((with_reducible refine Ite.decide (fun _ => ?_) (fun _ => ?_)) <;> first | (exfalso; omega) | skip) | (with_reducible refine Ite.bool (fun _ => ?_) (fun _ => ?_)) | (with_reducible refine And.intro ?_ ?_) | omega | simp (maxSteps := 1000000) only [go_sem, reduceCtorEq, Nat.reduceLT, Nat.reduceLeDiff, reduceIte, ↓reduceIte, Nat.reduceEqDiff, Nat.reduceAdd, Nat.reduceMul, Nat.reduceSub, Int.reduceLE, Int.reduceLT, Int.reduceNeg, Int.reduceToNat])
  refine VcCall.fr (FnFr.of_ok k1 rfl rfl) (by simp only [argOkL, argOk, allOk, argOkN, List.drop_zero, lk, reduceIte, reduceCtorEq, Nat.reduceEqDiff, Option.some.injEq, Item.row.injEq, Item.box.injEq, AV.ro.injEq, exists_eq_left, exists_and_left, exists_eq_left', exists_eq_right, and_assoc, and_true, true_and, List.cons.injEq, exists_eq', exists_eq]) 2 rfl (by simp [rowsB, Item.below, Fv.below, belowL]) ?_
  (repeat' first | (with_reducible refine Asm.intro fun _ => ?_) | ((with_reducible refine Chk.intro ?_ ?_); (· first | omega | (with_reducible refine Chk.intro ?_ ?_ <;> omega) | (simp; done) | (simp; omega))) | ((with_reducible refine LetW.i64 ?_ ?_ ?_); (· omega); (· omega)) | ((with_reducible refine Ite.decide (fun _ => ?_) (fun _ => ?_)) <;> first | (exfalso; omega) | skip) | (with_reducible refine Ite.bool (fun _ => ?_) (fun _ => ?_)) | (with_reducible refine And.intro ?_ ?_) | omega | simp (maxSteps := 1000000) only [go_sem, reduceCtorEq, Nat.reduceLT, Nat.reduceLeDiff, reduceIte, ↓reduceIte, Nat.reduceEqDiff, Nat.reduceAdd, Nat.reduceMul, Nat.reduceSub, Int.reduceLE, Int.reduceLT, Int.reduceNeg, Int.reduceToNat])
  refine Ret.auto 2 ?_ rfl ?_ <;> simp only [renL_caps, belowL_caps, mkL_caps, rep_bools, rep_ints, renL_bools, renL_ints, belowL_bools, belowL_ints, mkL_bools, mkL_ints, set_bools, set_ints, rets, rets1, retV, mkRet, tupOf, S.ev, List.map_cons, List.map_nil, envOk, subOk, mkRen, mkEnv, mkRows, mkItem, mkV, mkL, pm, S.get, lk, ren, renL, Fv.below, Fv.belowL, Item.ren, Item.below, List.append_nil, List.nil_append, List.cons_append, and_true, true_and, and_self, eq_self, reduceIte, reduceCtorEq, Nat.reduceEqDiff, Nat.reduceLT, Nat.reduceLeDiff, AV.own.injEq, AV.int.injEq, AV.bool.injEq, AV.str.injEq, AV.ro.injEq, AV.agg.injEq, AV.tup.injEq, List.cons.injEq, Option.some.injEq, Item.row.injEq, Item.box.injEq, RowV.ints.injEq, RowV.bools.injEq, RowV.strs.injEq, RowV.objs.injEq, List.not_mem_nil, false_implies, implies_true, List.mem_cons, forall_eq_or_imp, forall_eq, or_false, Nat.succ_ne_self, ne_eq, not_false_eq_true, or_true, true_or, Bool.and_self, Bool.and_true, decide_true, decide_eq_true_eq, Int.natCast_zero, decide_false, Post]
end Go.Fv.S
