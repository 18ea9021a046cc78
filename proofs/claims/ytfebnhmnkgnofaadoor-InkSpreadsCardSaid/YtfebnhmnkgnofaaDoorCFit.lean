/-
  A part of the proof of the claim: walks over the program's functions and the plain laws that these need. No condition of its own.
-/
import Derived.Test.YtfebnhmnkgnofaaDoorCMade
namespace Go.Fv.C
open Go Go.Proofs
set_option linter.unusedSimpArgs false
set_option linter.unusedVariables false
set_option maxRecDepth 8000

theorem and_bd (a : Int) (m : Nat) (hm : m < 2 ^ 63) : 0 ≤ bitsI .and .i64 a m ∧ bitsI .and .i64 a m ≤ m := by
  unfold bitsI
  dsimp only
  have h1 : (BitVec.ofInt 64 a &&& BitVec.ofInt 64 (m : Int)).toNat ≤ m := by
    rw [BitVec.toNat_and]
    refine Nat.le_trans Nat.and_le_right ?_
    rw [BitVec.ofInt_natCast, BitVec.toNat_ofNat]
    exact Nat.mod_le _ _
  rw [show IntKind.i64.bits = 64 from rfl]
  rw [wrap_of_in (InK_i64.2 ⟨by omega, by omega⟩)]
  omega
/-- The size that a page is fitted to. -/
def fitN (a : Int) (m : Nat) : Nat := (1 + bitsI .and .i64 a m).toNat
theorem fitN_bd (a : Int) (m : Nat) (hm : m < 2 ^ 63) : 1 ≤ fitN a m ∧ fitN a m ≤ m + 1 ∧ 1 + bitsI .and .i64 a m = ((fitN a m : Nat) : Int) := by
  have := and_bd a m hm
  unfold fitN; omega

def fitV (p : List Int) (w x y : Nat) : Int := if p.length = 0 then 200 else p.getD ((y * w + x) % p.length) 0

set_option maxHeartbeats 2000000 in
theorem fitGray1_ok (W H : Int) (p : List Int) (w x y : Nat) (hw : w ≤ 16) (hx : x < w) (hy : y < 16) :
    FnOk Tryd.prog 52 [.int .i64 x, .int .i64 y, .cell [.int .i64 W, .int .i64 H, .ro (.ints .u8 p)], .cell [.int .i64 w]] (.int .u8 (fitV p w x y)) [] := by
  have b1 : y * w ≤ 16 * 16 := Nat.mul_le_mul (by omega) hw
  refine FnOk.of_vc Tryd.func52 rfl (by decide) (by simp [Tryd.f52]) [.tmp 6] rfl fun w0 T0 => ?_
  simp only [Tryd.f52, argEnv]
  (repeat' first | (with_reducible refine Asm.intro fun _ => ?_) | ((with_reducible refine Chk.intro ?_ ?_); (· first | omega | (with_reducible refine Chk.intro ?_ ?_ <;> omega) | (simp; done) | (simp; omega))) | ((with_reducible refine LetW.i64 ?_ ?_ ?_); (· omega); (· omega)) | ((with_reducible refine Ite.decide (fun _ => ?_) (fun _ => ?_)) <;> first | (exfalso; omega) | simp (maxSteps := 1000000) only [go_sem, reduceCtorEq, Nat.reduceLT, Nat.reduceLeDiff, reduceIte, ↓reduceIte, Nat.reduceEqDiff, Nat.reduceAdd, Nat.reduceMul, Nat.reduceSub, Int.reduceLE, Int.reduceLT, Int.reduceNeg, Int.reduceToNat]) | ((with_reducible refine Ite.bool (fun _ => ?_) (fun _ => ?_)) <;> simp (maxSteps := 1000000) only [go_sem, reduceCtorEq, Nat.reduceLT, Nat.reduceLeDiff, reduceIte, ↓reduceIte, Nat.reduceEqDiff, Nat.reduceAdd, Nat.reduceMul, Nat.reduceSub, Int.reduceLE, Int.reduceLT, Int.reduceNeg, Int.reduceToNat]) | (with_reducible refine And.intro ?_ ?_) | omega | simp (maxSteps := 1000000) only [go_sem, reduceCtorEq, Nat.reduceLT, Nat.reduceLeDiff, reduceIte, ↓reduceIte, Nat.reduceEqDiff, Nat.reduceAdd, Nat.reduceMul, Nat.reduceSub, Int.reduceLE, Int.reduceLT, Int.reduceNeg, Int.reduceToNat])
  · have e : p.length = 0 := by omega
    refine Ret.auto 0 ?_ rfl ?_ <;> simp only [renL_caps, belowL_caps, mkL_caps, rep_bools, rep_ints, renL_bools, renL_ints, belowL_bools, belowL_ints, mkL_bools, mkL_ints, set_bools, set_ints, rets, rets1, retV, mkRet, tupOf, S.ev, List.map_cons, List.map_nil, envOk, subOk, mkRen, mkEnv, mkRows, mkItem, mkV, mkL, pm, S.get, lk, ren, renL, Fv.below, Fv.belowL, Item.ren, Item.below, List.append_nil, List.nil_append, List.cons_append, and_true, true_and, and_self, eq_self, reduceIte, reduceCtorEq, Nat.reduceEqDiff, Nat.reduceLT, Nat.reduceLeDiff, AV.own.injEq, AV.int.injEq, AV.bool.injEq, AV.str.injEq, AV.ro.injEq, AV.agg.injEq, AV.tup.injEq, List.cons.injEq, Option.some.injEq, Item.row.injEq, Item.box.injEq, RowV.ints.injEq, RowV.bools.injEq, RowV.strs.injEq, RowV.objs.injEq, List.not_mem_nil, false_implies, implies_true, List.mem_cons, forall_eq_or_imp, forall_eq, or_false, Nat.succ_ne_self, ne_eq, not_false_eq_true, or_true, true_or, Bool.and_self, Bool.and_true, decide_true, decide_eq_true_eq, Int.natCast_zero, decide_false, Post, fitV, e, reduceIte]
  · have hl : 0 < p.length := by omega
    have hm := Nat.mod_lt (y * w + x) hl
    refine VcDraw.lex [] [] (by kernel_rfl) (by kernel_rfl) ?_
    (repeat' first | (with_reducible refine Asm.intro fun _ => ?_) | ((with_reducible refine Chk.intro ?_ ?_); (· first | omega | (with_reducible refine Chk.intro ?_ ?_ <;> omega) | (simp; done) | (simp; omega))) | ((with_reducible refine LetW.i64 ?_ ?_ ?_); (· omega); (· omega)) | ((with_reducible refine Ite.decide (fun _ => ?_) (fun _ => ?_)) <;> first | (exfalso; omega) | simp (maxSteps := 1000000) only [go_sem, reduceCtorEq, Nat.reduceLT, Nat.reduceLeDiff, reduceIte, ↓reduceIte, Nat.reduceEqDiff, Nat.reduceAdd, Nat.reduceMul, Nat.reduceSub, Int.reduceLE, Int.reduceLT, Int.reduceNeg, Int.reduceToNat, up_mul, up_add, up_tmod, Int.toNat_natCast]) | ((with_reducible refine Ite.bool (fun _ => ?_) (fun _ => ?_)) <;> simp (maxSteps := 1000000) only [go_sem, reduceCtorEq, Nat.reduceLT, Nat.reduceLeDiff, reduceIte, ↓reduceIte, Nat.reduceEqDiff, Nat.reduceAdd, Nat.reduceMul, Nat.reduceSub, Int.reduceLE, Int.reduceLT, Int.reduceNeg, Int.reduceToNat, up_mul, up_add, up_tmod, Int.toNat_natCast]) | (with_reducible refine And.intro ?_ ?_) | omega | simp (maxSteps := 1000000) only [go_sem, reduceCtorEq, Nat.reduceLT, Nat.reduceLeDiff, reduceIte, ↓reduceIte, Nat.reduceEqDiff, Nat.reduceAdd, Nat.reduceMul, Nat.reduceSub, Int.reduceLE, Int.reduceLT, Int.reduceNeg, Int.reduceToNat, up_mul, up_add, up_tmod, Int.toNat_natCast])
    refine Ret.auto 0 ?_ rfl ?_ <;> simp only [renL_caps, belowL_caps, mkL_caps, rep_bools, rep_ints, renL_bools, renL_ints, belowL_bools, belowL_ints, mkL_bools, mkL_ints, set_bools, set_ints, rets, rets1, retV, mkRet, tupOf, S.ev, List.map_cons, List.map_nil, envOk, subOk, mkRen, mkEnv, mkRows, mkItem, mkV, mkL, pm, S.get, lk, ren, renL, Fv.below, Fv.belowL, Item.ren, Item.below, List.append_nil, List.nil_append, List.cons_append, and_true, true_and, and_self, eq_self, reduceIte, reduceCtorEq, Nat.reduceEqDiff, Nat.reduceLT, Nat.reduceLeDiff, AV.own.injEq, AV.int.injEq, AV.bool.injEq, AV.str.injEq, AV.ro.injEq, AV.agg.injEq, AV.tup.injEq, List.cons.injEq, Option.some.injEq, Item.row.injEq, Item.box.injEq, RowV.ints.injEq, RowV.bools.injEq, RowV.strs.injEq, RowV.objs.injEq, List.not_mem_nil, false_implies, implies_true, List.mem_cons, forall_eq_or_imp, forall_eq, or_false, Nat.succ_ne_self, ne_eq, not_false_eq_true, or_true, true_or, Bool.and_self, Bool.and_true, decide_true, decide_eq_true_eq, Int.natCast_zero, decide_false, Post, fitV]
    rw [if_neg (by omega)]

set_option maxHeartbeats 2000000 in
theorem fitGray_ok (W H : Int) (p : List Int) :
    FnOk Tryd.prog 11 [.agg [.int .i64 W, .int .i64 H, .ro (.ints .u8 p)]] (.agg [.int .i64 (fitN W 15), .int .i64 (fitN H 15), .own 0]) [(0, .row 5 (.ints .u8 (rowsOf (fitN W 15) (fitV p (fitN W 15)) (fitN H 15 * fitN W 15))))] := by
  obtain ⟨w1, w2, w3⟩ := fitN_bd W 15 (by decide)
  obtain ⟨h1, h2, h3⟩ := fitN_bd H 15 (by decide)
  replace w3 : 1 + bitsI .and .i64 W 15 = ((fitN W 15 : Nat) : Int) := w3
  replace h3 : 1 + bitsI .and .i64 H 15 = ((fitN H 15 : Nat) : Int) := h3
  generalize fitN W 15 = w at *
  generalize fitN H 15 = h at *
  haveI c1 : CapsOk [.cell [.int .i64 W, .int .i64 H, .ro (.ints .u8 p)], .cell [.int .i64 w]] := ⟨rfl⟩
  have k1 := madeGray_ok w h (by omega) (by omega) 52 [.cell [.int .i64 W, .int .i64 H, .ro (.ints .u8 p)], .cell [.int .i64 w]] (fitV p w)
    (fun x y hx hy => FnFr.of_ok (fitGray1_ok W H p w x y (by omega) hx (by omega)) rfl rfl)
  generalize rowsOf w (fitV p w) (h * w) = out at *
  refine FnOk.of_vc Tryd.func11 rfl (by decide) (by simp [Tryd.f11]) [.cell 2 24] rfl fun w0 T0 => ?_
  simp only [Tryd.f11, argEnv]
  (repeat' first | (with_reducible refine Asm.intro fun _ => ?_) | ((with_reducible refine Chk.intro ?_ ?_); (· first | omega | (with_reducible refine Chk.intro ?_ ?_ <;> omega) | (simp; done) | (simp; omega))) | ((with_reducible refine LetW.i64 ?_ ?_ ?_); (· omega); (· omega)) | ((with_reducible refine Ite.decide (fun _ => ?_) (fun _ => ?_)) <;> first | (exfalso; omega) | simp (maxSteps := 1000000) only [go_sem, reduceCtorEq, Nat.reduceLT, Nat.reduceLeDiff, reduceIte, ↓reduceIte, Nat.reduceEqDiff, Nat.reduceAdd, Nat.reduceMul, Nat.reduceSub, Int.reduceLE, Int.reduceLT, Int.reduceNeg, Int.reduceToNat]) | ((with_reducible refine Ite.bool (fun _ => ?_) (fun _ => ?_)) <;> simp (maxSteps := 1000000) only [go_sem, reduceCtorEq, Nat.reduceLT, Nat.reduceLeDiff, reduceIte, ↓reduceIte, Nat.reduceEqDiff, Nat.reduceAdd, Nat.reduceMul, Nat.reduceSub, Int.reduceLE, Int.reduceLT, Int.reduceNeg, Int.reduceToNat]) | (with_reducible refine And.intro ?_ ?_) | omega | simp (maxSteps := 1000000) only [go_sem, reduceCtorEq, Nat.reduceLT, Nat.reduceLeDiff, reduceIte, ↓reduceIte, Nat.reduceEqDiff, Nat.reduceAdd, Nat.reduceMul, Nat.reduceSub, Int.reduceLE, Int.reduceLT, Int.reduceNeg, Int.reduceToNat])
  refine VcDraw.lex [8, 9] [(0, [1]), (1, [1]), (2, [1]), (3, [1]), (4, [1, 2]), (5, [1, 2]), (6, [1, 2]), (7, [1, 2])] (by kernel_rfl) (by kernel_rfl) ?_
  (repeat' first | (with_reducible refine Asm.intro fun _ => ?_) | ((with_reducible refine Chk.intro ?_ ?_); (· first | omega | (with_reducible refine Chk.intro ?_ ?_ <;> omega) | (simp; done) | (simp; omega))) | ((with_reducible refine LetW.i64 ?_ ?_ ?_); (· omega); (· omega)) | ((with_reducible refine Ite.decide (fun _ => ?_) (fun _ => ?_)) <;> first | (exfalso; omega) | simp (maxSteps := 1000000) only [go_sem, reduceCtorEq, Nat.reduceLT, Nat.reduceLeDiff, reduceIte, ↓reduceIte, Nat.reduceEqDiff, Nat.reduceAdd, Nat.reduceMul, Nat.reduceSub, Int.reduceLE, Int.reduceLT, Int.reduceNeg, Int.reduceToNat, w3, h3]) | ((with_reducible refine Ite.bool (fun _ => ?_) (fun _ => ?_)) <;> simp (maxSteps := 1000000) only [go_sem, reduceCtorEq, Nat.reduceLT, Nat.reduceLeDiff, reduceIte, ↓reduceIte, Nat.reduceEqDiff, Nat.reduceAdd, Nat.reduceMul, Nat.reduceSub, Int.reduceLE, Int.reduceLT, Int.reduceNeg, Int.reduceToNat, w3, h3]) | (with_reducible refine And.intro ?_ ?_) | omega | simp (maxSteps := 1000000) only [go_sem, reduceCtorEq, Nat.reduceLT, Nat.reduceLeDiff, reduceIte, ↓reduceIte, Nat.reduceEqDiff, Nat.reduceAdd, Nat.reduceMul, Nat.reduceSub, Int.reduceLE, Int.reduceLT, Int.reduceNeg, Int.reduceToNat, w3, h3])
  refine VcCall.fr (FnFr.of_ok k1 rfl rfl) (by simp only [argOkL, argOk, allOk, argOkN, List.drop_zero, lk, reduceIte, reduceCtorEq, Nat.reduceEqDiff, Option.some.injEq, Item.row.injEq, Item.box.injEq, AV.ro.injEq, exists_eq_left, exists_and_left, exists_eq_left', exists_eq_right, and_assoc, and_true, true_and, List.cons.injEq, exists_eq', exists_eq]) 1 rfl (by simp [rowsB, Item.below, Fv.below, belowL]) ?_
  (repeat' first | (with_reducible refine Asm.intro fun _ => ?_) | ((with_reducible refine Chk.intro ?_ ?_); (· first | omega | (with_reducible refine Chk.intro ?_ ?_ <;> omega) | (simp; done) | (simp; omega))) | ((with_reducible refine LetW.i64 ?_ ?_ ?_); (· omega); (· omega)) | ((with_reducible refine Ite.decide (fun _ => ?_) (fun _ => ?_)) <;> first | (exfalso; omega) | simp (maxSteps := 1000000) only [go_sem, reduceCtorEq, Nat.reduceLT, Nat.reduceLeDiff, reduceIte, ↓reduceIte, Nat.reduceEqDiff, Nat.reduceAdd, Nat.reduceMul, Nat.reduceSub, Int.reduceLE, Int.reduceLT, Int.reduceNeg, Int.reduceToNat]) | ((with_reducible refine Ite.bool (fun _ => ?_) (fun _ => ?_)) <;> simp (maxSteps := 1000000) only [go_sem, reduceCtorEq, Nat.reduceLT, Nat.reduceLeDiff, reduceIte, ↓reduceIte, Nat.reduceEqDiff, Nat.reduceAdd, Nat.reduceMul, Nat.reduceSub, Int.reduceLE, Int.reduceLT, Int.reduceNeg, Int.reduceToNat]) | (with_reducible refine And.intro ?_ ?_) | omega | simp (maxSteps := 1000000) only [go_sem, reduceCtorEq, Nat.reduceLT, Nat.reduceLeDiff, reduceIte, ↓reduceIte, Nat.reduceEqDiff, Nat.reduceAdd, Nat.reduceMul, Nat.reduceSub, Int.reduceLE, Int.reduceLT, Int.reduceNeg, Int.reduceToNat])
  refine Ret.auto 1 ?_ rfl ?_ <;> simp only [renL_caps, belowL_caps, mkL_caps, rep_bools, rep_ints, renL_bools, renL_ints, belowL_bools, belowL_ints, mkL_bools, mkL_ints, set_bools, set_ints, rets, rets1, retV, mkRet, tupOf, S.ev, List.map_cons, List.map_nil, envOk, subOk, mkRen, mkEnv, mkRows, mkItem, mkV, mkL, pm, S.get, lk, ren, renL, Fv.below, Fv.belowL, Item.ren, Item.below, List.append_nil, List.nil_append, List.cons_append, and_true, true_and, and_self, eq_self, reduceIte, reduceCtorEq, Nat.reduceEqDiff, Nat.reduceLT, Nat.reduceLeDiff, AV.own.injEq, AV.int.injEq, AV.bool.injEq, AV.str.injEq, AV.ro.injEq, AV.agg.injEq, AV.tup.injEq, List.cons.injEq, Option.some.injEq, Item.row.injEq, Item.box.injEq, RowV.ints.injEq, RowV.bools.injEq, RowV.strs.injEq, RowV.objs.injEq, List.not_mem_nil, false_implies, implies_true, List.mem_cons, forall_eq_or_imp, forall_eq, or_false, Nat.succ_ne_self, ne_eq, not_false_eq_true, or_true, true_or, Bool.and_self, Bool.and_true, decide_true, decide_eq_true_eq, Int.natCast_zero, decide_false, Post, List.drop_zero]
  simp (maxSteps := 1000000) only [go_sem, reduceCtorEq, Nat.reduceLT, Nat.reduceLeDiff, reduceIte, ↓reduceIte, Nat.reduceEqDiff, Nat.reduceAdd, Nat.reduceMul, Nat.reduceSub, Int.reduceLE, Int.reduceLT, Int.reduceNeg, Int.reduceToNat]
end Go.Fv.C
