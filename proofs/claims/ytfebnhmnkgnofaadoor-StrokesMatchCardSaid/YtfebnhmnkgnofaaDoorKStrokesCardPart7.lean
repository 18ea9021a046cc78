/-
  A part of the proof of the claim: walks over the program's functions and the plain laws that these need. No condition of its own.
-/
import Derived.Test.YtfebnhmnkgnofaaDoorKStrokesCardPart6
import Derived.Test.YtfebnhmnkgnofaaDoorKStrokesCardPart4
import Derived.Test.YtfebnhmnkgnofaaDoorKStrokesCardPart1
namespace Go.Fv.K
open Go Go.Proofs
set_option linter.unusedSimpArgs false
set_option linter.unusedVariables false
set_option maxRecDepth 8000

theorem refStrokes2_ok (w h : Nat) (hw : w ≤ 1000) (hh : h ≤ 1000) (p : List Bool) (hp : p.length = w * h) (i k : Nat) (hi : i < h) (hk : k < w) :
    FnOk Tryd.prog 81 [.int .i64 i, .int .i64 k, .cell [.int .i64 w, .int .i64 h, .ro (.bools p)]] (.bool (p.getD (i * w + k) false)) [] := by
  have k1 := refAt_ok w h (by omega) (by omega) p hp k i
  rw [atB_in p hk hi] at k1
  refine FnOk.of_vc Tryd.func81 rfl (by decide) (by simp [Tryd.f81]) [.tmp 5] rfl fun w0 T0 _ => ?_
  simp only [Tryd.f81, argEnv]
  (repeat' first | (with_reducible refine Asm.intro fun _ => ?_) | ((with_reducible refine Chk.intro ?_ ?_); (· first | omega | (with_reducible refine Chk.intro ?_ ?_ <;> omega) | (simp; done) | (simp; omega))) | (with_reducible refine AnyI.i64 fun _ _ => ?_) | ((with_reducible refine LetW.i64 ?_ ?_ ?_); (· omega); (· omega)) | ((with_reducible refine Ite.decide (fun _ => ?_) (fun _ => ?_)) <;> first | (exfalso; omega) | skip) | (with_reducible refine Ite.bool (fun _ => ?_) (fun _ => ?_)) | (with_reducible refine And.intro ?_ ?_) | omega | simp (maxSteps := 1000000) only [go_sem, reduceCtorEq, Nat.reduceLT, Nat.reduceLeDiff, reduceIte, ↓reduceIte, Nat.reduceEqDiff, Nat.reduceAdd, Nat.reduceMul, Nat.reduceSub, Int.reduceLE, Int.reduceLT, Int.reduceNeg, Int.reduceToNat])
  refine VcCall.fr (FnFr.of_ok k1 rfl rfl) (by simp only [noIdR_ok, argOkL, argOk, allOk, argOkN, List.drop_zero, lk, reduceIte, reduceCtorEq, Nat.reduceEqDiff, Option.some.injEq, Item.row.injEq, Item.box.injEq, AV.ro.injEq, exists_eq_left, exists_and_left, exists_eq_left', exists_eq_right, and_assoc, and_true, true_and, List.cons.injEq, exists_eq', exists_eq]) 0 rfl (by simp [rowsB]) ?_
  (repeat' first | (with_reducible refine Asm.intro fun _ => ?_) | ((with_reducible refine Chk.intro ?_ ?_); (· first | omega | (with_reducible refine Chk.intro ?_ ?_ <;> omega) | (simp; done) | (simp; omega))) | (with_reducible refine AnyI.i64 fun _ _ => ?_) | ((with_reducible refine LetW.i64 ?_ ?_ ?_); (· omega); (· omega)) | ((with_reducible refine Ite.decide (fun _ => ?_) (fun _ => ?_)) <;> first | (exfalso; omega) | skip) | (with_reducible refine Ite.bool (fun _ => ?_) (fun _ => ?_)) | (with_reducible refine And.intro ?_ ?_) | omega | simp (maxSteps := 1000000) only [go_sem, reduceCtorEq, Nat.reduceLT, Nat.reduceLeDiff, reduceIte, ↓reduceIte, Nat.reduceEqDiff, Nat.reduceAdd, Nat.reduceMul, Nat.reduceSub, Int.reduceLE, Int.reduceLT, Int.reduceNeg, Int.reduceToNat])
  refine Ret.auto 0 ?_ rfl ?_ <;> simp only [renR_ok, belowR_ok, mkR_ok, noIdR_ok, renL_caps, belowL_caps, mkL_caps, rep_bools, rep_ints, renL_bools, renL_ints, belowL_bools, belowL_ints, mkL_bools, mkL_ints, set_bools, set_ints, rets, rets1, retV, mkRet, tupOf, S.ev, List.map_cons, List.map_nil, envOk, subOk, mkRen, mkEnv, mkRows, mkItem, mkV, mkL, pm, S.get, lk, ren, renL, Fv.below, Fv.belowL, Item.ren, Item.below, List.append_nil, List.nil_append, List.cons_append, and_true, true_and, and_self, eq_self, reduceIte, reduceCtorEq, Nat.reduceEqDiff, Nat.reduceLT, Nat.reduceLeDiff, AV.own.injEq, AV.int.injEq, AV.bool.injEq, AV.str.injEq, AV.ro.injEq, AV.agg.injEq, AV.tup.injEq, List.cons.injEq, Option.some.injEq, Item.row.injEq, Item.box.injEq, RowV.ints.injEq, RowV.bools.injEq, RowV.strs.injEq, RowV.objs.injEq, List.not_mem_nil, false_implies, implies_true, List.mem_cons, forall_eq_or_imp, forall_eq, or_false, Nat.succ_ne_self, ne_eq, not_false_eq_true, or_true, true_or, Bool.and_self, Bool.and_true, decide_true, decide_eq_true_eq, Int.natCast_zero, decide_false, Post]
theorem refStrokes3_ok (w h : Nat) (hw : w ≤ 1000) (hh : h ≤ 1000) (p : List Bool) (hp : p.length = w * h) (i k : Nat) (hi : i < w) (hk : k < h) :
    FnOk Tryd.prog 82 [.int .i64 i, .int .i64 k, .cell [.int .i64 w, .int .i64 h, .ro (.bools p)]] (.bool (p.getD (k * w + i) false)) [] := by
  have k1 := refAt_ok w h (by omega) (by omega) p hp i k
  rw [atB_in p hi hk] at k1
  refine FnOk.of_vc Tryd.func82 rfl (by decide) (by simp [Tryd.f82]) [.tmp 5] rfl fun w0 T0 _ => ?_
  simp only [Tryd.f82, argEnv]
  (repeat' first | (with_reducible refine Asm.intro fun _ => ?_) | ((with_reducible refine Chk.intro ?_ ?_); (· first | omega | (with_reducible refine Chk.intro ?_ ?_ <;> omega) | (simp; done) | (simp; omega))) | (with_reducible refine AnyI.i64 fun _ _ => ?_) | ((with_reducible refine LetW.i64 ?_ ?_ ?_); (· omega); (· omega)) | ((with_reducible refine Ite.decide (fun _ => ?_) (fun _ => ?_)) <;> first | (exfalso; omega) | skip) | (with_reducible refine Ite.bool (fun _ => ?_) (fun _ => ?_)) | (with_reducible refine And.intro ?_ ?_) | omega | simp (maxSteps := 1000000) only [go_sem, reduceCtorEq, Nat.reduceLT, Nat.reduceLeDiff, reduceIte, ↓reduceIte, Nat.reduceEqDiff, Nat.reduceAdd, Nat.reduceMul, Nat.reduceSub, Int.reduceLE, Int.reduceLT, Int.reduceNeg, Int.reduceToNat])
  refine VcCall.fr (FnFr.of_ok k1 rfl rfl) (by simp only [noIdR_ok, argOkL, argOk, allOk, argOkN, List.drop_zero, lk, reduceIte, reduceCtorEq, Nat.reduceEqDiff, Option.some.injEq, Item.row.injEq, Item.box.injEq, AV.ro.injEq, exists_eq_left, exists_and_left, exists_eq_left', exists_eq_right, and_assoc, and_true, true_and, List.cons.injEq, exists_eq', exists_eq]) 0 rfl (by simp [rowsB]) ?_
  (repeat' first | (with_reducible refine Asm.intro fun _ => ?_) | ((with_reducible refine Chk.intro ?_ ?_); (· first | omega | (with_reducible refine Chk.intro ?_ ?_ <;> omega) | (simp; done) | (simp; omega))) | (with_reducible refine AnyI.i64 fun _ _ => ?_) | ((with_reducible refine LetW.i64 ?_ ?_ ?_); (· omega); (· omega)) | ((with_reducible refine Ite.decide (fun _ => ?_) (fun _ => ?_)) <;> first | (exfalso; omega) | skip) | (with_reducible refine Ite.bool (fun _ => ?_) (fun _ => ?_)) | (with_reducible refine And.intro ?_ ?_) | omega | simp (maxSteps := 1000000) only [go_sem, reduceCtorEq, Nat.reduceLT, Nat.reduceLeDiff, reduceIte, ↓reduceIte, Nat.reduceEqDiff, Nat.reduceAdd, Nat.reduceMul, Nat.reduceSub, Int.reduceLE, Int.reduceLT, Int.reduceNeg, Int.reduceToNat])
  refine Ret.auto 0 ?_ rfl ?_ <;> simp only [renR_ok, belowR_ok, mkR_ok, noIdR_ok, renL_caps, belowL_caps, mkL_caps, rep_bools, rep_ints, renL_bools, renL_ints, belowL_bools, belowL_ints, mkL_bools, mkL_ints, set_bools, set_ints, rets, rets1, retV, mkRet, tupOf, S.ev, List.map_cons, List.map_nil, envOk, subOk, mkRen, mkEnv, mkRows, mkItem, mkV, mkL, pm, S.get, lk, ren, renL, Fv.below, Fv.belowL, Item.ren, Item.below, List.append_nil, List.nil_append, List.cons_append, and_true, true_and, and_self, eq_self, reduceIte, reduceCtorEq, Nat.reduceEqDiff, Nat.reduceLT, Nat.reduceLeDiff, AV.own.injEq, AV.int.injEq, AV.bool.injEq, AV.str.injEq, AV.ro.injEq, AV.agg.injEq, AV.tup.injEq, List.cons.injEq, Option.some.injEq, Item.row.injEq, Item.box.injEq, RowV.ints.injEq, RowV.bools.injEq, RowV.strs.injEq, RowV.objs.injEq, List.not_mem_nil, false_implies, implies_true, List.mem_cons, forall_eq_or_imp, forall_eq, or_false, Nat.succ_ne_self, ne_eq, not_false_eq_true, or_true, true_or, Bool.and_self, Bool.and_true, decide_true, decide_eq_true_eq, Int.natCast_zero, decide_false, Post]
set_option maxHeartbeats 8000000 in
theorem refCount_ok (w h : Nat) (p : List Bool) (f : Nat) (F : Nat → Nat → Bool) (many long : Nat) (hmn : many ≤ 1000) (hln : long ≤ 1000)
    (hf : ∀ i k : Nat, i < many → k < long → FnFr Tryd.prog f [.int .i64 i, .int .i64 k, .cell [.int .i64 w, .int .i64 h, .ro (.bools p)]] (.bool (F i k)) [])
    (l : List Int) (hl : l.length ≤ 1000000000) :
    FnIO Tryd.prog 80 [.int .i64 many, .int .i64 long, .fn f [.ptr 0 0], .ptr 1 0]
      [(0, .box 29 [.int .i64 w, .int .i64 h, .ro (.bools p)]), (1, .box 89 [.own 2]), (2, .map (cKs l) (cVs l))] 3 (.tup [])
      [(0, .box 29 [.int .i64 w, .int .i64 h, .ro (.bools p)]), (1, .box 89 [.own 2]), (2, .map (cKs (l ++ linesL F long many)) (cVs (l ++ linesL F long many)))] := by
  refine FnIO.of_vc Tryd.func80 rfl (by decide) (by simp [Tryd.f80]) cov3 [] rfl fun w0 T0 _ => ?_
  simp only [Tryd.f80, argEnv]
  (repeat' first | (with_reducible refine Asm.intro fun _ => ?_) | ((with_reducible refine Chk.intro ?_ ?_); (· first | omega | (with_reducible refine Chk.intro ?_ ?_ <;> omega) | (simp; done) | (simp; omega))) | (with_reducible refine AnyI.i64 fun _ _ => ?_) | ((with_reducible refine LetW.i64 ?_ ?_ ?_); (· omega); (· omega)) | ((with_reducible refine Ite.decide (fun _ => ?_) (fun _ => ?_)) <;> first | (exfalso; omega) | skip) | (with_reducible refine Ite.bool (fun _ => ?_) (fun _ => ?_)) | (with_reducible refine And.intro ?_ ?_) | omega | simp (maxSteps := 1000000) only [go_sem, reduceCtorEq, Nat.reduceLT, Nat.reduceLeDiff, reduceIte, ↓reduceIte, Nat.reduceEqDiff, Nat.reduceAdd, Nat.reduceMul, Nat.reduceSub, Int.reduceLE, Int.reduceLT, Int.reduceNeg, Int.reduceToNat])
  refine VcLoop.intro (fun i : Nat => ⟨38, [(11, .int .i64 i), (10, .int .i64 many), (1, .int .i64 long), (2, .fn f [.ptr 0 0]), (3, .ptr 1 0)], [(0, .box 29 [.int .i64 w, .int .i64 h, .ro (.bools p)]), (1, .box 89 [.own 2]), (2, .map (cKs (l ++ linesL F long i)) (cVs (l ++ linesL F long i)))], 3⟩) (fun i => i ≤ many) (fun i => many - i) 0 ?_ (Nat.zero_le _) fun i hi => ?_
  · refine Ent.autoK 3 rfl (Nat.le_refl 3) ?_ ?_ <;> simp only [renR_ok, belowR_ok, mkR_ok, noIdR_ok, renL_caps, belowL_caps, mkL_caps, rep_bools, rep_ints, renL_bools, renL_ints, belowL_bools, belowL_ints, mkL_bools, mkL_ints, set_bools, set_ints, rets, rets1, retV, mkRet, tupOf, S.ev, List.map_cons, List.map_nil, envOk, subOk, mkRen, mkEnv, mkRows, mkItem, mkV, mkL, pm, S.get, lk, ren, renL, Fv.below, Fv.belowL, Item.ren, Item.below, List.append_nil, List.nil_append, List.cons_append, and_true, true_and, and_self, eq_self, reduceIte, reduceCtorEq, Nat.reduceEqDiff, Nat.reduceLT, Nat.reduceLeDiff, AV.own.injEq, AV.int.injEq, AV.bool.injEq, AV.str.injEq, AV.ro.injEq, AV.agg.injEq, AV.tup.injEq, List.cons.injEq, Option.some.injEq, Item.row.injEq, Item.box.injEq, RowV.ints.injEq, RowV.bools.injEq, RowV.strs.injEq, RowV.objs.injEq, List.not_mem_nil, false_implies, implies_true, List.mem_cons, forall_eq_or_imp, forall_eq, or_false, Nat.succ_ne_self, ne_eq, not_false_eq_true, or_true, true_or, Bool.and_self, Bool.and_true, decide_true, decide_eq_true_eq, Int.natCast_zero, decide_false, linesL, fromL, ren_cKs, ren_cVs, below_cKs, below_cVs, mk_cKs, mk_cVs]
  have hnx : linesL F long (i + 1) = linesL F long i ++ runL (lineG F long i) (long + 1) := rfl
  have hll := linesL_len F long i
  have hll2 : i * (long + 1) ≤ 1000 * 1001 := Nat.mul_le_mul (by omega) (by omega)
  have hG : ∀ k : Nat, lineG F long i k = (decide (k < long) && F i k) := fun _ => rfl
  generalize hL1 : linesL F long (i + 1) = L1 at *
  generalize hL0 : linesL F long i = L0 at *
  generalize lineG F long i = g at *
  (repeat' first | (with_reducible refine Asm.intro fun _ => ?_) | ((with_reducible refine Chk.intro ?_ ?_); (· first | omega | (with_reducible refine Chk.intro ?_ ?_ <;> omega) | (simp; done) | (simp; omega))) | (with_reducible refine AnyI.i64 fun _ _ => ?_) | ((with_reducible refine LetW.i64 ?_ ?_ ?_); (· omega); (· omega)) | ((with_reducible refine Ite.decide (fun _ => ?_) (fun _ => ?_)) <;> first | (exfalso; omega) | skip) | (with_reducible refine Ite.bool (fun _ => ?_) (fun _ => ?_)) | (with_reducible refine And.intro ?_ ?_) | omega | simp (maxSteps := 1000000) only [go_sem, reduceCtorEq, Nat.reduceLT, Nat.reduceLeDiff, reduceIte, ↓reduceIte, Nat.reduceEqDiff, Nat.reduceAdd, Nat.reduceMul, Nat.reduceSub, Int.reduceLE, Int.reduceLT, Int.reduceNeg, Int.reduceToNat])
  · refine VcLoop.intro (fun k : Nat => ⟨38, [(16, .int .i64 k), (15, .int .i64 ((long : Int) + 1)), (8, .int .i64 (runAt g k)), (7, .int .i64 i), (11, .int .i64 i), (10, .int .i64 many), (1, .int .i64 long), (2, .fn f [.ptr 0 0]), (3, .ptr 1 0)], [(0, .box 29 [.int .i64 w, .int .i64 h, .ro (.bools p)]), (1, .box 89 [.own 2]), (2, .map (cKs (l ++ L0 ++ runL g k)) (cVs (l ++ L0 ++ runL g k)))], 3⟩) (fun k => k ≤ long + 1) (fun k => long + 1 - k) 0 ?_ (Nat.zero_le _) fun k hk => ?_
    · refine Ent.autoK 3 rfl (Nat.le_refl 3) ?_ ?_ <;> simp only [renR_ok, belowR_ok, mkR_ok, noIdR_ok, renL_caps, belowL_caps, mkL_caps, rep_bools, rep_ints, renL_bools, renL_ints, belowL_bools, belowL_ints, mkL_bools, mkL_ints, set_bools, set_ints, rets, rets1, retV, mkRet, tupOf, S.ev, List.map_cons, List.map_nil, envOk, subOk, mkRen, mkEnv, mkRows, mkItem, mkV, mkL, pm, S.get, lk, ren, renL, Fv.below, Fv.belowL, Item.ren, Item.below, List.append_nil, List.nil_append, List.cons_append, and_true, true_and, and_self, eq_self, reduceIte, reduceCtorEq, Nat.reduceEqDiff, Nat.reduceLT, Nat.reduceLeDiff, AV.own.injEq, AV.int.injEq, AV.bool.injEq, AV.str.injEq, AV.ro.injEq, AV.agg.injEq, AV.tup.injEq, List.cons.injEq, Option.some.injEq, Item.row.injEq, Item.box.injEq, RowV.ints.injEq, RowV.bools.injEq, RowV.strs.injEq, RowV.objs.injEq, List.not_mem_nil, false_implies, implies_true, List.mem_cons, forall_eq_or_imp, forall_eq, or_false, Nat.succ_ne_self, ne_eq, not_false_eq_true, or_true, true_or, Bool.and_self, Bool.and_true, decide_true, decide_eq_true_eq, Int.natCast_zero, decide_false, runAt, runL, fromL, ren_cKs, ren_cVs, below_cKs, below_cVs, mk_cKs, mk_cVs]
    have hra := runAt_bd g k
    have hrl := runL_len g k
    have era : runAt g (k + 1) = if g k = true then runAt g k + 1 else 0 := rfl
    have erl : runL g (k + 1) = if g k = true then runL g k else if 0 < runAt g k then runL g k ++ [runAt g k] else runL g k := rfl
    have hcb := cnt_bd (l ++ L0 ++ runL g k) (runAt g k)
    have hcl : (l ++ L0 ++ runL g k).length ≤ 2000000000 := by simp only [List.length_append]; omega
    have eas : (l ++ L0 ++ runL g k) ++ [runAt g k] = l ++ L0 ++ (runL g k ++ [runAt g k]) := List.append_assoc _ _ _
    have hgk := hG k
    generalize runAt g k = r at *
    have e1 := getI_cnt (l ++ L0 ++ runL g k) r
    have e2 := updKs_cnt (l ++ L0 ++ runL g k) r
    have e3 := updVs_cnt (l ++ L0 ++ runL g k) r
    have e4 := isI_cnt (l ++ L0 ++ runL g k)
    have e5 : KeysT Tryd.prog 3 (cKs (l ++ L0 ++ runL g k)) := keysT_cnt (by kernel_rfl) _
    rw [eas] at e2 e3
    have stp : g k = true → runAt g (k + 1) = r + 1 ∧ runL g (k + 1) = runL g k := fun h => by rw [era, erl, if_pos h, if_pos h]; exact ⟨rfl, rfl⟩
    have stn : g k = false → 0 < r → runAt g (k + 1) = 0 ∧ runL g (k + 1) = runL g k ++ [r] := fun h h2 => by rw [era, erl, if_neg (by simp [h]), if_neg (by simp [h]), if_pos h2]; exact ⟨rfl, rfl⟩
    have stz : g k = false → ¬ 0 < r → runAt g (k + 1) = 0 ∧ runL g (k + 1) = runL g k := fun h h2 => by rw [era, erl, if_neg (by simp [h]), if_neg (by simp [h]), if_neg h2]; exact ⟨rfl, rfl⟩
    clear era erl
    by_cases hkl : k < long
    · rw [decide_eq_true hkl, Bool.true_and] at hgk
      have hdk : decide ((k : Int) < long) = true := by simp; exact hkl
      (repeat' first | (with_reducible refine Asm.intro fun _ => ?_) | ((with_reducible refine Chk.intro ?_ ?_); (· first | omega | (with_reducible refine Chk.intro ?_ ?_ <;> omega) | (simp; done) | (simp; omega))) | (with_reducible refine AnyI.i64 fun _ _ => ?_) | ((with_reducible refine LetW.i64 ?_ ?_ ?_); (· omega); (· omega)) | ((with_reducible refine Ite.decide (fun _ => ?_) (fun _ => ?_)) <;> first | (exfalso; omega) | skip) | (with_reducible refine Ite.bool (fun _ => ?_) (fun _ => ?_)) | (with_reducible refine And.intro ?_ ?_) | omega | simp (maxSteps := 1000000) only [go_sem, reduceCtorEq, Nat.reduceLT, Nat.reduceLeDiff, reduceIte, ↓reduceIte, Nat.reduceEqDiff, Nat.reduceAdd, Nat.reduceMul, Nat.reduceSub, Int.reduceLE, Int.reduceLT, Int.reduceNeg, Int.reduceToNat, hdk])
      refine VcCall.fr (hf i k (by omega) hkl) (by simp only [noIdR_ok, argOkL, argOk, allOk, argOkN, List.drop_zero, lk, reduceIte, reduceCtorEq, Nat.reduceEqDiff, Option.some.injEq, Item.row.injEq, Item.box.injEq, AV.ro.injEq, exists_eq_left, exists_and_left, exists_eq_left', exists_eq_right, and_assoc, and_true, true_and, List.cons.injEq, exists_eq', exists_eq]) 0 rfl (by simp [rowsB]) ?_
      rw [← hgk]
      (repeat' first | (with_reducible refine Asm.intro fun _ => ?_) | ((with_reducible refine Chk.intro ?_ ?_); (· first | omega | (with_reducible refine Chk.intro ?_ ?_ <;> omega) | (simp; done) | (simp; omega))) | (with_reducible refine AnyI.i64 fun _ _ => ?_) | ((with_reducible refine LetW.i64 ?_ ?_ ?_); (· omega); (· omega)) | ((with_reducible refine Ite.decide (fun _ => ?_) (fun _ => ?_)) <;> first | (exfalso; omega) | skip) | (with_reducible refine Ite.bool (fun _ => ?_) (fun _ => ?_)) | (with_reducible refine And.intro ?_ ?_) | omega | simp (maxSteps := 1000000) only [go_sem, reduceCtorEq, Nat.reduceLT, Nat.reduceLeDiff, reduceIte, ↓reduceIte, Nat.reduceEqDiff, Nat.reduceAdd, Nat.reduceMul, Nat.reduceSub, Int.reduceLE, Int.reduceLT, Int.reduceNeg, Int.reduceToNat, e1, e2, e3, e4, e5])
      · have s := stp (by assumption)
        refine ⟨k + 1, Ent.autoK 3 rfl (Nat.le_refl 3) ?_ ?_, by omega, by omega⟩ <;> simp only [renR_ok, belowR_ok, mkR_ok, noIdR_ok, renL_caps, belowL_caps, mkL_caps, rep_bools, rep_ints, renL_bools, renL_ints, belowL_bools, belowL_ints, mkL_bools, mkL_ints, set_bools, set_ints, rets, rets1, retV, mkRet, tupOf, S.ev, List.map_cons, List.map_nil, envOk, subOk, mkRen, mkEnv, mkRows, mkItem, mkV, mkL, pm, S.get, lk, ren, renL, Fv.below, Fv.belowL, Item.ren, Item.below, List.append_nil, List.nil_append, List.cons_append, and_true, true_and, and_self, eq_self, reduceIte, reduceCtorEq, Nat.reduceEqDiff, Nat.reduceLT, Nat.reduceLeDiff, AV.own.injEq, AV.int.injEq, AV.bool.injEq, AV.str.injEq, AV.ro.injEq, AV.agg.injEq, AV.tup.injEq, List.cons.injEq, Option.some.injEq, Item.row.injEq, Item.box.injEq, RowV.ints.injEq, RowV.bools.injEq, RowV.strs.injEq, RowV.objs.injEq, List.not_mem_nil, false_implies, implies_true, List.mem_cons, forall_eq_or_imp, forall_eq, or_false, Nat.succ_ne_self, ne_eq, not_false_eq_true, or_true, true_or, Bool.and_self, Bool.and_true, decide_true, decide_eq_true_eq, Int.natCast_zero, decide_false, s.1, s.2, e3, fromL, ren_cKs, ren_cVs, below_cKs, below_cVs, mk_cKs, mk_cVs]
        rfl
      · have s := stn (by assumption) (by assumption)
        refine ⟨k + 1, Ent.autoK 3 rfl (Nat.le_refl 3) ?_ ?_, by omega, by omega⟩ <;> simp only [renR_ok, belowR_ok, mkR_ok, noIdR_ok, renL_caps, belowL_caps, mkL_caps, rep_bools, rep_ints, renL_bools, renL_ints, belowL_bools, belowL_ints, mkL_bools, mkL_ints, set_bools, set_ints, rets, rets1, retV, mkRet, tupOf, S.ev, List.map_cons, List.map_nil, envOk, subOk, mkRen, mkEnv, mkRows, mkItem, mkV, mkL, pm, S.get, lk, ren, renL, Fv.below, Fv.belowL, Item.ren, Item.below, List.append_nil, List.nil_append, List.cons_append, and_true, true_and, and_self, eq_self, reduceIte, reduceCtorEq, Nat.reduceEqDiff, Nat.reduceLT, Nat.reduceLeDiff, AV.own.injEq, AV.int.injEq, AV.bool.injEq, AV.str.injEq, AV.ro.injEq, AV.agg.injEq, AV.tup.injEq, List.cons.injEq, Option.some.injEq, Item.row.injEq, Item.box.injEq, RowV.ints.injEq, RowV.bools.injEq, RowV.strs.injEq, RowV.objs.injEq, List.not_mem_nil, false_implies, implies_true, List.mem_cons, forall_eq_or_imp, forall_eq, or_false, Nat.succ_ne_self, ne_eq, not_false_eq_true, or_true, true_or, Bool.and_self, Bool.and_true, decide_true, decide_eq_true_eq, Int.natCast_zero, decide_false, s.1, s.2, e3, fromL, ren_cKs, ren_cVs, below_cKs, below_cVs, mk_cKs, mk_cVs]
        rfl
      · have s := stz (by assumption) (by assumption)
        refine ⟨k + 1, Ent.autoK 3 rfl (Nat.le_refl 3) ?_ ?_, by omega, by omega⟩ <;> simp only [renR_ok, belowR_ok, mkR_ok, noIdR_ok, renL_caps, belowL_caps, mkL_caps, rep_bools, rep_ints, renL_bools, renL_ints, belowL_bools, belowL_ints, mkL_bools, mkL_ints, set_bools, set_ints, rets, rets1, retV, mkRet, tupOf, S.ev, List.map_cons, List.map_nil, envOk, subOk, mkRen, mkEnv, mkRows, mkItem, mkV, mkL, pm, S.get, lk, ren, renL, Fv.below, Fv.belowL, Item.ren, Item.below, List.append_nil, List.nil_append, List.cons_append, and_true, true_and, and_self, eq_self, reduceIte, reduceCtorEq, Nat.reduceEqDiff, Nat.reduceLT, Nat.reduceLeDiff, AV.own.injEq, AV.int.injEq, AV.bool.injEq, AV.str.injEq, AV.ro.injEq, AV.agg.injEq, AV.tup.injEq, List.cons.injEq, Option.some.injEq, Item.row.injEq, Item.box.injEq, RowV.ints.injEq, RowV.bools.injEq, RowV.strs.injEq, RowV.objs.injEq, List.not_mem_nil, false_implies, implies_true, List.mem_cons, forall_eq_or_imp, forall_eq, or_false, Nat.succ_ne_self, ne_eq, not_false_eq_true, or_true, true_or, Bool.and_self, Bool.and_true, decide_true, decide_eq_true_eq, Int.natCast_zero, decide_false, s.1, s.2, e3, fromL, ren_cKs, ren_cVs, below_cKs, below_cVs, mk_cKs, mk_cVs]
        rfl
    · rw [decide_eq_false hkl, Bool.false_and] at hgk
      (repeat' first | (with_reducible refine Asm.intro fun _ => ?_) | ((with_reducible refine Chk.intro ?_ ?_); (· first | omega | (with_reducible refine Chk.intro ?_ ?_ <;> omega) | (simp; done) | (simp; omega))) | (with_reducible refine AnyI.i64 fun _ _ => ?_) | ((with_reducible refine LetW.i64 ?_ ?_ ?_); (· omega); (· omega)) | ((with_reducible refine Ite.decide (fun _ => ?_) (fun _ => ?_)) <;> first | (exfalso; omega) | skip) | (with_reducible refine Ite.bool (fun _ => ?_) (fun _ => ?_)) | (with_reducible refine And.intro ?_ ?_) | omega | simp (maxSteps := 1000000) only [go_sem, reduceCtorEq, Nat.reduceLT, Nat.reduceLeDiff, reduceIte, ↓reduceIte, Nat.reduceEqDiff, Nat.reduceAdd, Nat.reduceMul, Nat.reduceSub, Int.reduceLE, Int.reduceLT, Int.reduceNeg, Int.reduceToNat, e1, e2, e3, e4, e5])
      · have s := stn hgk (by assumption)
        refine ⟨k + 1, Ent.autoK 3 rfl (Nat.le_refl 3) ?_ ?_, by omega, by omega⟩ <;> simp only [renR_ok, belowR_ok, mkR_ok, noIdR_ok, renL_caps, belowL_caps, mkL_caps, rep_bools, rep_ints, renL_bools, renL_ints, belowL_bools, belowL_ints, mkL_bools, mkL_ints, set_bools, set_ints, rets, rets1, retV, mkRet, tupOf, S.ev, List.map_cons, List.map_nil, envOk, subOk, mkRen, mkEnv, mkRows, mkItem, mkV, mkL, pm, S.get, lk, ren, renL, Fv.below, Fv.belowL, Item.ren, Item.below, List.append_nil, List.nil_append, List.cons_append, and_true, true_and, and_self, eq_self, reduceIte, reduceCtorEq, Nat.reduceEqDiff, Nat.reduceLT, Nat.reduceLeDiff, AV.own.injEq, AV.int.injEq, AV.bool.injEq, AV.str.injEq, AV.ro.injEq, AV.agg.injEq, AV.tup.injEq, List.cons.injEq, Option.some.injEq, Item.row.injEq, Item.box.injEq, RowV.ints.injEq, RowV.bools.injEq, RowV.strs.injEq, RowV.objs.injEq, List.not_mem_nil, false_implies, implies_true, List.mem_cons, forall_eq_or_imp, forall_eq, or_false, Nat.succ_ne_self, ne_eq, not_false_eq_true, or_true, true_or, Bool.and_self, Bool.and_true, decide_true, decide_eq_true_eq, Int.natCast_zero, decide_false, s.1, s.2, e3, fromL, ren_cKs, ren_cVs, below_cKs, below_cVs, mk_cKs, mk_cVs]
        rfl
      · have s := stz hgk (by assumption)
        refine ⟨k + 1, Ent.autoK 3 rfl (Nat.le_refl 3) ?_ ?_, by omega, by omega⟩ <;> simp only [renR_ok, belowR_ok, mkR_ok, noIdR_ok, renL_caps, belowL_caps, mkL_caps, rep_bools, rep_ints, renL_bools, renL_ints, belowL_bools, belowL_ints, mkL_bools, mkL_ints, set_bools, set_ints, rets, rets1, retV, mkRet, tupOf, S.ev, List.map_cons, List.map_nil, envOk, subOk, mkRen, mkEnv, mkRows, mkItem, mkV, mkL, pm, S.get, lk, ren, renL, Fv.below, Fv.belowL, Item.ren, Item.below, List.append_nil, List.nil_append, List.cons_append, and_true, true_and, and_self, eq_self, reduceIte, reduceCtorEq, Nat.reduceEqDiff, Nat.reduceLT, Nat.reduceLeDiff, AV.own.injEq, AV.int.injEq, AV.bool.injEq, AV.str.injEq, AV.ro.injEq, AV.agg.injEq, AV.tup.injEq, List.cons.injEq, Option.some.injEq, Item.row.injEq, Item.box.injEq, RowV.ints.injEq, RowV.bools.injEq, RowV.strs.injEq, RowV.objs.injEq, List.not_mem_nil, false_implies, implies_true, List.mem_cons, forall_eq_or_imp, forall_eq, or_false, Nat.succ_ne_self, ne_eq, not_false_eq_true, or_true, true_or, Bool.and_self, Bool.and_true, decide_true, decide_eq_true_eq, Int.natCast_zero, decide_false, s.1, s.2, e3, fromL, ren_cKs, ren_cVs, below_cKs, below_cVs, mk_cKs, mk_cVs]
        rfl
      · have ek : k = long + 1 := by omega
        subst ek
        refine ⟨i + 1, Ent.autoK 3 rfl (Nat.le_refl 3) ?_ ?_, by omega, by omega⟩ <;> simp only [renR_ok, belowR_ok, mkR_ok, noIdR_ok, renL_caps, belowL_caps, mkL_caps, rep_bools, rep_ints, renL_bools, renL_ints, belowL_bools, belowL_ints, mkL_bools, mkL_ints, set_bools, set_ints, rets, rets1, retV, mkRet, tupOf, S.ev, List.map_cons, List.map_nil, envOk, subOk, mkRen, mkEnv, mkRows, mkItem, mkV, mkL, pm, S.get, lk, ren, renL, Fv.below, Fv.belowL, Item.ren, Item.below, List.append_nil, List.nil_append, List.cons_append, and_true, true_and, and_self, eq_self, reduceIte, reduceCtorEq, Nat.reduceEqDiff, Nat.reduceLT, Nat.reduceLeDiff, AV.own.injEq, AV.int.injEq, AV.bool.injEq, AV.str.injEq, AV.ro.injEq, AV.agg.injEq, AV.tup.injEq, List.cons.injEq, Option.some.injEq, Item.row.injEq, Item.box.injEq, RowV.ints.injEq, RowV.bools.injEq, RowV.strs.injEq, RowV.objs.injEq, List.not_mem_nil, false_implies, implies_true, List.mem_cons, forall_eq_or_imp, forall_eq, or_false, Nat.succ_ne_self, ne_eq, not_false_eq_true, or_true, true_or, Bool.and_self, Bool.and_true, decide_true, decide_eq_true_eq, Int.natCast_zero, decide_false, hL1, hnx, List.append_assoc, fromL, ren_cKs, ren_cVs, below_cKs, below_cVs, mk_cKs, mk_cVs]
        rfl
  · have e : i = many := by omega
    subst e
    refine RetK.auto 3 (Nat.le_refl 3) ?_ rfl ?_ <;> simp only [renR_ok, belowR_ok, mkR_ok, noIdR_ok, renL_caps, belowL_caps, mkL_caps, rep_bools, rep_ints, renL_bools, renL_ints, belowL_bools, belowL_ints, mkL_bools, mkL_ints, set_bools, set_ints, rets, rets1, retV, mkRet, tupOf, S.ev, List.map_cons, List.map_nil, envOk, subOk, mkRen, mkEnv, mkRows, mkItem, mkV, mkL, pm, S.get, lk, ren, renL, Fv.below, Fv.belowL, Item.ren, Item.below, List.append_nil, List.nil_append, List.cons_append, and_true, true_and, and_self, eq_self, reduceIte, reduceCtorEq, Nat.reduceEqDiff, Nat.reduceLT, Nat.reduceLeDiff, AV.own.injEq, AV.int.injEq, AV.bool.injEq, AV.str.injEq, AV.ro.injEq, AV.agg.injEq, AV.tup.injEq, List.cons.injEq, Option.some.injEq, Item.row.injEq, Item.box.injEq, RowV.ints.injEq, RowV.bools.injEq, RowV.strs.injEq, RowV.objs.injEq, List.not_mem_nil, false_implies, implies_true, List.mem_cons, forall_eq_or_imp, forall_eq, or_false, Nat.succ_ne_self, ne_eq, not_false_eq_true, or_true, true_or, Bool.and_self, Bool.and_true, decide_true, decide_eq_true_eq, Int.natCast_zero, decide_false, hL0, fromL, ren_cKs, ren_cVs, below_cKs, below_cVs, mk_cKs, mk_cVs]
set_option maxHeartbeats 8000000 in
theorem refStrokes_ok (w h : Nat) (hw1 : 1 ≤ w) (hw : w ≤ 1000) (hh1 : 1 ≤ h) (hh : h ≤ 1000) (p : List Bool) (hp : p.length = w * h) :
    FnOk Tryd.prog 30 [.agg [.int .i64 w, .int .i64 h, .ro (.bools p)]] (.int .i64 (bestOf (runsOf p w h))) [] := by
  have k1 := refCount_ok w h p 81 (fun i k => p.getD (i * w + k) false) h w hh hw (fun i k hi hk => FnFr.of_ok (refStrokes2_ok w h hw hh p hp i k hi hk) rfl rfl) [] (by decide)
  have hl := linesL_len (fun i k => p.getD (i * w + k) false) w h
  have hl2 : h * (w + 1) ≤ 1000 * 1001 := Nat.mul_le_mul hh (by omega)
  rw [List.nil_append] at k1
  have k2 := refCount_ok w h p 82 (fun i k => p.getD (k * w + i) false) w h hw hh (fun i k hi hk => FnFr.of_ok (refStrokes3_ok w h hw hh p hp i k hi hk) rfl rfl) (linesL (fun i k => p.getD (i * w + k) false) w h) (by omega)
  have hl3 := linesL_len (fun i k => p.getD (k * w + i) false) h w
  have hl4 : w * (h + 1) ≤ 1000 * 1001 := Nat.mul_le_mul hw (by omega)
  have hpos := runsOf_pos p w h
  have hlen : (runsOf p w h).length ≤ 3000000 := by unfold runsOf; rw [List.length_append]; omega
  rw [show linesL (fun i k => p.getD (i * w + k) false) w h ++ linesL (fun i k => p.getD (k * w + i) false) h w = runsOf p w h from rfl] at k2
  generalize runsOf p w h = l at *
  generalize linesL (fun i k => p.getD (i * w + k) false) w h = l1 at *
  refine FnOk.of_vc Tryd.func30 rfl (by decide) (by simp [Tryd.f30]) [.tmp 2] rfl fun w0 T0 _ => ?_
  simp only [Tryd.f30, argEnv]
  (repeat' first | (with_reducible refine Asm.intro fun _ => ?_) | ((with_reducible refine Chk.intro ?_ ?_); (· first | omega | (with_reducible refine Chk.intro ?_ ?_ <;> omega) | (simp; done) | (simp; omega))) | (with_reducible refine AnyI.i64 fun _ _ => ?_) | ((with_reducible refine LetW.i64 ?_ ?_ ?_); (· omega); (· omega)) | ((with_reducible refine Ite.decide (fun _ => ?_) (fun _ => ?_)) <;> first | (exfalso; omega) | skip) | (with_reducible refine Ite.bool (fun _ => ?_) (fun _ => ?_)) | (with_reducible refine And.intro ?_ ?_) | omega | simp (maxSteps := 1000000) only [go_sem, reduceCtorEq, Nat.reduceLT, Nat.reduceLeDiff, reduceIte, ↓reduceIte, Nat.reduceEqDiff, Nat.reduceAdd, Nat.reduceMul, Nat.reduceSub, Int.reduceLE, Int.reduceLT, Int.reduceNeg, Int.reduceToNat])
  have e0 : cKs [] = [] ∧ cVs [] = [] := ⟨rfl, rfl⟩
  rw [e0.1, e0.2] at k1
  refine VcCall.io [0, 2, 1] k1 (by decide) (by simp [renL, ren, ioN]) rfl (by simp [subOk, ioN, lk, Item.ren, Item.below, ren, renL, belowL, Fv.below]) cov3 3 (Nat.le_refl 3) rfl (by simp [rowsB, Item.below, Fv.below, belowL, below_cKs, below_cVs]) ?_
  (repeat' first | (with_reducible refine Asm.intro fun _ => ?_) | ((with_reducible refine Chk.intro ?_ ?_); (· first | omega | (with_reducible refine Chk.intro ?_ ?_ <;> omega) | (simp; done) | (simp; omega))) | (with_reducible refine AnyI.i64 fun _ _ => ?_) | ((with_reducible refine LetW.i64 ?_ ?_ ?_); (· omega); (· omega)) | ((with_reducible refine Ite.decide (fun _ => ?_) (fun _ => ?_)) <;> first | (exfalso; omega) | skip) | (with_reducible refine Ite.bool (fun _ => ?_) (fun _ => ?_)) | (with_reducible refine And.intro ?_ ?_) | omega | simp (maxSteps := 1000000) only [go_sem, reduceCtorEq, Nat.reduceLT, Nat.reduceLeDiff, reduceIte, ↓reduceIte, Nat.reduceEqDiff, Nat.reduceAdd, Nat.reduceMul, Nat.reduceSub, Int.reduceLE, Int.reduceLT, Int.reduceNeg, Int.reduceToNat, S.ioS, ioRows, ioN, delL, Item.ren, ren, renL, ren_cKs, ren_cVs, List.length_cons, List.length_nil, List.getElem?_cons_zero, List.getElem?_cons_succ, List.cons_append, List.nil_append, Nat.reduceAdd, Nat.sub_self, Nat.add_zero, List.filter])
  refine VcCall.io [0, 2, 1] k2 (by decide) (by simp [renL, ren, ioN]) rfl (by simp [subOk, ioN, lk, Item.ren, Item.below, ren, renL, belowL, Fv.below, ren_cKs, ren_cVs, below_cKs, below_cVs]) cov3 3 (Nat.le_refl 3) rfl (by simp [rowsB, Item.below, Fv.below, belowL, below_cKs, below_cVs]) ?_
  (repeat' first | (with_reducible refine Asm.intro fun _ => ?_) | ((with_reducible refine Chk.intro ?_ ?_); (· first | omega | (with_reducible refine Chk.intro ?_ ?_ <;> omega) | (simp; done) | (simp; omega))) | (with_reducible refine AnyI.i64 fun _ _ => ?_) | ((with_reducible refine LetW.i64 ?_ ?_ ?_); (· omega); (· omega)) | ((with_reducible refine Ite.decide (fun _ => ?_) (fun _ => ?_)) <;> first | (exfalso; omega) | skip) | (with_reducible refine Ite.bool (fun _ => ?_) (fun _ => ?_)) | (with_reducible refine And.intro ?_ ?_) | omega | simp (maxSteps := 1000000) only [go_sem, reduceCtorEq, Nat.reduceLT, Nat.reduceLeDiff, reduceIte, ↓reduceIte, Nat.reduceEqDiff, Nat.reduceAdd, Nat.reduceMul, Nat.reduceSub, Int.reduceLE, Int.reduceLT, Int.reduceNeg, Int.reduceToNat, S.ioS, ioRows, ioN, delL, Item.ren, ren, renL, ren_cKs, ren_cVs, List.length_cons, List.length_nil, List.getElem?_cons_zero, List.getElem?_cons_succ, List.cons_append, List.nil_append, Nat.reduceAdd, Nat.sub_self, Nat.add_zero, List.filter])
  refine VcLoop.intro (fun x : List Nat × Int => ⟨54, [(5, .int .i64 x.2), (25, .ptr 2 0), (3, .ptr 0 0)], [(0, .box 89 [.own 1]), (1, .map (cKs l) (cVs l)), (2, .iter 1 (cKs l).length x.1)], 3⟩) (fun x => BestL l (seenK l x.1) x.2 ∧ ∀ j, j ∈ x.1 → j < (uq l).length) (fun x => left (uq l).length x.1) ([], 0) ?_ ⟨.inl ⟨rfl, rfl⟩, fun j hj => by cases hj⟩ fun x hx => ?_
  · refine Ent.auto0 rfl ?_ ?_ <;> simp only [renR_ok, belowR_ok, mkR_ok, noIdR_ok, renL_caps, belowL_caps, mkL_caps, rep_bools, rep_ints, renL_bools, renL_ints, belowL_bools, belowL_ints, mkL_bools, mkL_ints, set_bools, set_ints, rets, rets1, retV, mkRet, tupOf, S.ev, List.map_cons, List.map_nil, envOk, subOk, mkRen, mkEnv, mkRows, mkItem, mkV, mkL, pm, S.get, lk, ren, renL, Fv.below, Fv.belowL, Item.ren, Item.below, List.append_nil, List.nil_append, List.cons_append, and_true, true_and, and_self, eq_self, reduceIte, reduceCtorEq, Nat.reduceEqDiff, Nat.reduceLT, Nat.reduceLeDiff, AV.own.injEq, AV.int.injEq, AV.bool.injEq, AV.str.injEq, AV.ro.injEq, AV.agg.injEq, AV.tup.injEq, List.cons.injEq, Option.some.injEq, Item.row.injEq, Item.box.injEq, RowV.ints.injEq, RowV.bools.injEq, RowV.strs.injEq, RowV.objs.injEq, List.not_mem_nil, false_implies, implies_true, List.mem_cons, forall_eq_or_imp, forall_eq, or_false, Nat.succ_ne_self, ne_eq, not_false_eq_true, or_true, true_or, Bool.and_self, Bool.and_true, decide_true, decide_eq_true_eq, Int.natCast_zero, decide_false, ren_cKs, ren_cVs, below_cKs, below_cVs, mk_cKs, mk_cVs]
  obtain ⟨seen, best⟩ := x
  obtain ⟨hb, hs⟩ := hx
  dsimp only at hb hs ⊢
  have h0 : cnt l 0 = 0 := cnt_none fun h => absurd (hpos 0 h) (by omega)
  have e1 := getI_cnt l
  have e4 := isI_cnt l
  have e5 : KeysT Tryd.prog 3 (cKs l) := keysT_cnt (by kernel_rfl) _
  have c1 := fun k => cnt_bd l k
  (repeat' first | (with_reducible refine Asm.intro fun _ => ?_) | ((with_reducible refine Chk.intro ?_ ?_); (· first | omega | (with_reducible refine Chk.intro ?_ ?_ <;> omega) | (simp; done) | (simp; omega))) | (with_reducible refine AnyI.i64 fun _ _ => ?_) | ((with_reducible refine LetW.i64 ?_ ?_ ?_); (· omega); (· omega)) | ((with_reducible refine Ite.decide (fun _ => ?_) (fun _ => ?_)) <;> first | (exfalso; omega) | skip) | (with_reducible refine Ite.bool (fun _ => ?_) (fun _ => ?_)) | (with_reducible refine And.intro ?_ ?_) | omega | simp (maxSteps := 1000000) only [go_sem, reduceCtorEq, Nat.reduceLT, Nat.reduceLeDiff, reduceIte, ↓reduceIte, Nat.reduceEqDiff, Nat.reduceAdd, Nat.reduceMul, Nat.reduceSub, Int.reduceLE, Int.reduceLT, Int.reduceNeg, Int.reduceToNat])
  refine VcNext.intro (fun j kx vx hj hkx hvx => ?_) (fun hall => ?_)
  · obtain ⟨hjl, rfl, hkl⟩ := cKs_at hkx
    obtain rfl := cVs_at hvx
    have hst := hb.step h0 (cnt_pos hkl)
    have hsn := seenK_snoc l seen j
    have hlt := left_lt hj hjl
    have hs' : ∀ j', j' ∈ seen ++ [j] → j' < (uq l).length := fun j' hj' => by
      rcases List.mem_append.1 hj' with h' | h'
      · exact hs j' h'
      · simp at h'; subst h'; exact hjl
    unfold pickB at hst
    generalize (uq l).getD j 0 = key at *
    have c2 := c1 key
    have c3 := c1 best
    have c4 := cnt_pos hkl
    have cz : best = 0 → cnt l best = 0 := fun e => by rw [e]; exact h0
    (repeat' first | (with_reducible refine Asm.intro fun _ => ?_) | ((with_reducible refine Chk.intro ?_ ?_); (· first | omega | (with_reducible refine Chk.intro ?_ ?_ <;> omega) | (simp; done) | (simp; omega))) | (with_reducible refine AnyI.i64 fun _ _ => ?_) | ((with_reducible refine LetW.i64 ?_ ?_ ?_); (· omega); (· omega)) | ((with_reducible refine Ite.decide (fun _ => ?_) (fun _ => ?_)) <;> first | (exfalso; omega) | skip) | (with_reducible refine Ite.bool (fun _ => ?_) (fun _ => ?_)) | (with_reducible refine And.intro ?_ ?_) | omega | simp (maxSteps := 1000000) only [go_sem, reduceCtorEq, Nat.reduceLT, Nat.reduceLeDiff, reduceIte, ↓reduceIte, Nat.reduceEqDiff, Nat.reduceAdd, Nat.reduceMul, Nat.reduceSub, Int.reduceLE, Int.reduceLT, Int.reduceNeg, Int.reduceToNat])
    refine VcEnt.intro hkx hvx ?_
    (repeat' first | (with_reducible refine Asm.intro fun _ => ?_) | ((with_reducible refine Chk.intro ?_ ?_); (· first | omega | (with_reducible refine Chk.intro ?_ ?_ <;> omega) | (simp; done) | (simp; omega))) | (with_reducible refine AnyI.i64 fun _ _ => ?_) | ((with_reducible refine LetW.i64 ?_ ?_ ?_); (· omega); (· omega)) | ((with_reducible refine Ite.decide (fun _ => ?_) (fun _ => ?_)) <;> first | (exfalso; omega) | skip) | (with_reducible refine Ite.bool (fun _ => ?_) (fun _ => ?_)) | (with_reducible refine And.intro ?_ ?_) | omega | simp (maxSteps := 1000000) only [go_sem, reduceCtorEq, Nat.reduceLT, Nat.reduceLeDiff, reduceIte, ↓reduceIte, Nat.reduceEqDiff, Nat.reduceAdd, Nat.reduceMul, Nat.reduceSub, Int.reduceLE, Int.reduceLT, Int.reduceNeg, Int.reduceToNat, e1, e4, e5])
    · rename_i hc
      rw [if_pos (by omega), ← hsn] at hst
      refine ⟨(seen ++ [j], key), Ent.auto0 rfl ?_ ?_, ⟨hst, hs'⟩, hlt⟩ <;> simp only [renR_ok, belowR_ok, mkR_ok, noIdR_ok, renL_caps, belowL_caps, mkL_caps, rep_bools, rep_ints, renL_bools, renL_ints, belowL_bools, belowL_ints, mkL_bools, mkL_ints, set_bools, set_ints, rets, rets1, retV, mkRet, tupOf, S.ev, List.map_cons, List.map_nil, envOk, subOk, mkRen, mkEnv, mkRows, mkItem, mkV, mkL, pm, S.get, lk, ren, renL, Fv.below, Fv.belowL, Item.ren, Item.below, List.append_nil, List.nil_append, List.cons_append, and_true, true_and, and_self, eq_self, reduceIte, reduceCtorEq, Nat.reduceEqDiff, Nat.reduceLT, Nat.reduceLeDiff, AV.own.injEq, AV.int.injEq, AV.bool.injEq, AV.str.injEq, AV.ro.injEq, AV.agg.injEq, AV.tup.injEq, List.cons.injEq, Option.some.injEq, Item.row.injEq, Item.box.injEq, RowV.ints.injEq, RowV.bools.injEq, RowV.strs.injEq, RowV.objs.injEq, List.not_mem_nil, false_implies, implies_true, List.mem_cons, forall_eq_or_imp, forall_eq, or_false, Nat.succ_ne_self, ne_eq, not_false_eq_true, or_true, true_or, Bool.and_self, Bool.and_true, decide_true, decide_eq_true_eq, Int.natCast_zero, decide_false, ren_cKs, ren_cVs, below_cKs, below_cVs, mk_cKs, mk_cVs]
    · rename_i hc
      rw [if_neg (by omega), ← hsn] at hst
      refine ⟨(seen ++ [j], best), Ent.auto0 rfl ?_ ?_, ⟨hst, hs'⟩, hlt⟩ <;> simp only [renR_ok, belowR_ok, mkR_ok, noIdR_ok, renL_caps, belowL_caps, mkL_caps, rep_bools, rep_ints, renL_bools, renL_ints, belowL_bools, belowL_ints, mkL_bools, mkL_ints, set_bools, set_ints, rets, rets1, retV, mkRet, tupOf, S.ev, List.map_cons, List.map_nil, envOk, subOk, mkRen, mkEnv, mkRows, mkItem, mkV, mkL, pm, S.get, lk, ren, renL, Fv.below, Fv.belowL, Item.ren, Item.below, List.append_nil, List.nil_append, List.cons_append, and_true, true_and, and_self, eq_self, reduceIte, reduceCtorEq, Nat.reduceEqDiff, Nat.reduceLT, Nat.reduceLeDiff, AV.own.injEq, AV.int.injEq, AV.bool.injEq, AV.str.injEq, AV.ro.injEq, AV.agg.injEq, AV.tup.injEq, List.cons.injEq, Option.some.injEq, Item.row.injEq, Item.box.injEq, RowV.ints.injEq, RowV.bools.injEq, RowV.strs.injEq, RowV.objs.injEq, List.not_mem_nil, false_implies, implies_true, List.mem_cons, forall_eq_or_imp, forall_eq, or_false, Nat.succ_ne_self, ne_eq, not_false_eq_true, or_true, true_or, Bool.and_self, Bool.and_true, decide_true, decide_eq_true_eq, Int.natCast_zero, decide_false, ren_cKs, ren_cVs, below_cKs, below_cVs, mk_cKs, mk_cVs]
  · have hbe := seen_all hpos hs (fun j hj => hall j (by rw [cKs_len]; exact hj)) hb
    subst hbe
    (repeat' first | (with_reducible refine Asm.intro fun _ => ?_) | ((with_reducible refine Chk.intro ?_ ?_); (· first | omega | (with_reducible refine Chk.intro ?_ ?_ <;> omega) | (simp; done) | (simp; omega))) | (with_reducible refine AnyI.i64 fun _ _ => ?_) | ((with_reducible refine LetW.i64 ?_ ?_ ?_); (· omega); (· omega)) | ((with_reducible refine Ite.decide (fun _ => ?_) (fun _ => ?_)) <;> first | (exfalso; omega) | skip) | (with_reducible refine Ite.bool (fun _ => ?_) (fun _ => ?_)) | (with_reducible refine And.intro ?_ ?_) | omega | simp (maxSteps := 1000000) only [go_sem, reduceCtorEq, Nat.reduceLT, Nat.reduceLeDiff, reduceIte, ↓reduceIte, Nat.reduceEqDiff, Nat.reduceAdd, Nat.reduceMul, Nat.reduceSub, Int.reduceLE, Int.reduceLT, Int.reduceNeg, Int.reduceToNat])
    refine Ret.auto 0 ?_ rfl ?_ <;> simp only [renR_ok, belowR_ok, mkR_ok, noIdR_ok, renL_caps, belowL_caps, mkL_caps, rep_bools, rep_ints, renL_bools, renL_ints, belowL_bools, belowL_ints, mkL_bools, mkL_ints, set_bools, set_ints, rets, rets1, retV, mkRet, tupOf, S.ev, List.map_cons, List.map_nil, envOk, subOk, mkRen, mkEnv, mkRows, mkItem, mkV, mkL, pm, S.get, lk, ren, renL, Fv.below, Fv.belowL, Item.ren, Item.below, List.append_nil, List.nil_append, List.cons_append, and_true, true_and, and_self, eq_self, reduceIte, reduceCtorEq, Nat.reduceEqDiff, Nat.reduceLT, Nat.reduceLeDiff, AV.own.injEq, AV.int.injEq, AV.bool.injEq, AV.str.injEq, AV.ro.injEq, AV.agg.injEq, AV.tup.injEq, List.cons.injEq, Option.some.injEq, Item.row.injEq, Item.box.injEq, RowV.ints.injEq, RowV.bools.injEq, RowV.strs.injEq, RowV.objs.injEq, List.not_mem_nil, false_implies, implies_true, List.mem_cons, forall_eq_or_imp, forall_eq, or_false, Nat.succ_ne_self, ne_eq, not_false_eq_true, or_true, true_or, Bool.and_self, Bool.and_true, decide_true, decide_eq_true_eq, Int.natCast_zero, decide_false, Post]
end Go.Fv.K

namespace Go.Fv.K
open Go Go.Proofs
set_option linter.unusedSimpArgs false
set_option linter.unusedVariables false
set_option maxRecDepth 8000

/-- The eight pixels around one. -/
def ringL (p : List Bool) (w h : Nat) (x y : Int) : List Bool :=
  [atB p w h x (y + -1), atB p w h (x + 1) (y + -1), atB p w h (x + 1) y, atB p w h (x + 1) (y + 1), atB p w h x (y + 1), atB p w h (x + -1) (y + 1), atB p w h (x + -1) y, atB p w h (x + -1) (y + -1)]
def manyTo (n : List Bool) : Nat → Int
  | 0 => 0
  | k + 1 => if n.getD k false = true then manyTo n k + 1 else manyTo n k
def turnsTo (n : List Bool) : Nat → Int
  | 0 => 0
  | k + 1 => if n.getD k false = true then turnsTo n k else if n.getD ((k + 1) % 8) false = true then turnsTo n k + 1 else turnsTo n k
theorem manyTo_bd (n : List Bool) : ∀ k : Nat, 0 ≤ manyTo n k ∧ manyTo n k ≤ k
  | 0 => by simp [manyTo]
  | k + 1 => by have := manyTo_bd n k; simp only [manyTo]; split <;> omega
theorem turnsTo_bd (n : List Bool) : ∀ k : Nat, 0 ≤ turnsTo n k ∧ turnsTo n k ≤ k
  | 0 => by simp [turnsTo]
  | k + 1 => by
    have := turnsTo_bd n k
    simp only [turnsTo]
    split
    · omega
    · split <;> omega
def at3 (n : List Bool) (i j k : Nat) : Bool := n.getD i false && n.getD j false && n.getD k false
def goesB (n : List Bool) (second : Bool) : Bool :=
  if (manyTo n 8 < 2 ∨ 6 < manyTo n 8) ∨ ¬ turnsTo n 8 = 1 then false
  else if second = true then !at3 n 0 2 6 && !at3 n 0 4 6 else !at3 n 0 2 4 && !at3 n 2 4 6
theorem goes_no {n : List Bool} {a s : Bool} (h : (!a || decide (manyTo n 8 < 2) || decide (6 < manyTo n 8) || decide ¬turnsTo n 8 = 1) = true) : (a && goesB n s) = false := by
  cases a with
  | false => rfl
  | true =>
    simp only [Bool.not_true, Bool.false_or, Bool.or_eq_true, decide_eq_true_eq] at h
    unfold goesB
    rw [if_pos h]; rfl
theorem goes_yes {n : List Bool} {a s : Bool} (h : (!a || decide (manyTo n 8 < 2) || decide (6 < manyTo n 8) || decide ¬turnsTo n 8 = 1) = false) : (a && goesB n s) = if s = true then !at3 n 0 2 6 && !at3 n 0 4 6 else !at3 n 0 2 4 && !at3 n 2 4 6 := by
  cases a with
  | false => simp at h
  | true =>
    simp only [Bool.not_true, Bool.false_or, Bool.or_eq_false_iff, decide_eq_false_iff_not] at h
    unfold goesB
    rw [if_neg (by omega), Bool.true_and]
def goneB (p : List Bool) (w h : Nat) (s : Bool) (i : Nat) : Bool := p.getD i false && goesB (ringL p w h (i % w : Nat) (i / w : Nat)) s
def goneL (p : List Bool) (w h : Nat) (s : Bool) (k : Nat) : List Int := ((List.range k).filter (goneB p w h s)).map Int.ofNat
theorem goneL_zero (p : List Bool) (w h : Nat) (s : Bool) : goneL p w h s 0 = [] := rfl
theorem goneL_succ (p : List Bool) (w h : Nat) (s : Bool) (k : Nat) : goneL p w h s (k + 1) = if goneB p w h s k = true then goneL p w h s k ++ [((k : Nat) : Int)] else goneL p w h s k := by
  unfold goneL
  rw [List.range_succ, List.filter_append, List.map_append]
  simp only [List.filter_cons, List.filter_nil]
  split
  · rfl
  · simp
theorem goneL_len (p : List Bool) (w h : Nat) (s : Bool) (k : Nat) : (goneL p w h s k).length ≤ k := by
  unfold goneL
  have := List.length_filter_le (goneB p w h s) (List.range k)
  simpa using this
theorem goneL_mem {p : List Bool} {w h : Nat} {s : Bool} {k : Nat} {i : Int} (hi : i ∈ goneL p w h s k) : ∃ n : Nat, i = n ∧ n < k ∧ goneB p w h s n = true := by
  unfold goneL at hi
  obtain ⟨n, hn, rfl⟩ := List.mem_map.1 hi
  obtain ⟨h1, h2⟩ := List.mem_filter.1 hn
  exact ⟨n, rfl, List.mem_range.1 h1, h2⟩
/-- What is left, pixel by pixel. -/
def clearL (p : List Bool) (l : List Int) : List Bool := l.foldl (fun q i => q.set i.toNat false) p
theorem clearL_snoc (p : List Bool) (l : List Int) (i : Int) : clearL p (l ++ [i]) = (clearL p l).set i.toNat false := by simp [clearL, List.foldl_append]
theorem clearL_len : ∀ (l : List Int) (p : List Bool), (clearL p l).length = p.length
  | [], p => rfl
  | i :: l, p => by
    have := clearL_len l (p.set i.toNat false)
    simpa [clearL] using this
theorem clearL_get : ∀ (l : List Int) (p : List Bool) (k : Nat), (clearL p l).getD k false = (p.getD k false && decide ((k : Int) ∉ l.map fun i => ((i.toNat : Nat) : Int)))
  | [], p, k => by simp [clearL]
  | i :: l, p, k => by
    have := clearL_get l (p.set i.toNat false) k
    have e : clearL p (i :: l) = clearL (p.set i.toNat false) l := rfl
    rw [e, this]
    simp only [List.getD_eq_getElem?_getD, List.getElem?_set, List.map_cons, List.mem_cons]
    by_cases h : i.toNat = k
    · subst h
      simp
      by_cases h2 : i.toNat < p.length
      · simp [h2]
      · simp [h2, List.getElem?_eq_none (Nat.le_of_not_lt h2)]
    · have h' : ¬ ((k : Int) = ((i.toNat : Nat) : Int)) := by omega
      have h2 : ¬ ((k : Int) = max i 0) := by omega
      simp [h, h', h2]
def stepB (p : List Bool) (w h : Nat) (s : Bool) (x y : Nat) : Bool := p.getD (y * w + x) false && !goesB (ringL p w h x y) s
def stepL (p : List Bool) (w h : Nat) (s : Bool) : List Bool := rowsOf w (stepB p w h s) (h * w)
theorem stepL_len (p : List Bool) (w h : Nat) (s : Bool) : (stepL p w h s).length = w * h := by rw [stepL, rowsOf_len, Nat.mul_comm]
theorem rowsOf_at {α : Type} {w n k : Nat} {f : Nat → Nat → α} (d : α) (hk : k < n) : (rowsOf w f n).getD k d = f (k % w) (k / w) := by
  unfold rowsOf
  rw [List.getD_eq_getElem?_getD, List.getElem?_map, List.getElem?_range hk]; rfl
theorem idx_eq (k w : Nat) : k / w * w + k % w = k := by rw [Nat.mul_comm]; exact Nat.div_add_mod k w
theorem ext_getD {l l' : List Bool} (hl : l.length = l'.length) (h : ∀ k, k < l.length → l.getD k false = l'.getD k false) : l = l' := by
  refine List.ext_getElem hl fun k h1 h2 => ?_
  have := h k h1
  rwa [List.getD_eq_getElem?_getD, List.getD_eq_getElem?_getD, List.getElem?_eq_getElem h1, List.getElem?_eq_getElem h2] at this
theorem gone_step (p : List Bool) (w h : Nat) (hp : p.length = w * h) (s : Bool) : clearL p (goneL p w h s p.length) = stepL p w h s := by
  have hn : h * w = p.length := by rw [hp, Nat.mul_comm]
  refine ext_getD (by rw [clearL_len, stepL_len, hp]) fun k hk => ?_
  rw [clearL_len] at hk
  rw [clearL_get, stepL, rowsOf_at _ (by omega), stepB, idx_eq]
  have e : (((k : Nat) : Int) ∈ (goneL p w h s p.length).map fun i => ((i.toNat : Nat) : Int)) ↔ goneB p w h s k = true := by
    constructor
    · intro hm
      obtain ⟨i, hi, e⟩ := List.mem_map.1 hm
      obtain ⟨n, rfl, _, hg⟩ := goneL_mem hi
      rw [Int.toNat_natCast] at e
      have : n = k := by omega
      rw [← this]; exact hg
    · intro hg
      refine List.mem_map.2 ⟨(k : Nat), ?_, by simp⟩
      unfold goneL
      exact List.mem_map.2 ⟨k, List.mem_filter.2 ⟨List.mem_range.2 hk, hg⟩, rfl⟩
  cases hpk : p.getD k false with
  | false => simp
  | true =>
    simp only [Bool.true_and]
    cases hg : goesB (ringL p w h (k % w : Nat) (k / w : Nat)) s with
    | false =>
      have : ¬ goneB p w h s k = true := by unfold goneB; rw [hg]; simp
      rw [decide_eq_true (p := ¬ _) (fun hm => this (e.1 hm))]; rfl
    | true =>
      have : goneB p w h s k = true := by unfold goneB; rw [hg, hpk]; rfl
      rw [decide_eq_false (p := ¬ _) (fun hn => hn (e.2 this))]; rfl
theorem step_le (p : List Bool) (w h : Nat) (hp : p.length = w * h) (s : Bool) {k : Nat} (hk : k < p.length) (h1 : (stepL p w h s).getD k false = true) : p.getD k false = true := by
  have hn : h * w = p.length := by rw [hp, Nat.mul_comm]
  rw [stepL, rowsOf_at _ (by omega), stepB, idx_eq] at h1
  simp only [Bool.and_eq_true] at h1
  exact h1.1
theorem gone_nil (p : List Bool) (w h : Nat) (hp : p.length = w * h) (s : Bool) : goneL p w h s p.length = [] ↔ stepL p w h s = p := by
  constructor
  · intro e
    rw [← gone_step p w h hp s, e]; rfl
  · intro e
    cases hg : goneL p w h s p.length with
    | nil => rfl
    | cons i l =>
      obtain ⟨n, rfl, hn, hgn⟩ := goneL_mem (show i ∈ goneL p w h s p.length by rw [hg]; exact .head _)
      have h1 := hgn
      unfold goneB at h1
      simp only [Bool.and_eq_true] at h1
      have h2 : (stepL p w h s).getD n false = p.getD n false := by rw [e]
      have hnw : h * w = p.length := by rw [hp, Nat.mul_comm]
      rw [stepL, rowsOf_at _ (by omega), stepB, idx_eq, h1.1, h1.2] at h2
      simp at h2
/-- Both steps of a round. -/
def roundL (p : List Bool) (w h : Nat) : List Bool := stepL (stepL p w h false) w h true
theorem round_len (p : List Bool) (w h : Nat) : (roundL p w h).length = w * h := stepL_len _ _ _ _
theorem round_same (p : List Bool) (w h : Nat) (hp : p.length = w * h) : roundL p w h = p ↔ goneL p w h false p.length = [] ∧ goneL (stepL p w h false) w h true (stepL p w h false).length = [] := by
  rw [gone_nil p w h hp, gone_nil _ w h (stepL_len _ _ _ _)]
  constructor
  · intro e
    have e1 : stepL p w h false = p := by
      refine ext_getD (by rw [stepL_len, hp]) fun k hk => ?_
      rw [stepL_len] at hk
      cases hpk : p.getD k false with
      | false =>
        cases hs : (stepL p w h false).getD k false with
        | false => rfl
        | true => rw [step_le p w h hp false (by omega) hs] at hpk; cases hpk
      | true =>
        refine step_le (stepL p w h false) w h (stepL_len _ _ _ _) true (by rw [stepL_len]; exact hk) ?_
        rw [show stepL (stepL p w h false) w h true = p from e]; exact hpk
    exact ⟨e1, by have := e; unfold roundL at this; rw [this, e1]⟩
  · rintro ⟨h1, h2⟩
    unfold roundL; rw [h2, h1]
def thinGo (w h : Nat) : Nat → List Bool → List Bool × Nat
  | 0, p => (p, 0)
  | n + 1, p => if roundL p w h = p then (p, 0) else ((thinGo w h n (roundL p w h)).1, (thinGo w h n (roundL p w h)).2 + 1)
end Go.Fv.K
