/-
  A part of the proof of the claim: walks over the program's functions and the plain laws that these need. No condition of its own.
-/
import Derived.Test.YtpnlkjeedfmhfaaGreatDoorZBatchesCardPart1
import Derived.Test.YtpnlkjeedfmhfaaGreatDoorFvPart9
namespace Go.Fv.Z
open Go Go.Proofs
set_option linter.unusedSimpArgs false
set_option linter.unusedVariables false
set_option maxRecDepth 8000
/-- The first n values of a page told by places. -/
def rowsOf {α : Type} (w : Nat) (p : Nat → Nat → α) (n : Nat) : List α := (List.range n).map fun k => p (k % w) (k / w)
theorem rowsOf_len {α : Type} (w : Nat) (p : Nat → Nat → α) (n : Nat) : (rowsOf w p n).length = n := by simp [rowsOf]
theorem rowsOf_succ {α : Type} {w : Nat} (p : Nat → Nat → α) {x y : Nat} (hx : x < w) : rowsOf w p (y * w + (x + 1)) = rowsOf w p (y * w + x) ++ [p x y] := by
  unfold rowsOf
  rw [← Nat.add_assoc, List.range_succ, List.map_append]
  have e1 : (y * w + x) % w = x := by rw [Nat.mul_comm, Nat.mul_add_mod, Nat.mod_eq_of_lt hx]
  have e2 : (y * w + x) / w = y := by rw [Nat.mul_comm, Nat.mul_add_div (by omega), Nat.div_eq_of_lt hx, Nat.add_zero]
  simp [e1, e2]

set_option maxHeartbeats 1000000 in
theorem made_ok (w h : Nat) (hw : w ≤ 4000) (hh : h ≤ 4000) (f : Nat) (caps : List AV) [CapsOk caps] (p : Nat → Nat → Bool) (hp : ∀ x y : Nat, x < w → y < h → FnFr Tryz.prog f ([.int .i64 x, .int .i64 y] ++ caps) (.bool (p x y)) []) :
    FnOk Tryz.prog 41 [.int .i64 w, .int .i64 h, .fn f caps] (.agg [.int .i64 w, .int .i64 h, .own 0]) [(0, .row 4 (.bools (rowsOf w p (h * w))))] := by
  refine FnOk.of_vc Tryz.func41 rfl (by decide) (by simp [Tryz.f41]) [.cell 6 50] rfl fun w0 T0 _ => ?_
  simp only [Tryz.f41, argEnv]
  simp (maxSteps := 1000000) only [go_sem, reduceCtorEq, Nat.reduceLT, Nat.reduceLeDiff, reduceIte, ↓reduceIte, Nat.reduceEqDiff, Nat.reduceAdd, Nat.reduceMul, Nat.reduceSub, Int.reduceLE, Int.reduceLT, Int.reduceNeg, Int.reduceToNat]
  (repeat' first | (with_reducible refine Asm.intro fun _ => ?_) | ((with_reducible refine Chk.intro ?_ ?_); (· first | omega | (with_reducible refine Chk.intro ?_ ?_ <;> omega) | (simp; done) | (simp; omega))) | ((with_reducible refine LetW.i64 ?_ ?_ ?_); (· omega); (· omega)) | ((with_reducible refine Ite.decide (fun _ => ?_) (fun _ => ?_)) <;> first | (exfalso; omega) | simp (maxSteps := 1000000) only [go_sem, reduceCtorEq, Nat.reduceLT, Nat.reduceLeDiff, reduceIte, ↓reduceIte, Nat.reduceEqDiff, Nat.reduceAdd, Nat.reduceMul, Nat.reduceSub, Int.reduceLE, Int.reduceLT, Int.reduceNeg, Int.reduceToNat]) | ((with_reducible refine Ite.bool (fun _ => ?_) (fun _ => ?_)) <;> simp (maxSteps := 1000000) only [go_sem, reduceCtorEq, Nat.reduceLT, Nat.reduceLeDiff, reduceIte, ↓reduceIte, Nat.reduceEqDiff, Nat.reduceAdd, Nat.reduceMul, Nat.reduceSub, Int.reduceLE, Int.reduceLT, Int.reduceNeg, Int.reduceToNat]) | (with_reducible refine And.intro ?_ ?_))
  refine VcLoop.intro (fun y : Nat => ⟨33, [(14, .int .i64 y), (13, .int .i64 h), (7, .ptr 1 0), (6, .ptr 0 0), (0, .int .i64 w), (2, .fn f caps)], [(1, .box 50 [.int .i64 w, .int .i64 h, .own 2]), (0, .box 50 [.int .i64 0, .int .i64 0, .nilS]), (2, .row 4 (.bools (rowsOf w p (y * w))))], 3⟩) (fun y => y ≤ h) (fun y => h - y) 0 ?_ (Nat.zero_le _) fun y hy => ?_
  · refine Ent.trans (Ent.nilBox (P := Tryz.prog) 1 2 4 e4 rfl rfl) (Ent.auto0 rfl ?_ ?_) <;> simp only [go_sem, reduceCtorEq, reduceIte, Nat.reduceEqDiff, Nat.reduceLT, Nat.reduceLeDiff, Int.natCast_succ, rowsOf, zrow, put, List.set_cons_zero, List.set_cons_succ, Nat.zero_mul, List.range_zero, List.map_nil, List.replicate_zero]
  simp (maxSteps := 1000000) only [go_sem, reduceCtorEq, Nat.reduceLT, Nat.reduceLeDiff, reduceIte, ↓reduceIte, Nat.reduceEqDiff, Nat.reduceAdd, Nat.reduceMul, Nat.reduceSub, Int.reduceLE, Int.reduceLT, Int.reduceNeg, Int.reduceToNat]
  (repeat' first | (with_reducible refine Asm.intro fun _ => ?_) | ((with_reducible refine Chk.intro ?_ ?_); (· first | omega | (with_reducible refine Chk.intro ?_ ?_ <;> omega) | (simp; done) | (simp; omega))) | ((with_reducible refine LetW.i64 ?_ ?_ ?_); (· omega); (· omega)) | ((with_reducible refine Ite.decide (fun _ => ?_) (fun _ => ?_)) <;> first | (exfalso; omega) | simp (maxSteps := 1000000) only [go_sem, reduceCtorEq, Nat.reduceLT, Nat.reduceLeDiff, reduceIte, ↓reduceIte, Nat.reduceEqDiff, Nat.reduceAdd, Nat.reduceMul, Nat.reduceSub, Int.reduceLE, Int.reduceLT, Int.reduceNeg, Int.reduceToNat]) | ((with_reducible refine Ite.bool (fun _ => ?_) (fun _ => ?_)) <;> simp (maxSteps := 1000000) only [go_sem, reduceCtorEq, Nat.reduceLT, Nat.reduceLeDiff, reduceIte, ↓reduceIte, Nat.reduceEqDiff, Nat.reduceAdd, Nat.reduceMul, Nat.reduceSub, Int.reduceLE, Int.reduceLT, Int.reduceNeg, Int.reduceToNat]) | (with_reducible refine And.intro ?_ ?_))
  · refine VcLoop.intro (fun x : Nat => ⟨33, [(18, .int .i64 x), (17, .int .i64 w), (8, .int .i64 y), (14, .int .i64 y), (13, .int .i64 h), (7, .ptr 1 0), (6, .ptr 0 0), (0, .int .i64 w), (2, .fn f caps)], [(1, .box 50 [.int .i64 w, .int .i64 h, .own 2]), (0, .box 50 [.int .i64 0, .int .i64 0, .nilS]), (2, .row 4 (.bools (rowsOf w p (y * w + x))))], 3⟩) (fun x => x ≤ w) (fun x => w - x) 0 ?_ (Nat.zero_le _) fun x hx => ?_
    · refine Ent.auto0 rfl ?_ ?_ <;> simp only [go_sem, reduceCtorEq, reduceIte, Nat.reduceEqDiff, Nat.reduceLT, Nat.reduceLeDiff, Int.natCast_succ, Nat.add_zero]
    simp (maxSteps := 1000000) only [go_sem, reduceCtorEq, Nat.reduceLT, Nat.reduceLeDiff, reduceIte, ↓reduceIte, Nat.reduceEqDiff, Nat.reduceAdd, Nat.reduceMul, Nat.reduceSub, Int.reduceLE, Int.reduceLT, Int.reduceNeg, Int.reduceToNat]
    (repeat' first | (with_reducible refine Asm.intro fun _ => ?_) | ((with_reducible refine Chk.intro ?_ ?_); (· first | omega | (with_reducible refine Chk.intro ?_ ?_ <;> omega) | (simp; done) | (simp; omega))) | ((with_reducible refine LetW.i64 ?_ ?_ ?_); (· omega); (· omega)) | ((with_reducible refine Ite.decide (fun _ => ?_) (fun _ => ?_)) <;> first | (exfalso; omega) | simp (maxSteps := 1000000) only [go_sem, reduceCtorEq, Nat.reduceLT, Nat.reduceLeDiff, reduceIte, ↓reduceIte, Nat.reduceEqDiff, Nat.reduceAdd, Nat.reduceMul, Nat.reduceSub, Int.reduceLE, Int.reduceLT, Int.reduceNeg, Int.reduceToNat]) | ((with_reducible refine Ite.bool (fun _ => ?_) (fun _ => ?_)) <;> simp (maxSteps := 1000000) only [go_sem, reduceCtorEq, Nat.reduceLT, Nat.reduceLeDiff, reduceIte, ↓reduceIte, Nat.reduceEqDiff, Nat.reduceAdd, Nat.reduceMul, Nat.reduceSub, Int.reduceLE, Int.reduceLT, Int.reduceNeg, Int.reduceToNat]) | (with_reducible refine And.intro ?_ ?_))
    · refine VcDraw.lex [6, 7, 9] [(0, [1]), (1, [1])] (by kernel_rfl) (by kernel_rfl) ?_
      simp (maxSteps := 1000000) only [go_sem, reduceCtorEq, Nat.reduceLT, Nat.reduceLeDiff, reduceIte, ↓reduceIte, Nat.reduceEqDiff, Nat.reduceAdd, Nat.reduceMul, Nat.reduceSub, Int.reduceLE, Int.reduceLT, Int.reduceNeg, Int.reduceToNat]
      (repeat' first | (with_reducible refine Asm.intro fun _ => ?_) | ((with_reducible refine Chk.intro ?_ ?_); (· first | omega | (with_reducible refine Chk.intro ?_ ?_ <;> omega) | (simp; done) | (simp; omega))) | ((with_reducible refine LetW.i64 ?_ ?_ ?_); (· omega); (· omega)) | ((with_reducible refine Ite.decide (fun _ => ?_) (fun _ => ?_)) <;> first | (exfalso; omega) | simp (maxSteps := 1000000) only [go_sem, reduceCtorEq, Nat.reduceLT, Nat.reduceLeDiff, reduceIte, ↓reduceIte, Nat.reduceEqDiff, Nat.reduceAdd, Nat.reduceMul, Nat.reduceSub, Int.reduceLE, Int.reduceLT, Int.reduceNeg, Int.reduceToNat]) | ((with_reducible refine Ite.bool (fun _ => ?_) (fun _ => ?_)) <;> simp (maxSteps := 1000000) only [go_sem, reduceCtorEq, Nat.reduceLT, Nat.reduceLeDiff, reduceIte, ↓reduceIte, Nat.reduceEqDiff, Nat.reduceAdd, Nat.reduceMul, Nat.reduceSub, Int.reduceLE, Int.reduceLT, Int.reduceNeg, Int.reduceToNat]) | (with_reducible refine And.intro ?_ ?_))
      refine QV.intro (.bool (p x y)) ?_ ?_
      · simp (maxSteps := 1000000) only [go_sem, reduceCtorEq, Nat.reduceLT, Nat.reduceLeDiff, reduceIte, ↓reduceIte, Nat.reduceEqDiff, Nat.reduceAdd, Nat.reduceMul, Nat.reduceSub, Int.reduceLE, Int.reduceLT, Int.reduceNeg, Int.reduceToNat]
        refine VcCall.fr (args' := [.int .i64 x, .int .i64 y] ++ caps) (hp x y (by omega) (by omega)) (by simp [argOkL, allOk, argOkN, allOk_caps]) 0 rfl (by simp [rowsB]) ?_
        simp (maxSteps := 1000000) only [go_sem, reduceCtorEq, Nat.reduceLT, Nat.reduceLeDiff, reduceIte, ↓reduceIte, Nat.reduceEqDiff, Nat.reduceAdd, Nat.reduceMul, Nat.reduceSub, Int.reduceLE, Int.reduceLT, Int.reduceNeg, Int.reduceToNat]
      · simp (maxSteps := 1000000) only [go_sem, reduceCtorEq, Nat.reduceLT, Nat.reduceLeDiff, reduceIte, ↓reduceIte, Nat.reduceEqDiff, Nat.reduceAdd, Nat.reduceMul, Nat.reduceSub, Int.reduceLE, Int.reduceLT, Int.reduceNeg, Int.reduceToNat]
        have hb : y * w + x ≤ 4000 * 4000 + 4000 := Nat.add_le_add (Nat.mul_le_mul (by omega) hw) (by omega)
        have hr := rowsOf_len w p (y * w + x)
        have hs := rowsOf_succ p (x := x) (y := y) (w := w) (by omega)
        (repeat' first | (with_reducible refine Asm.intro fun _ => ?_) | ((with_reducible refine Chk.intro ?_ ?_); (· first | omega | (with_reducible refine Chk.intro ?_ ?_ <;> omega) | (simp; done) | (simp; omega))) | ((with_reducible refine LetW.i64 ?_ ?_ ?_); (· omega); (· omega)) | ((with_reducible refine Ite.decide (fun _ => ?_) (fun _ => ?_)) <;> first | (exfalso; omega) | simp (maxSteps := 1000000) only [go_sem, reduceCtorEq, Nat.reduceLT, Nat.reduceLeDiff, reduceIte, ↓reduceIte, Nat.reduceEqDiff, Nat.reduceAdd, Nat.reduceMul, Nat.reduceSub, Int.reduceLE, Int.reduceLT, Int.reduceNeg, Int.reduceToNat]) | ((with_reducible refine Ite.bool (fun _ => ?_) (fun _ => ?_)) <;> simp (maxSteps := 1000000) only [go_sem, reduceCtorEq, Nat.reduceLT, Nat.reduceLeDiff, reduceIte, ↓reduceIte, Nat.reduceEqDiff, Nat.reduceAdd, Nat.reduceMul, Nat.reduceSub, Int.reduceLE, Int.reduceLT, Int.reduceNeg, Int.reduceToNat]) | (with_reducible refine And.intro ?_ ?_))
        refine ⟨x + 1, Ent.auto0 rfl ?_ ?_, by omega, by omega⟩ <;> simp only [go_sem, reduceCtorEq, reduceIte, Nat.reduceEqDiff, Nat.reduceLT, Nat.reduceLeDiff, Int.natCast_succ, hs]
        all_goals rfl
    · refine ⟨y + 1, Ent.auto0 rfl ?_ ?_, by omega, by omega⟩ <;> simp only [go_sem, reduceCtorEq, reduceIte, Nat.reduceEqDiff, Nat.reduceLT, Nat.reduceLeDiff, Int.natCast_succ]
      have e : x = w := by omega
      all_goals first | rfl | rw [e, Nat.succ_mul]
  · have e : y = h := by omega
    subst e
    refine Ret.auto 1 ?_ rfl ?_ <;> simp only [go_sem, reduceCtorEq, reduceIte, Nat.reduceEqDiff, Nat.reduceLT, Nat.reduceLeDiff, Int.natCast_succ, Post, List.drop_zero]
    all_goals simp (maxSteps := 1000000) only [go_sem, reduceCtorEq, Nat.reduceLT, Nat.reduceLeDiff, reduceIte, ↓reduceIte, Nat.reduceEqDiff, Nat.reduceAdd, Nat.reduceMul, Nat.reduceSub, Int.reduceLE, Int.reduceLT, Int.reduceNeg, Int.reduceToNat]

end Go.Fv.Z

namespace Go.Fv.Z
open Go Go.Proofs
set_option linter.unusedSimpArgs false
set_option linter.unusedVariables false
set_option maxRecDepth 8000
theorem and_bd (a : Int) (m : Nat) (hm : m < 2 ^ 63) : 0 ≤ bitsI .and .i64 a m ∧ bitsI .and .i64 a m ≤ m := by
  unfold bitsI
  dsimp only
  have h1 : (BitVec.ofInt 64 a &&& BitVec.ofInt 64 (m : Int)).toNat ≤ m := by
    rw [BitVec.toNat_and]
    refine Nat.le_trans Nat.and_le_right ?_
    rw [BitVec.ofInt_natCast, BitVec.toNat_ofNat]
    exact Nat.mod_le _ _
  rw [show IntKind.i64.bits = 64 from rfl]
  rw [wrap_of_in (InK_i64.2 ⟨by omega, by omega⟩)]
  omega
/-- The size that a page is fitted to. -/
def fitN (a : Int) (m : Nat) : Nat := (1 + bitsI .and .i64 a m).toNat
theorem fitN_bd (a : Int) (m : Nat) (hm : m < 2 ^ 63) : 1 ≤ fitN a m ∧ fitN a m ≤ m + 1 ∧ 1 + bitsI .and .i64 a m = ((fitN a m : Nat) : Int) := by
  have := and_bd a m hm
  unfold fitN; omega
def fitB (p : List Bool) (w x y : Nat) : Bool := decide (0 < p.length) && p.getD ((y * w + x) % p.length) false
set_option maxHeartbeats 2000000 in
theorem fit1_ok (W H : Int) (p : List Bool) (w x y : Nat) (hw : w ≤ 32) (hx : x < w) (hy : y < 32) :
    FnOk Tryz.prog 42 [.int .i64 x, .int .i64 y, .cell [.int .i64 W, .int .i64 H, .ro (.bools p)], .cell [.int .i64 w]] (.bool (fitB p w x y)) [] := by
  have b1 : y * w ≤ 32 * 32 := Nat.mul_le_mul (by omega) hw
  have hm := Nat.mod_lt (y * w + x) (y := p.length)
  refine FnOk.of_vc Tryz.func42 rfl (by decide) (by simp [Tryz.f42]) [.tmp 6] rfl fun w0 T0 _ => ?_
  simp only [Tryz.f42, argEnv]
  (repeat' first | with_reducible (first | refine Asm.intro fun _ => ?_ | refine Chk.g ?_ | refine AnyI.i64 fun _ _ => ?_ | refine LetW.g ?_ | refine LetW.h ?_ | refine Ite.t fun _ => ?_ | refine Ite.f fun _ => ?_ | refine Ite.decide (fun _ => ?_) fun _ => ?_ | refine Ite.bool (fun _ => ?_) fun _ => ?_ | refine And.intro ?_ ?_) | omega | simp (maxSteps := 1000000) only [go_sem, reduceCtorEq, Nat.reduceLT, Nat.reduceLeDiff, reduceIte, ↓reduceIte, Nat.reduceEqDiff, Nat.reduceAdd, Nat.reduceMul, Nat.reduceSub, Int.reduceLE, Int.reduceLT, Int.reduceNeg, Int.reduceToNat])
  refine VcDraw.lex [] [] (by kernel_rfl) (by kernel_rfl) ?_
  (repeat' first | with_reducible (first | refine Asm.intro fun _ => ?_ | refine Chk.g ?_ | refine AnyI.i64 fun _ _ => ?_ | refine LetW.g ?_ | refine LetW.h ?_ | refine Ite.t fun _ => ?_ | refine Ite.f fun _ => ?_ | refine Ite.decide (fun _ => ?_) fun _ => ?_ | refine Ite.bool (fun _ => ?_) fun _ => ?_ | refine And.intro ?_ ?_) | omega | simp (maxSteps := 1000000) only [go_sem, reduceCtorEq, Nat.reduceLT, Nat.reduceLeDiff, reduceIte, ↓reduceIte, Nat.reduceEqDiff, Nat.reduceAdd, Nat.reduceMul, Nat.reduceSub, Int.reduceLE, Int.reduceLT, Int.reduceNeg, Int.reduceToNat, up_mul, up_add, up_tmod, Int.toNat_natCast])
  refine Ret.auto 0 ?_ rfl ?_ <;> simp only [go_sem, reduceCtorEq, reduceIte, Nat.reduceEqDiff, Nat.reduceLT, Nat.reduceLeDiff, Int.natCast_succ, Post, fitB]
  simp
set_option maxHeartbeats 2000000 in
theorem fit_ok (W H : Int) (p : List Bool) :
    FnOk Tryz.prog 18 [.agg [.int .i64 W, .int .i64 H, .ro (.bools p)]] (.agg [.int .i64 (fitN W 31), .int .i64 (fitN H 31), .own 0]) [(0, .row 4 (.bools (rowsOf (fitN W 31) (fitB p (fitN W 31)) (fitN H 31 * fitN W 31))))] := by
  obtain ⟨w1, w2, w3⟩ := fitN_bd W 31 (by decide)
  obtain ⟨h1, h2, h3⟩ := fitN_bd H 31 (by decide)
  replace w3 : 1 + bitsI .and .i64 W 31 = ((fitN W 31 : Nat) : Int) := w3
  replace h3 : 1 + bitsI .and .i64 H 31 = ((fitN H 31 : Nat) : Int) := h3
  generalize fitN W 31 = w at *
  generalize fitN H 31 = h at *
  haveI c1 : CapsOk [.cell [.int .i64 W, .int .i64 H, .ro (.bools p)], .cell [.int .i64 w]] := ⟨rfl⟩
  have k1 := made_ok w h (by omega) (by omega) 42 [.cell [.int .i64 W, .int .i64 H, .ro (.bools p)], .cell [.int .i64 w]] (fitB p w)
    (fun x y hx hy => FnFr.of_ok (fit1_ok W H p w x y (by omega) hx (by omega)) rfl rfl)
  generalize rowsOf w (fitB p w) (h * w) = out at *
  refine FnOk.of_vc Tryz.func18 rfl (by decide) (by simp [Tryz.f18]) [.cell 2 50] rfl fun w0 T0 _ => ?_
  simp only [Tryz.f18, argEnv]
  (repeat' first | with_reducible (first | refine Asm.intro fun _ => ?_ | refine Chk.g ?_ | refine AnyI.i64 fun _ _ => ?_ | refine LetW.g ?_ | refine LetW.h ?_ | refine Ite.t fun _ => ?_ | refine Ite.f fun _ => ?_ | refine Ite.decide (fun _ => ?_) fun _ => ?_ | refine Ite.bool (fun _ => ?_) fun _ => ?_ | refine And.intro ?_ ?_) | omega | simp (maxSteps := 1000000) only [go_sem, reduceCtorEq, Nat.reduceLT, Nat.reduceLeDiff, reduceIte, ↓reduceIte, Nat.reduceEqDiff, Nat.reduceAdd, Nat.reduceMul, Nat.reduceSub, Int.reduceLE, Int.reduceLT, Int.reduceNeg, Int.reduceToNat])
  refine VcDraw.lex [8, 9] [(0, [1]), (1, [1]), (2, [1]), (3, [1]), (4, [1, 2]), (5, [1, 2]), (6, [1, 2]), (7, [1, 2])] (by kernel_rfl) (by kernel_rfl) ?_
  (repeat' first | with_reducible (first | refine Asm.intro fun _ => ?_ | refine Chk.g ?_ | refine AnyI.i64 fun _ _ => ?_ | refine LetW.g ?_ | refine LetW.h ?_ | refine Ite.t fun _ => ?_ | refine Ite.f fun _ => ?_ | refine Ite.decide (fun _ => ?_) fun _ => ?_ | refine Ite.bool (fun _ => ?_) fun _ => ?_ | refine And.intro ?_ ?_) | omega | simp (maxSteps := 1000000) only [go_sem, reduceCtorEq, Nat.reduceLT, Nat.reduceLeDiff, reduceIte, ↓reduceIte, Nat.reduceEqDiff, Nat.reduceAdd, Nat.reduceMul, Nat.reduceSub, Int.reduceLE, Int.reduceLT, Int.reduceNeg, Int.reduceToNat, w3, h3])
  refine VcCall.fr (FnFr.of_ok k1 rfl rfl) (by simp only [noIdR_ok, argOkL, argOk, allOk, argOkN, List.drop_zero, lk, reduceIte, reduceCtorEq, Nat.reduceEqDiff, Option.some.injEq, Item.row.injEq, Item.box.injEq, AV.ro.injEq, exists_eq_left, exists_and_left, exists_eq_left', exists_eq_right, and_assoc, and_true, true_and, List.cons.injEq, exists_eq', exists_eq]) 1 rfl (by simp [rowsB, Item.below, Fv.below, belowL]) ?_
  (repeat' first | with_reducible (first | refine Asm.intro fun _ => ?_ | refine Chk.g ?_ | refine AnyI.i64 fun _ _ => ?_ | refine LetW.g ?_ | refine LetW.h ?_ | refine Ite.t fun _ => ?_ | refine Ite.f fun _ => ?_ | refine Ite.decide (fun _ => ?_) fun _ => ?_ | refine Ite.bool (fun _ => ?_) fun _ => ?_ | refine And.intro ?_ ?_) | omega | simp (maxSteps := 1000000) only [go_sem, reduceCtorEq, Nat.reduceLT, Nat.reduceLeDiff, reduceIte, ↓reduceIte, Nat.reduceEqDiff, Nat.reduceAdd, Nat.reduceMul, Nat.reduceSub, Int.reduceLE, Int.reduceLT, Int.reduceNeg, Int.reduceToNat])
  refine Ret.auto 1 ?_ rfl ?_ <;> simp only [go_sem, reduceCtorEq, reduceIte, Nat.reduceEqDiff, Nat.reduceLT, Nat.reduceLeDiff, Int.natCast_succ, Post, List.drop_zero]
  all_goals simp (maxSteps := 1000000) only [go_sem, reduceCtorEq, Nat.reduceLT, Nat.reduceLeDiff, reduceIte, ↓reduceIte, Nat.reduceEqDiff, Nat.reduceAdd, Nat.reduceMul, Nat.reduceSub, Int.reduceLE, Int.reduceLT, Int.reduceNeg, Int.reduceToNat]
end Go.Fv.Z

namespace Go.Fv.Z
open Go Go.Proofs
set_option linter.unusedSimpArgs false
set_option linter.unusedVariables false
set_option maxRecDepth 8000

/-- A sheet, as data. -/
structure Sh where
  W : Int
  H : Int
  p : List Bool
  codes : List (List UInt8)
  text : List UInt8
def Sh.av (s : Sh) : List AV := [.int .i64 s.W, .int .i64 s.H, .ro (.bools s.p), .ro (.strs s.codes), .str s.text]
def Sh.zero : Sh := ⟨0, 0, [], [], []⟩
abbrev shs (l : List Sh) : RowV := .objs 5 (l.map Sh.av)
instance : FNoId Sh.av := ⟨fun _ => rfl⟩
theorem sh_elem (l : List Sh) {i : Nat} (h : i < l.length) : (l.map Sh.av).getD i [] = [.int .i64 (l.getD i Sh.zero).W, .int .i64 (l.getD i Sh.zero).H, .ro (.bools (l.getD i Sh.zero).p), .ro (.strs (l.getD i Sh.zero).codes), .str (l.getD i Sh.zero).text] := by
  simp [List.getD_eq_getElem?_getD, h, Sh.av]

def codeOk (c : List UInt8) : Bool := decide (c.length ≤ 80) && c.all fun b => decide (32 ≤ b.toNat ∧ b.toNat ≤ 126)
def shErr (s : Sh) : Int := firstErr [grayErr s.W s.H s.p.length, if 20 < s.codes.length then 4 else 0, if s.codes.all codeOk = true then 0 else 2, if 1048576 < s.text.length then 4 else 0]
def shsErr (l : List Sh) : Int := if 1000 < l.length then 4 else firstErr (l.map shErr)
def fitSh (s : Sh) : Sh := { s with W := fitN s.W 31, H := fitN s.H 31, p := rowsOf (fitN s.W 31) (fitB s.p (fitN s.W 31)) (fitN s.H 31 * fitN s.W 31) }
/-- The right ones of the first sheets, their pages fitted. -/
def keep (l : List Sh) : List Sh := ((l.take 20).map fitSh).filter fun s => decide (shErr s = 0)
end Go.Fv.Z

/- Tokens of a text: what Split and its reference compute, in plain words. -/
namespace Go.Fv.Z
open Go
set_option linter.unusedSimpArgs false
set_option linter.unusedVariables false
set_option linter.unnecessarySimpa false

abbrev Bytes := List UInt8
/-- A letter. -/
def isL (c : UInt8) : Bool := decide (97 ≤ c.toNat) && decide (c.toNat ≤ 122) || decide (65 ≤ c.toNat) && decide (c.toNat ≤ 90) || decide (128 ≤ c.toNat)
/-- What can be in a word. -/
def inW (c : UInt8) : Bool := isL c || decide (c = 39)
def qu (c : UInt8) : Bool := decide (c = 39)
/-- The quotes before and behind are left out. -/
def preQ (t : Bytes) : Bytes := t.takeWhile qu
def dropQ (t : Bytes) : Bytes := t.dropWhile qu
def dropR (t : Bytes) : Bytes := (t.reverse.dropWhile qu).reverse
def postQ (t : Bytes) : Bytes := (t.reverse.takeWhile qu).reverse
def midQ (t : Bytes) : Bytes := dropR (dropQ t)
def isWd (s : Bytes) : Bool := decide (s ≠ []) && decide (s.length ≤ 40) && isL (s.headD 0) && isL (s.getLastD 0) && s.all inW

abbrev Tok := Bytes × Bool
/-- What is between goes out, if it is something. -/
def flush (out : List Tok) (btw : Bytes) : List Tok := if btw = [] then out else out ++ [(btw, false)]

theorem takeWhile_len_le {α : Type} (p : α → Bool) (l : List α) : (l.takeWhile p).length + (l.dropWhile p).length = l.length := by
  conv => rhs; rw [← List.takeWhile_append_dropWhile (p := p) (l := l)]
  rw [List.length_append]
theorem drop_lt {c : UInt8} {s : Bytes} (h : inW c = true) : ((c :: s).dropWhile inW).length < (c :: s).length := by
  have := takeWhile_len_le inW (c :: s)
  have h2 : 0 < ((c :: s).takeWhile inW).length := by simp [List.takeWhile_cons, h]
  omega
/-- The tokens of what is left, behind those that are there. -/
def toks (s btw : Bytes) (out : List Tok) : List Tok :=
  match s with
  | [] => flush out btw
  | c :: s' => if h : inW c = true then
      if isWd (midQ ((c :: s').takeWhile inW)) = true then
        toks ((c :: s').dropWhile inW) (postQ (dropQ ((c :: s').takeWhile inW))) (flush out (btw ++ preQ ((c :: s').takeWhile inW)) ++ [(midQ ((c :: s').takeWhile inW), true)])
      else toks ((c :: s').dropWhile inW) (btw ++ (c :: s').takeWhile inW) out
    else toks s' (btw ++ [c]) out
termination_by s.length
decreasing_by
  · exact drop_lt h
  · exact drop_lt h
  · simp

theorem toks_nil (btw : Bytes) (out : List Tok) : toks [] btw out = flush out btw := by unfold toks; rfl
theorem toks_other {c : UInt8} {s : Bytes} (h : inW c = false) (btw : Bytes) (out : List Tok) : toks (c :: s) btw out = toks s (btw ++ [c]) out := by
  rw [toks]; simp [h]
theorem toks_word {c : UInt8} {s : Bytes} (h : inW c = true) (btw : Bytes) (out : List Tok) (hw : isWd (midQ ((c :: s).takeWhile inW)) = true) :
    toks (c :: s) btw out = toks ((c :: s).dropWhile inW) (postQ (dropQ ((c :: s).takeWhile inW))) (flush out (btw ++ preQ ((c :: s).takeWhile inW)) ++ [(midQ ((c :: s).takeWhile inW), true)]) := by
  rw [toks, dif_pos h, if_pos hw]
theorem toks_row {c : UInt8} {s : Bytes} (h : inW c = true) (btw : Bytes) (out : List Tok) (hw : ¬ isWd (midQ ((c :: s).takeWhile inW)) = true) :
    toks (c :: s) btw out = toks ((c :: s).dropWhile inW) (btw ++ (c :: s).takeWhile inW) out := by
  rw [toks, dif_pos h, if_neg hw]

/-- All bytes of the tokens. -/
def textOf (l : List Tok) : Bytes := (l.map (·.1)).flatten
theorem textOf_app (a b : List Tok) : textOf (a ++ b) = textOf a ++ textOf b := by simp [textOf]
theorem textOf_flush (out : List Tok) (btw : Bytes) : textOf (flush out btw) = textOf out ++ btw := by
  unfold flush; split
  · rename_i h; simp [h]
  · simp [textOf]
theorem pre_drop (t : Bytes) : preQ t ++ dropQ t = t := List.takeWhile_append_dropWhile
theorem mid_post (t : Bytes) : dropR t ++ postQ t = t := by
  have h := List.takeWhile_append_dropWhile (p := qu) (l := t.reverse)
  have := congrArg List.reverse h
  rw [List.reverse_append, List.reverse_reverse] at this
  exact this
theorem three (t : Bytes) : preQ t ++ (midQ t ++ postQ (dropQ t)) = t := by
  unfold midQ; rw [mid_post, pre_drop]
theorem toks_text : ∀ (n : Nat) (s btw : Bytes) (out : List Tok), s.length ≤ n → textOf (toks s btw out) = textOf out ++ btw ++ s
  | 0, s, btw, out, h => by
    have : s = [] := List.eq_nil_of_length_eq_zero (by omega)
    subst this
    rw [toks_nil, textOf_flush]; simp
  | n + 1, [], btw, out, h => by rw [toks_nil, textOf_flush]; simp
  | n + 1, c :: s, btw, out, h => by
    cases hc : inW c with
    | false =>
      rw [toks_other hc, toks_text n _ _ _ (by simpa using h)]
      simp
    | true =>
      have hd := drop_lt (s := s) hc
      have hj : (c :: s).takeWhile inW ++ (c :: s).dropWhile inW = c :: s := List.takeWhile_append_dropWhile
      have h3 := three ((c :: s).takeWhile inW)
      by_cases hw : isWd (midQ ((c :: s).takeWhile inW)) = true
      · rw [toks_word hc _ _ hw, toks_text n _ _ _ (by omega), textOf_app, textOf_flush]
        have e : textOf [(midQ ((c :: s).takeWhile inW), true)] = midQ ((c :: s).takeWhile inW) := by simp [textOf]
        rw [e]
        have key := congrArg (· ++ (c :: s).dropWhile inW) h3
        simp only [List.append_assoc] at key ⊢
        rw [key, hj]
      · rw [toks_row hc _ _ hw, toks_text n _ _ _ (by omega)]
        conv => rhs; rw [← hj]
        simp only [List.append_assoc]
end Go.Fv.Z

/- A text is one word just where its tokens are that word alone; small letters. -/
namespace Go.Fv.Z
open Go
set_option linter.unusedSimpArgs false
set_option linter.unusedVariables false
set_option linter.unnecessarySimpa false

theorem isL_nq {c : UInt8} (h : isL c = true) : qu c = false := by
  cases hq : qu c with
  | false => rfl
  | true =>
    have : c = 39 := of_decide_eq_true hq
    subst this; revert h; decide
theorem isWd_parts {s : Bytes} (h : isWd s = true) : s ≠ [] ∧ isL (s.headD 0) = true ∧ isL (s.getLastD 0) = true ∧ s.all inW = true := by
  unfold isWd at h
  simp only [Bool.and_eq_true, decide_eq_true_eq] at h
  exact ⟨h.1.1.1.1, h.1.1.2, h.1.2, h.2⟩
theorem dropQ_wd {s : Bytes} (h : isWd s = true) : dropQ s = s := by
  obtain ⟨h0, h1, _, _⟩ := isWd_parts h
  cases s with
  | nil => exact absurd rfl h0
  | cons c t => simp [dropQ, List.dropWhile_cons, isL_nq (show isL c = true from h1)]
theorem preQ_wd {s : Bytes} (h : isWd s = true) : preQ s = [] := by
  obtain ⟨h0, h1, _, _⟩ := isWd_parts h
  cases s with
  | nil => rfl
  | cons c t => simp [preQ, List.takeWhile_cons, isL_nq (show isL c = true from h1)]
theorem rev_head {s : Bytes} (h0 : s ≠ []) : ∃ t, s.reverse = s.getLastD 0 :: t := by
  rcases List.eq_nil_or_concat s with rfl | ⟨t, c, rfl⟩
  · exact absurd rfl h0
  · exact ⟨t.reverse, by simp⟩
theorem dropR_wd {s : Bytes} (h : isWd s = true) : dropR s = s ∧ postQ s = [] := by
  obtain ⟨h0, _, h1, _⟩ := isWd_parts h
  obtain ⟨t, ht⟩ := rev_head h0
  unfold dropR postQ
  rw [ht, List.dropWhile_cons, List.takeWhile_cons, isL_nq h1]
  simp only [Bool.false_eq_true, if_false, List.reverse_nil, and_true]
  rw [← ht, List.reverse_reverse]
theorem midQ_wd {s : Bytes} (h : isWd s = true) : midQ s = s := by unfold midQ; rw [dropQ_wd h, (dropR_wd h).1]
theorem all_take_drop {p : UInt8 → Bool} : ∀ {s : Bytes}, s.all p = true → s.takeWhile p = s ∧ s.dropWhile p = []
  | [], _ => ⟨rfl, rfl⟩
  | c :: t, h => by
    rw [List.all_cons, Bool.and_eq_true] at h
    have ih := all_take_drop h.2
    rw [List.takeWhile_cons, List.dropWhile_cons, if_pos h.1, if_pos h.1, ih.1, ih.2]; exact ⟨rfl, rfl⟩
theorem toks_wd {s : Bytes} (h : isWd s = true) : toks s [] [] = [(s, true)] := by
  obtain ⟨h0, _, _, ha⟩ := isWd_parts h
  cases s with
  | nil => exact absurd rfl h0
  | cons c t =>
    have hc : inW c = true := by rw [List.all_cons, Bool.and_eq_true] at ha; exact ha.1
    obtain ⟨e1, e2⟩ := all_take_drop ha
    rw [toks_word hc _ _ (by rw [e1, midQ_wd h]; exact h), e1, e2, toks_nil, midQ_wd h, dropQ_wd h, (dropR_wd h).2, preQ_wd h]
    rfl
/-- Each word among the tokens is a word. -/
def WordsOk (l : List Tok) : Prop := ∀ t, t ∈ l → t.2 = true → isWd t.1 = true
theorem WordsOk.flush {l : List Tok} (h : WordsOk l) (b : Bytes) : WordsOk (flush l b) := by
  unfold Go.Fv.Z.flush
  split
  · exact h
  · intro t ht hw
    rcases List.mem_append.1 ht with h1 | h1
    · exact h t h1 hw
    · simp at h1; subst h1; cases hw
theorem WordsOk.snoc {l : List Tok} (h : WordsOk l) {w : Bytes} (hw : isWd w = true) : WordsOk (l ++ [(w, true)]) := by
  intro t ht h2
  rcases List.mem_append.1 ht with h1 | h1
  · exact h t h1 h2
  · simp at h1; subst h1; exact hw
theorem toks_words : ∀ (n : Nat) (s btw : Bytes) (out : List Tok), s.length ≤ n → WordsOk out → WordsOk (toks s btw out)
  | 0, s, btw, out, h, ho => by
    have : s = [] := List.eq_nil_of_length_eq_zero (by omega)
    subst this
    rw [toks_nil]; exact ho.flush _
  | n + 1, [], btw, out, h, ho => by rw [toks_nil]; exact ho.flush _
  | n + 1, c :: s, btw, out, h, ho => by
    cases hc : inW c with
    | false => rw [toks_other hc]; exact toks_words n _ _ _ (by simpa using h) ho
    | true =>
      have hd := drop_lt (s := s) hc
      by_cases hw : isWd (midQ ((c :: s).takeWhile inW)) = true
      · rw [toks_word hc _ _ hw]; exact toks_words n _ _ _ (by omega) ((ho.flush _).snoc hw)
      · rw [toks_row hc _ _ hw]; exact toks_words n _ _ _ (by omega) ho
/-- One token, and it is a word. -/
def oneWord (l : List Tok) : Bool := match l with
  | [t] => t.2
  | _ => false
theorem oneWord_iff (s : Bytes) : oneWord (toks s [] []) = isWd s := by
  cases h : isWd s with
  | true => rw [toks_wd h]; rfl
  | false =>
    have hw := toks_words _ s [] [] (Nat.le_refl _) (fun t ht => by cases ht)
    have ht := toks_text _ s [] [] (Nat.le_refl _)
    generalize toks s [] [] = l at *
    match l, hw, ht with
    | [], _, _ => rfl
    | [t], hw, ht =>
      have e : t.1 = s := by simpa [textOf] using ht
      cases h2 : t.2 with
      | false => exact h2
      | true => rw [← e, hw t (by simp) h2] at h; cases h
    | _ :: _ :: _, _, _ => rfl

/-- A to Z made small. -/
def smallB (c : UInt8) : UInt8 := if 65 ≤ c.toNat ∧ c.toNat ≤ 90 then c + 32 else c
def smallL (s : Bytes) : Bytes := s.map smallB
end Go.Fv.Z

namespace Go.Fv.Z
open Go Go.Proofs
set_option linter.unusedSimpArgs false
set_option linter.unusedVariables false
set_option maxRecDepth 8000
theorem drop_bools {tab : List Bool} {n : Nat} (h : n < tab.length) : (tab.map AV.bool).drop n = .bool (tab.getD n false) :: (tab.map AV.bool).drop (n + 1) := by
  rw [List.drop_eq_getElem_cons (by simpa using h)]
  simp [List.getD, h]

set_option maxHeartbeats 1000000 in
theorem contains_ok (tab : List Bool) (b : Int) (hl : tab.length = 256) (h0 : 0 ≤ b) (h1 : b < 256) : FnOk Tryz.prog 96 [.cell (tab.map .bool), .int .u8 b] (.bool (tab.getD b.toNat false)) [] := by
  refine FnOk.of_vc Tryz.func96 rfl (by decide) (by simp [Tryz.f96]) [.tmp 4] rfl fun w0 T0 _ => ?_
  simp only [Tryz.f96, argEnv]
  have hd := drop_bools (tab := tab) (n := b.toNat) (by omega)
  simp (maxSteps := 1000000) only [go_sem, reduceCtorEq, Nat.reduceLT, Nat.reduceLeDiff, reduceIte, ↓reduceIte, Nat.reduceEqDiff, Nat.reduceAdd, Nat.reduceMul, Nat.reduceSub, Int.reduceLE, Int.reduceLT, Int.reduceNeg, Int.reduceToNat, Nat.mul_one, hd]
  (repeat' first | (with_reducible refine Asm.intro fun _ => ?_) | ((with_reducible refine Chk.intro ?_ ?_); (· first | omega | (with_reducible refine Chk.intro ?_ ?_ <;> omega) | (simp; done) | (simp; omega))) | ((with_reducible refine LetW.i64 ?_ ?_ ?_); (· omega); (· omega)) | ((with_reducible refine Ite.decide (fun _ => ?_) (fun _ => ?_)) <;> first | (exfalso; omega) | simp (maxSteps := 1000000) only [go_sem, reduceCtorEq, Nat.reduceLT, Nat.reduceLeDiff, reduceIte, ↓reduceIte, Nat.reduceEqDiff, Nat.reduceAdd, Nat.reduceMul, Nat.reduceSub, Int.reduceLE, Int.reduceLT, Int.reduceNeg, Int.reduceToNat]) | ((with_reducible refine Ite.bool (fun _ => ?_) (fun _ => ?_)) <;> simp (maxSteps := 1000000) only [go_sem, reduceCtorEq, Nat.reduceLT, Nat.reduceLeDiff, reduceIte, ↓reduceIte, Nat.reduceEqDiff, Nat.reduceAdd, Nat.reduceMul, Nat.reduceSub, Int.reduceLE, Int.reduceLT, Int.reduceNeg, Int.reduceToNat]) | (with_reducible refine And.intro ?_ ?_))
  refine Ret.auto 0 ?_ rfl ?_ <;> simp only [go_sem, reduceCtorEq, reduceIte, Nat.reduceEqDiff, Nat.reduceLT, Nat.reduceLeDiff, Int.natCast_succ, Post]

set_option maxHeartbeats 1000000 in
theorem trimRight_a (tab : List Bool) (hl : tab.length = 256) (ha : tab.getD 97 false = true) : FnOk Tryz.prog 75 [.str [97], .cell (tab.map .bool)] (.str []) [] := by
  refine FnOk.of_vc Tryz.func75 rfl (by decide) (by simp [Tryz.f75]) [.tmp 4] rfl fun w0 T0 _ => ?_
  simp only [Tryz.f75, argEnv]
  simp (maxSteps := 1000000) only [go_sem, reduceCtorEq, Nat.reduceLT, Nat.reduceLeDiff, reduceIte, ↓reduceIte, Nat.reduceEqDiff, Nat.reduceAdd, Nat.reduceMul, Nat.reduceSub, Int.reduceLE, Int.reduceLT, Int.reduceNeg, Int.reduceToNat]
  refine VcLoop.intro (fun k : Bool => ⟨22, [(0, .str (cond k [97] [])), (1, .cell (tab.map .bool))], [], 0⟩) (fun _ => True) (fun k => cond k 1 0) true ?_ trivial fun k _ => ?_
  · refine Ent.auto0 rfl ?_ ?_ <;> simp only [go_sem, reduceCtorEq, reduceIte, Nat.reduceEqDiff, Nat.reduceLT, Nat.reduceLeDiff, Int.natCast_succ, cond_true]
  cases k with
  | true =>
    simp (maxSteps := 1000000) only [go_sem, reduceCtorEq, Nat.reduceLT, Nat.reduceLeDiff, reduceIte, ↓reduceIte, Nat.reduceEqDiff, Nat.reduceAdd, Nat.reduceMul, Nat.reduceSub, Int.reduceLE, Int.reduceLT, Int.reduceNeg, Int.reduceToNat]
    (repeat' first | (with_reducible refine Asm.intro fun _ => ?_) | ((with_reducible refine Chk.intro ?_ ?_); (· first | omega | (with_reducible refine Chk.intro ?_ ?_ <;> omega) | (simp; done) | (simp; omega))) | ((with_reducible refine LetW.i64 ?_ ?_ ?_); (· omega); (· omega)) | ((with_reducible refine Ite.decide (fun _ => ?_) (fun _ => ?_)) <;> first | (exfalso; omega) | simp (maxSteps := 1000000) only [go_sem, reduceCtorEq, Nat.reduceLT, Nat.reduceLeDiff, reduceIte, ↓reduceIte, Nat.reduceEqDiff, Nat.reduceAdd, Nat.reduceMul, Nat.reduceSub, Int.reduceLE, Int.reduceLT, Int.reduceNeg, Int.reduceToNat]) | ((with_reducible refine Ite.bool (fun _ => ?_) (fun _ => ?_)) <;> simp (maxSteps := 1000000) only [go_sem, reduceCtorEq, Nat.reduceLT, Nat.reduceLeDiff, reduceIte, ↓reduceIte, Nat.reduceEqDiff, Nat.reduceAdd, Nat.reduceMul, Nat.reduceSub, Int.reduceLE, Int.reduceLT, Int.reduceNeg, Int.reduceToNat]) | (with_reducible refine And.intro ?_ ?_))
    have e : ((([97] : List UInt8).getD (((1 : Nat) : Int) - 1).toNat 0).toNat : Int) = 97 := rfl
    rw [e]
    refine VcCall.fr (args' := [.cell (tab.map .bool), .int .u8 97]) (FnFr.of_ok (contains_ok tab 97 hl (by omega) (by omega)) rfl rfl) (by simp [argOkL, allOk, argOkN]) 0 rfl (by simp [rowsB]) ?_
    simp (maxSteps := 1000000) only [go_sem, reduceCtorEq, Nat.reduceLT, Nat.reduceLeDiff, reduceIte, ↓reduceIte, Nat.reduceEqDiff, Nat.reduceAdd, Nat.reduceMul, Nat.reduceSub, Int.reduceLE, Int.reduceLT, Int.reduceNeg, Int.reduceToNat, ha]
    (repeat' first | (with_reducible refine Asm.intro fun _ => ?_) | ((with_reducible refine Chk.intro ?_ ?_); (· first | omega | (with_reducible refine Chk.intro ?_ ?_ <;> omega) | (simp; done) | (simp; omega))) | ((with_reducible refine LetW.i64 ?_ ?_ ?_); (· omega); (· omega)) | ((with_reducible refine Ite.decide (fun _ => ?_) (fun _ => ?_)) <;> first | (exfalso; omega) | simp (maxSteps := 1000000) only [go_sem, reduceCtorEq, Nat.reduceLT, Nat.reduceLeDiff, reduceIte, ↓reduceIte, Nat.reduceEqDiff, Nat.reduceAdd, Nat.reduceMul, Nat.reduceSub, Int.reduceLE, Int.reduceLT, Int.reduceNeg, Int.reduceToNat]) | ((with_reducible refine Ite.bool (fun _ => ?_) (fun _ => ?_)) <;> simp (maxSteps := 1000000) only [go_sem, reduceCtorEq, Nat.reduceLT, Nat.reduceLeDiff, reduceIte, ↓reduceIte, Nat.reduceEqDiff, Nat.reduceAdd, Nat.reduceMul, Nat.reduceSub, Int.reduceLE, Int.reduceLT, Int.reduceNeg, Int.reduceToNat]) | (with_reducible refine And.intro ?_ ?_))
    refine ⟨false, Ent.auto0 rfl ?_ ?_, Nat.zero_lt_one⟩ <;> simp only [go_sem, reduceCtorEq, reduceIte, Nat.reduceEqDiff, Nat.reduceLT, Nat.reduceLeDiff, Int.natCast_succ, cond_false]
    simp
  | false =>
    simp (maxSteps := 1000000) only [go_sem, reduceCtorEq, Nat.reduceLT, Nat.reduceLeDiff, reduceIte, ↓reduceIte, Nat.reduceEqDiff, Nat.reduceAdd, Nat.reduceMul, Nat.reduceSub, Int.reduceLE, Int.reduceLT, Int.reduceNeg, Int.reduceToNat]
    (repeat' first | (with_reducible refine Asm.intro fun _ => ?_) | ((with_reducible refine Chk.intro ?_ ?_); (· first | omega | (with_reducible refine Chk.intro ?_ ?_ <;> omega) | (simp; done) | (simp; omega))) | ((with_reducible refine LetW.i64 ?_ ?_ ?_); (· omega); (· omega)) | ((with_reducible refine Ite.decide (fun _ => ?_) (fun _ => ?_)) <;> first | (exfalso; omega) | simp (maxSteps := 1000000) only [go_sem, reduceCtorEq, Nat.reduceLT, Nat.reduceLeDiff, reduceIte, ↓reduceIte, Nat.reduceEqDiff, Nat.reduceAdd, Nat.reduceMul, Nat.reduceSub, Int.reduceLE, Int.reduceLT, Int.reduceNeg, Int.reduceToNat]) | ((with_reducible refine Ite.bool (fun _ => ?_) (fun _ => ?_)) <;> simp (maxSteps := 1000000) only [go_sem, reduceCtorEq, Nat.reduceLT, Nat.reduceLeDiff, reduceIte, ↓reduceIte, Nat.reduceEqDiff, Nat.reduceAdd, Nat.reduceMul, Nat.reduceSub, Int.reduceLE, Int.reduceLT, Int.reduceNeg, Int.reduceToNat]) | (with_reducible refine And.intro ?_ ?_))
    refine Ret.auto 0 ?_ rfl ?_ <;> simp only [go_sem, reduceCtorEq, reduceIte, Nat.reduceEqDiff, Nat.reduceLT, Nat.reduceLeDiff, Int.natCast_succ, Post]

set_option maxHeartbeats 1000000 in
theorem trimLeft_nil (tab : List Bool) : FnOk Tryz.prog 74 [.str [], .cell (tab.map .bool)] (.str []) [] := by
  refine FnOk.of_vc Tryz.func74 rfl (by decide) (by simp [Tryz.f74]) [.tmp 4] rfl fun w0 T0 _ => ?_
  simp only [Tryz.f74, argEnv]
  simp (maxSteps := 1000000) only [go_sem, reduceCtorEq, Nat.reduceLT, Nat.reduceLeDiff, reduceIte, ↓reduceIte, Nat.reduceEqDiff, Nat.reduceAdd, Nat.reduceMul, Nat.reduceSub, Int.reduceLE, Int.reduceLT, Int.reduceNeg, Int.reduceToNat]
  refine VcLoop.intro (fun k : Unit => ⟨16, [(0, .str [])], [], 0⟩) (fun _ => True) (fun k => 0) () ?_ trivial fun k _ => ?_
  · refine Ent.auto0 rfl ?_ ?_ <;> simp only [go_sem, reduceCtorEq, reduceIte, Nat.reduceEqDiff, Nat.reduceLT, Nat.reduceLeDiff, Int.natCast_succ]
  simp (maxSteps := 1000000) only [go_sem, reduceCtorEq, Nat.reduceLT, Nat.reduceLeDiff, reduceIte, ↓reduceIte, Nat.reduceEqDiff, Nat.reduceAdd, Nat.reduceMul, Nat.reduceSub, Int.reduceLE, Int.reduceLT, Int.reduceNeg, Int.reduceToNat]
  (repeat' first | (with_reducible refine Asm.intro fun _ => ?_) | ((with_reducible refine Chk.intro ?_ ?_); (· first | omega | (with_reducible refine Chk.intro ?_ ?_ <;> omega) | (simp; done) | (simp; omega))) | ((with_reducible refine LetW.i64 ?_ ?_ ?_); (· omega); (· omega)) | ((with_reducible refine Ite.decide (fun _ => ?_) (fun _ => ?_)) <;> first | (exfalso; omega) | simp (maxSteps := 1000000) only [go_sem, reduceCtorEq, Nat.reduceLT, Nat.reduceLeDiff, reduceIte, ↓reduceIte, Nat.reduceEqDiff, Nat.reduceAdd, Nat.reduceMul, Nat.reduceSub, Int.reduceLE, Int.reduceLT, Int.reduceNeg, Int.reduceToNat]) | ((with_reducible refine Ite.bool (fun _ => ?_) (fun _ => ?_)) <;> simp (maxSteps := 1000000) only [go_sem, reduceCtorEq, Nat.reduceLT, Nat.reduceLeDiff, reduceIte, ↓reduceIte, Nat.reduceEqDiff, Nat.reduceAdd, Nat.reduceMul, Nat.reduceSub, Int.reduceLE, Int.reduceLT, Int.reduceNeg, Int.reduceToNat]) | (with_reducible refine And.intro ?_ ?_))
  refine Ret.auto 0 ?_ rfl ?_ <;> simp only [go_sem, reduceCtorEq, reduceIte, Nat.reduceEqDiff, Nat.reduceLT, Nat.reduceLeDiff, Int.natCast_succ, Post]

theorem z106 : zeroOf Tryz.prog 106 = some (.agg (Array.replicate 256 (.bool false))) := by kernel_rfl
theorem c106 : Tryz.prog.cellsOf 106 = 256 := by kernel_rfl

attribute [go_sem] z106 c106
def asciiAt (s : List UInt8) : Nat → List Bool
  | 0 => List.replicate 256 false
  | i + 1 => (asciiAt s i).set (s.getD i 0).toNat true
theorem asciiAt_len (s : List UInt8) : ∀ i, (asciiAt s i).length = 256
  | 0 => by simp [asciiAt]
  | i + 1 => by simp [asciiAt, asciiAt_len s i]

set_option maxHeartbeats 1000000 in
theorem makeAscii_ok (s : List UInt8) (hs : ∀ i, i < s.length → (s.getD i 0).toNat < 128) : FnOk Tryz.prog 73 [.str s] (.tup [.agg ((asciiAt s s.length).map .bool), .bool true]) [] := by
  refine FnOk.of_vc Tryz.func73 rfl (by decide) (by simp [Tryz.f73]) [.cell 2 106, .tmp 3] rfl fun w0 T0 _ => ?_
  simp only [Tryz.f73, argEnv]
  simp (maxSteps := 1000000) only [go_sem, reduceCtorEq, Nat.reduceLT, Nat.reduceLeDiff, reduceIte, ↓reduceIte, Nat.reduceEqDiff, Nat.reduceAdd, Nat.reduceMul, Nat.reduceSub, Int.reduceLE, Int.reduceLT, Int.reduceNeg, Int.reduceToNat]
  refine VcLoop.intro (fun i : Nat => ⟨21, [(0, .str s), (2, .ptr 0 0), (4, .int .i64 i)], [(0, .box 106 ((asciiAt s i).map .bool))], 1⟩) (fun i => i ≤ s.length) (fun i => s.length - i) 0 ?_ (Nat.zero_le _) fun i hi => ?_
  · refine Ent.auto0 rfl ?_ ?_ <;> simp only [go_sem, reduceCtorEq, reduceIte, Nat.reduceEqDiff, Nat.reduceLT, Nat.reduceLeDiff, Int.natCast_succ, asciiAt]
  have hlen := asciiAt_len s i
  simp (maxSteps := 1000000) only [go_sem, reduceCtorEq, Nat.reduceLT, Nat.reduceLeDiff, reduceIte, ↓reduceIte, Nat.reduceEqDiff, Nat.reduceAdd, Nat.reduceMul, Nat.reduceSub, Int.reduceLE, Int.reduceLT, Int.reduceNeg, Int.reduceToNat]
  (repeat' first | (with_reducible refine Asm.intro fun _ => ?_) | ((with_reducible refine Chk.intro ?_ ?_); (· first | omega | (with_reducible refine Chk.intro ?_ ?_ <;> omega) | (simp; done) | (simp; omega))) | ((with_reducible refine LetW.i64 ?_ ?_ ?_); (· omega); (· omega)) | ((with_reducible refine Ite.decide (fun _ => ?_) (fun _ => ?_)) <;> first | (exfalso; omega) | simp (maxSteps := 1000000) only [go_sem, reduceCtorEq, Nat.reduceLT, Nat.reduceLeDiff, reduceIte, ↓reduceIte, Nat.reduceEqDiff, Nat.reduceAdd, Nat.reduceMul, Nat.reduceSub, Int.reduceLE, Int.reduceLT, Int.reduceNeg, Int.reduceToNat]) | ((with_reducible refine Ite.bool (fun _ => ?_) (fun _ => ?_)) <;> simp (maxSteps := 1000000) only [go_sem, reduceCtorEq, Nat.reduceLT, Nat.reduceLeDiff, reduceIte, ↓reduceIte, Nat.reduceEqDiff, Nat.reduceAdd, Nat.reduceMul, Nat.reduceSub, Int.reduceLE, Int.reduceLT, Int.reduceNeg, Int.reduceToNat]) | (with_reducible refine And.intro ?_ ?_))
  · have := hs i (by omega)
    omega
  · refine ⟨i + 1, Ent.auto0 rfl ?_ ?_, by omega, by omega⟩
    · simp only [go_sem, reduceCtorEq, reduceIte, Nat.reduceEqDiff, Nat.reduceLT, Nat.reduceLeDiff, Int.natCast_succ]
    · simp only [go_sem, reduceCtorEq, reduceIte, Nat.reduceEqDiff, Nat.reduceLT, Nat.reduceLeDiff, Int.natCast_succ, asciiAt]
  · have e : i = s.length := by omega
    subst e
    have e2 : ((asciiAt s s.length).map AV.bool).take 256 = (asciiAt s s.length).map AV.bool := List.take_of_length_le (by simp [hlen])
    have e3 : spl ((asciiAt s s.length).map AV.bool) 0 ((asciiAt s s.length).map AV.bool) = (asciiAt s s.length).map AV.bool := spl_all rfl
    refine Ret.auto 0 ?_ ?_ ?_ <;> simp only [go_sem, reduceCtorEq, reduceIte, Nat.reduceEqDiff, Nat.reduceLT, Nat.reduceLeDiff, Int.natCast_succ, Post, e2, e3, List.drop_zero]
    simp (maxSteps := 1000000) only [go_sem, reduceCtorEq, Nat.reduceLT, Nat.reduceLeDiff, reduceIte, ↓reduceIte, Nat.reduceEqDiff, Nat.reduceAdd, Nat.reduceMul, Nat.reduceSub, Int.reduceLE, Int.reduceLT, Int.reduceNeg, Int.reduceToNat, e2, hlen, List.length_map]

def cutset : List UInt8 := [97, 98, 99, 100, 101, 102, 103, 104, 105, 106, 107, 108, 109, 110, 111, 112, 113, 114, 115, 116, 117, 118, 119, 120, 121, 122, 48, 49, 50, 51, 52, 53, 54, 55, 56, 57, 45]
theorem cut_small : ∀ i, i < cutset.length → (cutset.getD i 0).toNat < 128 := by decide
theorem cut_a : (asciiAt cutset cutset.length).getD 97 false = true := by decide

set_option maxHeartbeats 1000000 in
theorem trim_a : FnOk Tryz.prog 40 [.str [97], .str cutset] (.str []) [] := by
  refine FnOk.of_vc Tryz.func40 rfl (by decide) (by simp [Tryz.f40]) [.tmp 4] rfl fun w0 T0 _ => ?_
  simp only [Tryz.f40, argEnv]
  have hc : ¬ cutset = [] := by decide
  have hl : cutset.length = 37 := rfl
  simp (maxSteps := 1000000) only [go_sem, reduceCtorEq, Nat.reduceLT, Nat.reduceLeDiff, reduceIte, ↓reduceIte, Nat.reduceEqDiff, Nat.reduceAdd, Nat.reduceMul, Nat.reduceSub, Int.reduceLE, Int.reduceLT, Int.reduceNeg, Int.reduceToNat, hc, hl]
  (repeat' first | (with_reducible refine Asm.intro fun _ => ?_) | ((with_reducible refine Chk.intro ?_ ?_); (· first | omega | (with_reducible refine Chk.intro ?_ ?_ <;> omega) | (simp; done) | (simp; omega))) | ((with_reducible refine LetW.i64 ?_ ?_ ?_); (· omega); (· omega)) | ((with_reducible refine Ite.decide (fun _ => ?_) (fun _ => ?_)) <;> first | (exfalso; omega) | simp (maxSteps := 1000000) only [go_sem, reduceCtorEq, Nat.reduceLT, Nat.reduceLeDiff, reduceIte, ↓reduceIte, Nat.reduceEqDiff, Nat.reduceAdd, Nat.reduceMul, Nat.reduceSub, Int.reduceLE, Int.reduceLT, Int.reduceNeg, Int.reduceToNat]) | ((with_reducible refine Ite.bool (fun _ => ?_) (fun _ => ?_)) <;> simp (maxSteps := 1000000) only [go_sem, reduceCtorEq, Nat.reduceLT, Nat.reduceLeDiff, reduceIte, ↓reduceIte, Nat.reduceEqDiff, Nat.reduceAdd, Nat.reduceMul, Nat.reduceSub, Int.reduceLE, Int.reduceLT, Int.reduceNeg, Int.reduceToNat]) | (with_reducible refine And.intro ?_ ?_))
  have hlen := asciiAt_len cutset cutset.length
  refine VcCall.fr (args' := [.str cutset]) (FnFr.of_ok (makeAscii_ok cutset cut_small) (by simp [noRo, noRoL, noRoL_bools]) rfl) (by simp [argOkL, allOk, argOkN]) 0 (by simp [Fv.below, belowL, belowL_bools]) (by simp [rowsB]) ?_
  have ha := cut_a
  generalize asciiAt cutset cutset.length = tab at hlen ha ⊢
  simp (maxSteps := 1000000) only [go_sem, reduceCtorEq, Nat.reduceLT, Nat.reduceLeDiff, reduceIte, ↓reduceIte, Nat.reduceEqDiff, Nat.reduceAdd, Nat.reduceMul, Nat.reduceSub, Int.reduceLE, Int.reduceLT, Int.reduceNeg, Int.reduceToNat]
  have e1 : spl (List.replicate 256 (AV.bool false)) 0 (tab.map .bool) = tab.map .bool := spl_all (by simp [hlen])
  refine Chk.intro (by simp [hlen]) ?_
  rw [e1]
  refine Chk.intro (by omega) ?_
  refine VcCall.fr (args' := [.str [97], .cell (tab.map .bool)]) (FnFr.of_ok (trimRight_a tab hlen ha) rfl rfl) ?_ 0 rfl (by simp [rowsB]) ?_
  · exact ⟨_, _, rfl, ⟨_, _, ⟨_, _, _, rfl, allOk_bools _ 4 _, rfl⟩, rfl, rfl⟩, rfl⟩
  simp (maxSteps := 1000000) only [go_sem, reduceCtorEq, Nat.reduceLT, Nat.reduceLeDiff, reduceIte, ↓reduceIte, Nat.reduceEqDiff, Nat.reduceAdd, Nat.reduceMul, Nat.reduceSub, Int.reduceLE, Int.reduceLT, Int.reduceNeg, Int.reduceToNat]
  refine VcCall.fr (args' := [.str [], .cell (tab.map .bool)]) (FnFr.of_ok (trimLeft_nil tab) rfl rfl) ?_ 0 rfl (by simp [rowsB]) ?_
  · exact ⟨_, _, rfl, ⟨_, _, ⟨_, _, _, rfl, allOk_bools _ 4 _, rfl⟩, rfl, rfl⟩, rfl⟩
  simp (maxSteps := 1000000) only [go_sem, reduceCtorEq, Nat.reduceLT, Nat.reduceLeDiff, reduceIte, ↓reduceIte, Nat.reduceEqDiff, Nat.reduceAdd, Nat.reduceMul, Nat.reduceSub, Int.reduceLE, Int.reduceLT, Int.reduceNeg, Int.reduceToNat]
  refine Ret.auto 0 ?_ rfl ?_ <;> simp only [go_sem, reduceCtorEq, reduceIte, Nat.reduceEqDiff, Nat.reduceLT, Nat.reduceLeDiff, Int.natCast_succ, Post]

set_option maxHeartbeats 1000000 in
theorem isName_a : FnOk Tryz.prog 17 [.str [97]] (.bool true) [] := by
  refine FnOk.of_vc Tryz.func17 rfl (by decide) (by simp [Tryz.f17]) [.tmp 2] rfl fun w0 T0 _ => ?_
  simp only [Tryz.f17, argEnv]
  simp (maxSteps := 1000000) only [go_sem, reduceCtorEq, Nat.reduceLT, Nat.reduceLeDiff, reduceIte, ↓reduceIte, Nat.reduceEqDiff, Nat.reduceAdd, Nat.reduceMul, Nat.reduceSub, Int.reduceLE, Int.reduceLT, Int.reduceNeg, Int.reduceToNat]
  (repeat' first | (with_reducible refine Asm.intro fun _ => ?_) | ((with_reducible refine Chk.intro ?_ ?_); (· first | omega | (with_reducible refine Chk.intro ?_ ?_ <;> omega) | (simp; done) | (simp; omega))) | ((with_reducible refine LetW.i64 ?_ ?_ ?_); (· omega); (· omega)) | ((with_reducible refine Ite.decide (fun _ => ?_) (fun _ => ?_)) <;> first | (exfalso; omega) | simp (maxSteps := 1000000) only [go_sem, reduceCtorEq, Nat.reduceLT, Nat.reduceLeDiff, reduceIte, ↓reduceIte, Nat.reduceEqDiff, Nat.reduceAdd, Nat.reduceMul, Nat.reduceSub, Int.reduceLE, Int.reduceLT, Int.reduceNeg, Int.reduceToNat]) | ((with_reducible refine Ite.bool (fun _ => ?_) (fun _ => ?_)) <;> simp (maxSteps := 1000000) only [go_sem, reduceCtorEq, Nat.reduceLT, Nat.reduceLeDiff, reduceIte, ↓reduceIte, Nat.reduceEqDiff, Nat.reduceAdd, Nat.reduceMul, Nat.reduceSub, Int.reduceLE, Int.reduceLT, Int.reduceNeg, Int.reduceToNat]) | (with_reducible refine And.intro ?_ ?_))
  · refine VcCall.fr (args' := [.str [97], .str cutset]) (FnFr.of_ok trim_a rfl rfl) (by simp [argOkL, allOk, argOkN, cutset]) 0 rfl (by simp [rowsB]) ?_
    simp (maxSteps := 1000000) only [go_sem, reduceCtorEq, Nat.reduceLT, Nat.reduceLeDiff, reduceIte, ↓reduceIte, Nat.reduceEqDiff, Nat.reduceAdd, Nat.reduceMul, Nat.reduceSub, Int.reduceLE, Int.reduceLT, Int.reduceNeg, Int.reduceToNat]
    (repeat' first | (with_reducible refine Asm.intro fun _ => ?_) | ((with_reducible refine Chk.intro ?_ ?_); (· first | omega | (with_reducible refine Chk.intro ?_ ?_ <;> omega) | (simp; done) | (simp; omega))) | ((with_reducible refine LetW.i64 ?_ ?_ ?_); (· omega); (· omega)) | ((with_reducible refine Ite.decide (fun _ => ?_) (fun _ => ?_)) <;> first | (exfalso; omega) | simp (maxSteps := 1000000) only [go_sem, reduceCtorEq, Nat.reduceLT, Nat.reduceLeDiff, reduceIte, ↓reduceIte, Nat.reduceEqDiff, Nat.reduceAdd, Nat.reduceMul, Nat.reduceSub, Int.reduceLE, Int.reduceLT, Int.reduceNeg, Int.reduceToNat]) | ((with_reducible refine Ite.bool (fun _ => ?_) (fun _ => ?_)) <;> simp (maxSteps := 1000000) only [go_sem, reduceCtorEq, Nat.reduceLT, Nat.reduceLeDiff, reduceIte, ↓reduceIte, Nat.reduceEqDiff, Nat.reduceAdd, Nat.reduceMul, Nat.reduceSub, Int.reduceLE, Int.reduceLT, Int.reduceNeg, Int.reduceToNat]) | (with_reducible refine And.intro ?_ ?_))
    refine Ret.auto 0 ?_ rfl ?_ <;> simp only [go_sem, reduceCtorEq, reduceIte, Nat.reduceEqDiff, Nat.reduceLT, Nat.reduceLeDiff, Int.natCast_succ, Post]
  · rename_i h
    exact (h (by decide)).elim

theorem landed_ok : FnOk Tryz.prog 4 [] (.bool true) [] := by
  refine FnOk.of_vc Tryz.func4 rfl (by decide) (by simp [Tryz.f4]) [.tmp 0] rfl fun w0 T0 _ => ?_
  simp only [Tryz.f4, argEnv]
  simp (maxSteps := 1000000) only [go_sem, reduceCtorEq, Nat.reduceLT, Nat.reduceLeDiff, reduceIte, ↓reduceIte, Nat.reduceEqDiff, Nat.reduceAdd, Nat.reduceMul, Nat.reduceSub, Int.reduceLE, Int.reduceLT, Int.reduceNeg, Int.reduceToNat]
  refine VcCall.fr (args' := [.str [97]]) (FnFr.of_ok isName_a rfl rfl) (by simp [argOkL, allOk, argOkN]) 0 rfl (by simp [rowsB]) ?_
  simp (maxSteps := 1000000) only [go_sem, reduceCtorEq, Nat.reduceLT, Nat.reduceLeDiff, reduceIte, ↓reduceIte, Nat.reduceEqDiff, Nat.reduceAdd, Nat.reduceMul, Nat.reduceSub, Int.reduceLE, Int.reduceLT, Int.reduceNeg, Int.reduceToNat]
  refine Ret.auto 0 ?_ rfl ?_ <;> simp only [go_sem, reduceCtorEq, reduceIte, Nat.reduceEqDiff, Nat.reduceLT, Nat.reduceLeDiff, Int.natCast_succ, Post]

end Go.Fv.Z
