/-
  A part of the proof of the claim: walks over the program's functions and the plain laws that these need. No condition of its own.
-/
import Derived.Test.YthhdmejmdjhbkaaGreatDoorYTopCorrCardPart1
import Derived.Test.YthhdmejmdjhbkaaGreatDoorFvPart10
import Derived.Test.YthhdmejmdjhbkaaGreatDoorYTopCorrCardPart2
import Derived.Test.YthhdmejmdjhbkaaGreatDoorFvPart11
import Derived.Test.YthhdmejmdjhbkaaGreatDoorFvPart6
import Derived.Test.YthhdmejmdjhbkaaGreatDoorYTopCorrCardPart3
import Derived.Test.YthhdmejmdjhbkaaGreatDoorYTopCorrCardPart6
import Derived.Lib.MapLaws
import Derived.Lib.DecodeN
import Derived.Sort.Walk0
import Derived.Test.YthhdmejmdjhbkaaGreatDoorYTopCorrCardPart5
namespace Go.Fv.Y
open Go Go.Proofs
set_option linter.unusedSimpArgs false
set_option linter.unusedVariables false
set_option maxRecDepth 8000
theorem drop_bools {tab : List Bool} {n : Nat} (h : n < tab.length) : (tab.map AV.bool).drop n = .bool (tab.getD n false) :: (tab.map AV.bool).drop (n + 1) := by
  rw [List.drop_eq_getElem_cons (by simpa using h)]
  simp [List.getD, h]

set_option maxHeartbeats 1000000 in
theorem contains_ok (tab : List Bool) (b : Int) (hl : tab.length = 256) (h0 : 0 ≤ b) (h1 : b < 256) : FnOk Tryz.prog 132 [.cell (tab.map .bool), .int .u8 b] (.bool (tab.getD b.toNat false)) [] := by
  refine FnOk.of_vc Tryz.func132 rfl (by decide) (by simp [Tryz.f132]) [.tmp 4] rfl fun w0 T0 _ => ?_
  simp only [Tryz.f132, argEnv]
  have hd := drop_bools (tab := tab) (n := b.toNat) (by omega)
  simp (maxSteps := 1000000) only [go_sem, reduceCtorEq, Nat.reduceLT, Nat.reduceLeDiff, reduceIte, ↓reduceIte, Nat.reduceEqDiff, Nat.reduceAdd, Nat.reduceMul, Nat.reduceSub, Int.reduceLE, Int.reduceLT, Int.reduceNeg, Int.reduceToNat, Nat.mul_one, hd]
  (repeat' first | (with_reducible refine Asm.intro fun _ => ?_) | ((with_reducible refine Chk.intro ?_ ?_); (· first | omega | (with_reducible refine Chk.intro ?_ ?_ <;> omega) | (simp; done) | (simp; omega))) | ((with_reducible refine LetW.i64 ?_ ?_ ?_); (· omega); (· omega)) | ((with_reducible refine Ite.decide (fun _ => ?_) (fun _ => ?_)) <;> first | (exfalso; omega) | simp (maxSteps := 1000000) only [go_sem, reduceCtorEq, Nat.reduceLT, Nat.reduceLeDiff, reduceIte, ↓reduceIte, Nat.reduceEqDiff, Nat.reduceAdd, Nat.reduceMul, Nat.reduceSub, Int.reduceLE, Int.reduceLT, Int.reduceNeg, Int.reduceToNat]) | ((with_reducible refine Ite.bool (fun _ => ?_) (fun _ => ?_)) <;> simp (maxSteps := 1000000) only [go_sem, reduceCtorEq, Nat.reduceLT, Nat.reduceLeDiff, reduceIte, ↓reduceIte, Nat.reduceEqDiff, Nat.reduceAdd, Nat.reduceMul, Nat.reduceSub, Int.reduceLE, Int.reduceLT, Int.reduceNeg, Int.reduceToNat]) | (with_reducible refine And.intro ?_ ?_))
  refine Ret.auto 0 ?_ rfl ?_ <;> simp only [go_sem, reduceCtorEq, reduceIte, Nat.reduceEqDiff, Nat.reduceLT, Nat.reduceLeDiff, Int.natCast_succ, Post]

set_option maxHeartbeats 1000000 in
theorem trimRight_a (tab : List Bool) (hl : tab.length = 256) (ha : tab.getD 97 false = true) : FnOk Tryz.prog 97 [.str [97], .cell (tab.map .bool)] (.str []) [] := by
  refine FnOk.of_vc Tryz.func97 rfl (by decide) (by simp [Tryz.f97]) [.tmp 4] rfl fun w0 T0 _ => ?_
  simp only [Tryz.f97, argEnv]
  simp (maxSteps := 1000000) only [go_sem, reduceCtorEq, Nat.reduceLT, Nat.reduceLeDiff, reduceIte, ↓reduceIte, Nat.reduceEqDiff, Nat.reduceAdd, Nat.reduceMul, Nat.reduceSub, Int.reduceLE, Int.reduceLT, Int.reduceNeg, Int.reduceToNat]
  refine VcLoop.intro (fun k : Bool => ⟨22, [(0, .str (cond k [97] [])), (1, .cell (tab.map .bool))], [], 0⟩) (fun _ => True) (fun k => cond k 1 0) true ?_ trivial fun k _ => ?_
  · refine Ent.auto0 rfl ?_ ?_ <;> simp only [go_sem, reduceCtorEq, reduceIte, Nat.reduceEqDiff, Nat.reduceLT, Nat.reduceLeDiff, Int.natCast_succ, cond_true]
  cases k with
  | true =>
    simp (maxSteps := 1000000) only [go_sem, reduceCtorEq, Nat.reduceLT, Nat.reduceLeDiff, reduceIte, ↓reduceIte, Nat.reduceEqDiff, Nat.reduceAdd, Nat.reduceMul, Nat.reduceSub, Int.reduceLE, Int.reduceLT, Int.reduceNeg, Int.reduceToNat]
    (repeat' first | (with_reducible refine Asm.intro fun _ => ?_) | ((with_reducible refine Chk.intro ?_ ?_); (· first | omega | (with_reducible refine Chk.intro ?_ ?_ <;> omega) | (simp; done) | (simp; omega))) | ((with_reducible refine LetW.i64 ?_ ?_ ?_); (· omega); (· omega)) | ((with_reducible refine Ite.decide (fun _ => ?_) (fun _ => ?_)) <;> first | (exfalso; omega) | simp (maxSteps := 1000000) only [go_sem, reduceCtorEq, Nat.reduceLT, Nat.reduceLeDiff, reduceIte, ↓reduceIte, Nat.reduceEqDiff, Nat.reduceAdd, Nat.reduceMul, Nat.reduceSub, Int.reduceLE, Int.reduceLT, Int.reduceNeg, Int.reduceToNat]) | ((with_reducible refine Ite.bool (fun _ => ?_) (fun _ => ?_)) <;> simp (maxSteps := 1000000) only [go_sem, reduceCtorEq, Nat.reduceLT, Nat.reduceLeDiff, reduceIte, ↓reduceIte, Nat.reduceEqDiff, Nat.reduceAdd, Nat.reduceMul, Nat.reduceSub, Int.reduceLE, Int.reduceLT, Int.reduceNeg, Int.reduceToNat]) | (with_reducible refine And.intro ?_ ?_))
    have e : ((([97] : List UInt8).getD (((1 : Nat) : Int) - 1).toNat 0).toNat : Int) = 97 := rfl
    rw [e]
    refine VcCall.fr (args' := [.cell (tab.map .bool), .int .u8 97]) (FnFr.of_ok (contains_ok tab 97 hl (by omega) (by omega)) rfl rfl) (by simp [argOkL, allOk, argOkN]) 0 rfl (by simp [rowsB]) ?_
    simp (maxSteps := 1000000) only [go_sem, reduceCtorEq, Nat.reduceLT, Nat.reduceLeDiff, reduceIte, ↓reduceIte, Nat.reduceEqDiff, Nat.reduceAdd, Nat.reduceMul, Nat.reduceSub, Int.reduceLE, Int.reduceLT, Int.reduceNeg, Int.reduceToNat, ha]
    (repeat' first | (with_reducible refine Asm.intro fun _ => ?_) | ((with_reducible refine Chk.intro ?_ ?_); (· first | omega | (with_reducible refine Chk.intro ?_ ?_ <;> omega) | (simp; done) | (simp; omega))) | ((with_reducible refine LetW.i64 ?_ ?_ ?_); (· omega); (· omega)) | ((with_reducible refine Ite.decide (fun _ => ?_) (fun _ => ?_)) <;> first | (exfalso; omega) | simp (maxSteps := 1000000) only [go_sem, reduceCtorEq, Nat.reduceLT, Nat.reduceLeDiff, reduceIte, ↓reduceIte, Nat.reduceEqDiff, Nat.reduceAdd, Nat.reduceMul, Nat.reduceSub, Int.reduceLE, Int.reduceLT, Int.reduceNeg, Int.reduceToNat]) | ((with_reducible refine Ite.bool (fun _ => ?_) (fun _ => ?_)) <;> simp (maxSteps := 1000000) only [go_sem, reduceCtorEq, Nat.reduceLT, Nat.reduceLeDiff, reduceIte, ↓reduceIte, Nat.reduceEqDiff, Nat.reduceAdd, Nat.reduceMul, Nat.reduceSub, Int.reduceLE, Int.reduceLT, Int.reduceNeg, Int.reduceToNat]) | (with_reducible refine And.intro ?_ ?_))
    refine ⟨false, Ent.auto0 rfl ?_ ?_, Nat.zero_lt_one⟩ <;> simp only [go_sem, reduceCtorEq, reduceIte, Nat.reduceEqDiff, Nat.reduceLT, Nat.reduceLeDiff, Int.natCast_succ, cond_false]
    simp
  | false =>
    simp (maxSteps := 1000000) only [go_sem, reduceCtorEq, Nat.reduceLT, Nat.reduceLeDiff, reduceIte, ↓reduceIte, Nat.reduceEqDiff, Nat.reduceAdd, Nat.reduceMul, Nat.reduceSub, Int.reduceLE, Int.reduceLT, Int.reduceNeg, Int.reduceToNat]
    (repeat' first | (with_reducible refine Asm.intro fun _ => ?_) | ((with_reducible refine Chk.intro ?_ ?_); (· first | omega | (with_reducible refine Chk.intro ?_ ?_ <;> omega) | (simp; done) | (simp; omega))) | ((with_reducible refine LetW.i64 ?_ ?_ ?_); (· omega); (· omega)) | ((with_reducible refine Ite.decide (fun _ => ?_) (fun _ => ?_)) <;> first | (exfalso; omega) | simp (maxSteps := 1000000) only [go_sem, reduceCtorEq, Nat.reduceLT, Nat.reduceLeDiff, reduceIte, ↓reduceIte, Nat.reduceEqDiff, Nat.reduceAdd, Nat.reduceMul, Nat.reduceSub, Int.reduceLE, Int.reduceLT, Int.reduceNeg, Int.reduceToNat]) | ((with_reducible refine Ite.bool (fun _ => ?_) (fun _ => ?_)) <;> simp (maxSteps := 1000000) only [go_sem, reduceCtorEq, Nat.reduceLT, Nat.reduceLeDiff, reduceIte, ↓reduceIte, Nat.reduceEqDiff, Nat.reduceAdd, Nat.reduceMul, Nat.reduceSub, Int.reduceLE, Int.reduceLT, Int.reduceNeg, Int.reduceToNat]) | (with_reducible refine And.intro ?_ ?_))
    refine Ret.auto 0 ?_ rfl ?_ <;> simp only [go_sem, reduceCtorEq, reduceIte, Nat.reduceEqDiff, Nat.reduceLT, Nat.reduceLeDiff, Int.natCast_succ, Post]

set_option maxHeartbeats 1000000 in
theorem trimLeft_nil (tab : List Bool) : FnOk Tryz.prog 96 [.str [], .cell (tab.map .bool)] (.str []) [] := by
  refine FnOk.of_vc Tryz.func96 rfl (by decide) (by simp [Tryz.f96]) [.tmp 4] rfl fun w0 T0 _ => ?_
  simp only [Tryz.f96, argEnv]
  simp (maxSteps := 1000000) only [go_sem, reduceCtorEq, Nat.reduceLT, Nat.reduceLeDiff, reduceIte, ↓reduceIte, Nat.reduceEqDiff, Nat.reduceAdd, Nat.reduceMul, Nat.reduceSub, Int.reduceLE, Int.reduceLT, Int.reduceNeg, Int.reduceToNat]
  refine VcLoop.intro (fun k : Unit => ⟨16, [(0, .str [])], [], 0⟩) (fun _ => True) (fun k => 0) () ?_ trivial fun k _ => ?_
  · refine Ent.auto0 rfl ?_ ?_ <;> simp only [go_sem, reduceCtorEq, reduceIte, Nat.reduceEqDiff, Nat.reduceLT, Nat.reduceLeDiff, Int.natCast_succ]
  simp (maxSteps := 1000000) only [go_sem, reduceCtorEq, Nat.reduceLT, Nat.reduceLeDiff, reduceIte, ↓reduceIte, Nat.reduceEqDiff, Nat.reduceAdd, Nat.reduceMul, Nat.reduceSub, Int.reduceLE, Int.reduceLT, Int.reduceNeg, Int.reduceToNat]
  (repeat' first | (with_reducible refine Asm.intro fun _ => ?_) | ((with_reducible refine Chk.intro ?_ ?_); (· first | omega | (with_reducible refine Chk.intro ?_ ?_ <;> omega) | (simp; done) | (simp; omega))) | ((with_reducible refine LetW.i64 ?_ ?_ ?_); (· omega); (· omega)) | ((with_reducible refine Ite.decide (fun _ => ?_) (fun _ => ?_)) <;> first | (exfalso; omega) | simp (maxSteps := 1000000) only [go_sem, reduceCtorEq, Nat.reduceLT, Nat.reduceLeDiff, reduceIte, ↓reduceIte, Nat.reduceEqDiff, Nat.reduceAdd, Nat.reduceMul, Nat.reduceSub, Int.reduceLE, Int.reduceLT, Int.reduceNeg, Int.reduceToNat]) | ((with_reducible refine Ite.bool (fun _ => ?_) (fun _ => ?_)) <;> simp (maxSteps := 1000000) only [go_sem, reduceCtorEq, Nat.reduceLT, Nat.reduceLeDiff, reduceIte, ↓reduceIte, Nat.reduceEqDiff, Nat.reduceAdd, Nat.reduceMul, Nat.reduceSub, Int.reduceLE, Int.reduceLT, Int.reduceNeg, Int.reduceToNat]) | (with_reducible refine And.intro ?_ ?_))
  refine Ret.auto 0 ?_ rfl ?_ <;> simp only [go_sem, reduceCtorEq, reduceIte, Nat.reduceEqDiff, Nat.reduceLT, Nat.reduceLeDiff, Int.natCast_succ, Post]

theorem z135 : zeroOf Tryz.prog 135 = some (.agg (Array.replicate 256 (.bool false))) := by kernel_rfl
theorem c135 : Tryz.prog.cellsOf 135 = 256 := by kernel_rfl

attribute [go_sem] z135 c135
def asciiAt (s : List UInt8) : Nat → List Bool
  | 0 => List.replicate 256 false
  | i + 1 => (asciiAt s i).set (s.getD i 0).toNat true
theorem asciiAt_len (s : List UInt8) : ∀ i, (asciiAt s i).length = 256
  | 0 => by simp [asciiAt]
  | i + 1 => by simp [asciiAt, asciiAt_len s i]

set_option maxHeartbeats 1000000 in
theorem makeAscii_ok (s : List UInt8) (hs : ∀ i, i < s.length → (s.getD i 0).toNat < 128) : FnOk Tryz.prog 95 [.str s] (.tup [.agg ((asciiAt s s.length).map .bool), .bool true]) [] := by
  refine FnOk.of_vc Tryz.func95 rfl (by decide) (by simp [Tryz.f95]) [.cell 2 135, .tmp 3] rfl fun w0 T0 _ => ?_
  simp only [Tryz.f95, argEnv]
  simp (maxSteps := 1000000) only [go_sem, reduceCtorEq, Nat.reduceLT, Nat.reduceLeDiff, reduceIte, ↓reduceIte, Nat.reduceEqDiff, Nat.reduceAdd, Nat.reduceMul, Nat.reduceSub, Int.reduceLE, Int.reduceLT, Int.reduceNeg, Int.reduceToNat]
  refine VcLoop.intro (fun i : Nat => ⟨21, [(0, .str s), (2, .ptr 0 0), (4, .int .i64 i)], [(0, .box 135 ((asciiAt s i).map .bool))], 1⟩) (fun i => i ≤ s.length) (fun i => s.length - i) 0 ?_ (Nat.zero_le _) fun i hi => ?_
  · refine Ent.auto0 rfl ?_ ?_ <;> simp only [go_sem, reduceCtorEq, reduceIte, Nat.reduceEqDiff, Nat.reduceLT, Nat.reduceLeDiff, Int.natCast_succ, asciiAt]
  have hlen := asciiAt_len s i
  simp (maxSteps := 1000000) only [go_sem, reduceCtorEq, Nat.reduceLT, Nat.reduceLeDiff, reduceIte, ↓reduceIte, Nat.reduceEqDiff, Nat.reduceAdd, Nat.reduceMul, Nat.reduceSub, Int.reduceLE, Int.reduceLT, Int.reduceNeg, Int.reduceToNat]
  (repeat' first | (with_reducible refine Asm.intro fun _ => ?_) | ((with_reducible refine Chk.intro ?_ ?_); (· first | omega | (with_reducible refine Chk.intro ?_ ?_ <;> omega) | (simp; done) | (simp; omega))) | ((with_reducible refine LetW.i64 ?_ ?_ ?_); (· omega); (· omega)) | ((with_reducible refine Ite.decide (fun _ => ?_) (fun _ => ?_)) <;> first | (exfalso; omega) | simp (maxSteps := 1000000) only [go_sem, reduceCtorEq, Nat.reduceLT, Nat.reduceLeDiff, reduceIte, ↓reduceIte, Nat.reduceEqDiff, Nat.reduceAdd, Nat.reduceMul, Nat.reduceSub, Int.reduceLE, Int.reduceLT, Int.reduceNeg, Int.reduceToNat]) | ((with_reducible refine Ite.bool (fun _ => ?_) (fun _ => ?_)) <;> simp (maxSteps := 1000000) only [go_sem, reduceCtorEq, Nat.reduceLT, Nat.reduceLeDiff, reduceIte, ↓reduceIte, Nat.reduceEqDiff, Nat.reduceAdd, Nat.reduceMul, Nat.reduceSub, Int.reduceLE, Int.reduceLT, Int.reduceNeg, Int.reduceToNat]) | (with_reducible refine And.intro ?_ ?_))
  · have := hs i (by omega)
    omega
  · refine ⟨i + 1, Ent.auto0 rfl ?_ ?_, by omega, by omega⟩
    · simp only [go_sem, reduceCtorEq, reduceIte, Nat.reduceEqDiff, Nat.reduceLT, Nat.reduceLeDiff, Int.natCast_succ]
    · simp only [go_sem, reduceCtorEq, reduceIte, Nat.reduceEqDiff, Nat.reduceLT, Nat.reduceLeDiff, Int.natCast_succ, asciiAt]
  · have e : i = s.length := by omega
    subst e
    have e2 : ((asciiAt s s.length).map AV.bool).take 256 = (asciiAt s s.length).map AV.bool := List.take_of_length_le (by simp [hlen])
    have e3 : spl ((asciiAt s s.length).map AV.bool) 0 ((asciiAt s s.length).map AV.bool) = (asciiAt s s.length).map AV.bool := spl_all rfl
    refine Ret.auto 0 ?_ ?_ ?_ <;> simp only [go_sem, reduceCtorEq, reduceIte, Nat.reduceEqDiff, Nat.reduceLT, Nat.reduceLeDiff, Int.natCast_succ, Post, e2, e3, List.drop_zero]
    simp (maxSteps := 1000000) only [go_sem, reduceCtorEq, Nat.reduceLT, Nat.reduceLeDiff, reduceIte, ↓reduceIte, Nat.reduceEqDiff, Nat.reduceAdd, Nat.reduceMul, Nat.reduceSub, Int.reduceLE, Int.reduceLT, Int.reduceNeg, Int.reduceToNat, e2, hlen, List.length_map]

def cutset : List UInt8 := [97, 98, 99, 100, 101, 102, 103, 104, 105, 106, 107, 108, 109, 110, 111, 112, 113, 114, 115, 116, 117, 118, 119, 120, 121, 122, 48, 49, 50, 51, 52, 53, 54, 55, 56, 57, 45]
theorem cut_small : ∀ i, i < cutset.length → (cutset.getD i 0).toNat < 128 := by decide
theorem cut_a : (asciiAt cutset cutset.length).getD 97 false = true := by decide

set_option maxHeartbeats 1000000 in
theorem trim_a : FnOk Tryz.prog 50 [.str [97], .str cutset] (.str []) [] := by
  refine FnOk.of_vc Tryz.func50 rfl (by decide) (by simp [Tryz.f50]) [.tmp 4] rfl fun w0 T0 _ => ?_
  simp only [Tryz.f50, argEnv]
  have hc : ¬ cutset = [] := by decide
  have hl : cutset.length = 37 := rfl
  simp (maxSteps := 1000000) only [go_sem, reduceCtorEq, Nat.reduceLT, Nat.reduceLeDiff, reduceIte, ↓reduceIte, Nat.reduceEqDiff, Nat.reduceAdd, Nat.reduceMul, Nat.reduceSub, Int.reduceLE, Int.reduceLT, Int.reduceNeg, Int.reduceToNat, hc, hl]
  (repeat' first | (with_reducible refine Asm.intro fun _ => ?_) | ((with_reducible refine Chk.intro ?_ ?_); (· first | omega | (with_reducible refine Chk.intro ?_ ?_ <;> omega) | (simp; done) | (simp; omega))) | ((with_reducible refine LetW.i64 ?_ ?_ ?_); (· omega); (· omega)) | ((with_reducible refine Ite.decide (fun _ => ?_) (fun _ => ?_)) <;> first | (exfalso; omega) | simp (maxSteps := 1000000) only [go_sem, reduceCtorEq, Nat.reduceLT, Nat.reduceLeDiff, reduceIte, ↓reduceIte, Nat.reduceEqDiff, Nat.reduceAdd, Nat.reduceMul, Nat.reduceSub, Int.reduceLE, Int.reduceLT, Int.reduceNeg, Int.reduceToNat]) | ((with_reducible refine Ite.bool (fun _ => ?_) (fun _ => ?_)) <;> simp (maxSteps := 1000000) only [go_sem, reduceCtorEq, Nat.reduceLT, Nat.reduceLeDiff, reduceIte, ↓reduceIte, Nat.reduceEqDiff, Nat.reduceAdd, Nat.reduceMul, Nat.reduceSub, Int.reduceLE, Int.reduceLT, Int.reduceNeg, Int.reduceToNat]) | (with_reducible refine And.intro ?_ ?_))
  have hlen := asciiAt_len cutset cutset.length
  refine VcCall.fr (args' := [.str cutset]) (FnFr.of_ok (makeAscii_ok cutset cut_small) (by simp [noRo, noRoL, noRoL_bools]) rfl) (by simp [argOkL, allOk, argOkN]) 0 (by simp [Fv.below, belowL, belowL_bools]) (by simp [rowsB]) ?_
  have ha := cut_a
  generalize asciiAt cutset cutset.length = tab at hlen ha ⊢
  simp (maxSteps := 1000000) only [go_sem, reduceCtorEq, Nat.reduceLT, Nat.reduceLeDiff, reduceIte, ↓reduceIte, Nat.reduceEqDiff, Nat.reduceAdd, Nat.reduceMul, Nat.reduceSub, Int.reduceLE, Int.reduceLT, Int.reduceNeg, Int.reduceToNat]
  have e1 : spl (List.replicate 256 (AV.bool false)) 0 (tab.map .bool) = tab.map .bool := spl_all (by simp [hlen])
  refine Chk.intro (by simp [hlen]) ?_
  rw [e1]
  refine Chk.intro (by omega) ?_
  refine VcCall.fr (args' := [.str [97], .cell (tab.map .bool)]) (FnFr.of_ok (trimRight_a tab hlen ha) rfl rfl) ?_ 0 rfl (by simp [rowsB]) ?_
  · exact ⟨_, _, rfl, ⟨_, _, ⟨_, _, _, rfl, allOk_bools _ 4 _, rfl⟩, rfl, rfl⟩, rfl⟩
  simp (maxSteps := 1000000) only [go_sem, reduceCtorEq, Nat.reduceLT, Nat.reduceLeDiff, reduceIte, ↓reduceIte, Nat.reduceEqDiff, Nat.reduceAdd, Nat.reduceMul, Nat.reduceSub, Int.reduceLE, Int.reduceLT, Int.reduceNeg, Int.reduceToNat]
  refine VcCall.fr (args' := [.str [], .cell (tab.map .bool)]) (FnFr.of_ok (trimLeft_nil tab) rfl rfl) ?_ 0 rfl (by simp [rowsB]) ?_
  · exact ⟨_, _, rfl, ⟨_, _, ⟨_, _, _, rfl, allOk_bools _ 4 _, rfl⟩, rfl, rfl⟩, rfl⟩
  simp (maxSteps := 1000000) only [go_sem, reduceCtorEq, Nat.reduceLT, Nat.reduceLeDiff, reduceIte, ↓reduceIte, Nat.reduceEqDiff, Nat.reduceAdd, Nat.reduceMul, Nat.reduceSub, Int.reduceLE, Int.reduceLT, Int.reduceNeg, Int.reduceToNat]
  refine Ret.auto 0 ?_ rfl ?_ <;> simp only [go_sem, reduceCtorEq, reduceIte, Nat.reduceEqDiff, Nat.reduceLT, Nat.reduceLeDiff, Int.natCast_succ, Post]

set_option maxHeartbeats 1000000 in
theorem isName_a : FnOk Tryz.prog 29 [.str [97]] (.bool true) [] := by
  refine FnOk.of_vc Tryz.func29 rfl (by decide) (by simp [Tryz.f29]) [.tmp 2] rfl fun w0 T0 _ => ?_
  simp only [Tryz.f29, argEnv]
  simp (maxSteps := 1000000) only [go_sem, reduceCtorEq, Nat.reduceLT, Nat.reduceLeDiff, reduceIte, ↓reduceIte, Nat.reduceEqDiff, Nat.reduceAdd, Nat.reduceMul, Nat.reduceSub, Int.reduceLE, Int.reduceLT, Int.reduceNeg, Int.reduceToNat]
  (repeat' first | (with_reducible refine Asm.intro fun _ => ?_) | ((with_reducible refine Chk.intro ?_ ?_); (· first | omega | (with_reducible refine Chk.intro ?_ ?_ <;> omega) | (simp; done) | (simp; omega))) | ((with_reducible refine LetW.i64 ?_ ?_ ?_); (· omega); (· omega)) | ((with_reducible refine Ite.decide (fun _ => ?_) (fun _ => ?_)) <;> first | (exfalso; omega) | simp (maxSteps := 1000000) only [go_sem, reduceCtorEq, Nat.reduceLT, Nat.reduceLeDiff, reduceIte, ↓reduceIte, Nat.reduceEqDiff, Nat.reduceAdd, Nat.reduceMul, Nat.reduceSub, Int.reduceLE, Int.reduceLT, Int.reduceNeg, Int.reduceToNat]) | ((with_reducible refine Ite.bool (fun _ => ?_) (fun _ => ?_)) <;> simp (maxSteps := 1000000) only [go_sem, reduceCtorEq, Nat.reduceLT, Nat.reduceLeDiff, reduceIte, ↓reduceIte, Nat.reduceEqDiff, Nat.reduceAdd, Nat.reduceMul, Nat.reduceSub, Int.reduceLE, Int.reduceLT, Int.reduceNeg, Int.reduceToNat]) | (with_reducible refine And.intro ?_ ?_))
  · refine VcCall.fr (args' := [.str [97], .str cutset]) (FnFr.of_ok trim_a rfl rfl) (by simp [argOkL, allOk, argOkN, cutset]) 0 rfl (by simp [rowsB]) ?_
    simp (maxSteps := 1000000) only [go_sem, reduceCtorEq, Nat.reduceLT, Nat.reduceLeDiff, reduceIte, ↓reduceIte, Nat.reduceEqDiff, Nat.reduceAdd, Nat.reduceMul, Nat.reduceSub, Int.reduceLE, Int.reduceLT, Int.reduceNeg, Int.reduceToNat]
    (repeat' first | (with_reducible refine Asm.intro fun _ => ?_) | ((with_reducible refine Chk.intro ?_ ?_); (· first | omega | (with_reducible refine Chk.intro ?_ ?_ <;> omega) | (simp; done) | (simp; omega))) | ((with_reducible refine LetW.i64 ?_ ?_ ?_); (· omega); (· omega)) | ((with_reducible refine Ite.decide (fun _ => ?_) (fun _ => ?_)) <;> first | (exfalso; omega) | simp (maxSteps := 1000000) only [go_sem, reduceCtorEq, Nat.reduceLT, Nat.reduceLeDiff, reduceIte, ↓reduceIte, Nat.reduceEqDiff, Nat.reduceAdd, Nat.reduceMul, Nat.reduceSub, Int.reduceLE, Int.reduceLT, Int.reduceNeg, Int.reduceToNat]) | ((with_reducible refine Ite.bool (fun _ => ?_) (fun _ => ?_)) <;> simp (maxSteps := 1000000) only [go_sem, reduceCtorEq, Nat.reduceLT, Nat.reduceLeDiff, reduceIte, ↓reduceIte, Nat.reduceEqDiff, Nat.reduceAdd, Nat.reduceMul, Nat.reduceSub, Int.reduceLE, Int.reduceLT, Int.reduceNeg, Int.reduceToNat]) | (with_reducible refine And.intro ?_ ?_))
    refine Ret.auto 0 ?_ rfl ?_ <;> simp only [go_sem, reduceCtorEq, reduceIte, Nat.reduceEqDiff, Nat.reduceLT, Nat.reduceLeDiff, Int.natCast_succ, Post]
  · rename_i h
    exact (h (by decide)).elim

end Go.Fv.Y

/- strings.Trim at any set of small letters; IsName. -/
namespace Go.Fv.Y
open Go Go.Proofs
set_option linter.unusedSimpArgs false
set_option linter.unusedVariables false
set_option linter.unnecessarySimpa false
set_option maxRecDepth 8000

end Go.Fv.Y

/- The closures that put tokens. -/
namespace Go.Fv.Y
open Go Go.Proofs
set_option linter.unusedSimpArgs false
set_option linter.unusedVariables false
set_option linter.unnecessarySimpa false
set_option maxRecDepth 8000

def tkAv (t : Tok) : List AV := [.str t.1, .bool t.2]
instance : FNoId tkAv := ⟨fun _ => rfl⟩
def tkR (l : List Tok) : RowV := .objs 2 (l.map tkAv)
theorem tk_elem (l : List Tok) {i : Nat} (h : i < l.length) : (l.map tkAv).getD i [] = [.str (l.getD i ([], false)).1, .bool (l.getD i ([], false)).2] := by
  rw [getD_lt (by simpa using h), getD_lt h, List.getElem_map]; rfl
theorem covA2 {a b : Item} : ∀ j, j < 2 → ∃ it, lk [(0, a), (1, b)] j = some it
  | 0, _ => ⟨_, rfl⟩
  | 1, _ => ⟨_, rfl⟩
  | _ + 2, h => absurd h (by omega)
/-- What is put. -/
def addT (out : List Tok) (s : Bytes) (w : Bool) : List Tok := if s = [] then out else out ++ [(s, w)]
theorem addT_len (out : List Tok) (s : Bytes) (w : Bool) : (addT out s w).length ≤ out.length + 1 := by
  unfold addT; split
  · omega
  · simp
def LastW (out : List Tok) : Prop := 0 < out.length → (out.getD (out.length - 1) ([], false)).2 = true

set_option maxHeartbeats 2000000 in
theorem add_ok (out : List Tok) (s : Bytes) (w : Bool) (hl : out.length ≤ 1000000000) (hw : w = false → LastW out) :
    FnIO Tryz.prog 48 [.str s, .bool w, .ptr 0 0] [(0, .box 41 [.own 1]), (1, .row 44 (tkR out))] 2 (.tup []) [(0, .box 41 [.own 2]), (2, .row 44 (tkR (addT out s w)))] := by
  refine FnIO.of_vc Tryz.func48 rfl (by decide) (by simp [Tryz.f48]) covA2 [] rfl fun w0 T0 _ => ?_
  simp only [Tryz.f48, argEnv]
  by_cases h0 : s = []
  · have e : addT out [] w = out := if_pos rfl
    (repeat' first | with_reducible (first | intro _ | refine rc ?_ | refine rl ?_ | refine rh ?_ | refine ru ?_ | refine rt ?_ | refine rf ?_ | refine rs ?_ | refine And.intro ?_ ?_) | omega | simp (maxSteps := 1000000) only [go_sem, simprocAttr, ↓reduceIte, h0, tkR, List.length_map])
    rw [e]
    refine RetK.of [(2, 1)] 3 (by decide) (by decide) ?_ rfl ?_ <;> simp only [go_sem, reduceCtorEq, reduceIte, Nat.reduceEqDiff, Nat.reduceLT, Nat.reduceLeDiff, Int.natCast_succ]
  · have e : addT out s w = out ++ [(s, w)] := if_neg h0
    have e2 : (out ++ [(s, w)]).map tkAv = out.map tkAv ++ [[.str s, .bool w]] := by simp [tkAv]
    rw [e]
    by_cases h1 : 0 < out.length
    · have h2 : (0 : Int) ≤ (out.length : Int) - 1 := by omega
      have h3 := tk_elem out (i := out.length - 1) (by omega)
      have h4 : ((out.length : Int) - 1).toNat = out.length - 1 := by omega
      cases w with
      | true =>
        (repeat' first | with_reducible (first | intro _ | refine rc ?_ | refine rl ?_ | refine rh ?_ | refine ru ?_ | refine rt ?_ | refine rf ?_ | refine rs ?_ | refine And.intro ?_ ?_) | omega | simp (maxSteps := 1000000) only [go_sem, simprocAttr, ↓reduceIte, h0, h2, h3, h4, tkR, List.length_map])
        refine RetK.of [(2, 3)] 3 (by decide) (by decide) ?_ rfl ?_ <;> simp only [go_sem, reduceCtorEq, reduceIte, Nat.reduceEqDiff, Nat.reduceLT, Nat.reduceLeDiff, Int.natCast_succ, e2, tkAv]
      | false =>
        rw [hw rfl h1] at h3
        (repeat' first | with_reducible (first | intro _ | refine rc ?_ | refine rl ?_ | refine rh ?_ | refine ru ?_ | refine rt ?_ | refine rf ?_ | refine rs ?_ | refine And.intro ?_ ?_) | omega | simp (maxSteps := 1000000) only [go_sem, simprocAttr, ↓reduceIte, h0, h2, h3, h4, tkR, List.length_map])
        refine RetK.of [(2, 3)] 3 (by decide) (by decide) ?_ rfl ?_ <;> simp only [go_sem, reduceCtorEq, reduceIte, Nat.reduceEqDiff, Nat.reduceLT, Nat.reduceLeDiff, Int.natCast_succ, e2, tkAv]
    · have h2 : out = [] := List.eq_nil_of_length_eq_zero (by omega)
      subst h2
      have h6 : ∀ n, ([] : List (List AV)).getD n [] = [] := fun n => by simp
      have h5 : ¬ (0 : Int) ≤ (([] : List Tok).length : Int) - 1 := by simp
      cases w with
      | true =>
        (repeat' first | with_reducible (first | intro _ | refine rc ?_ | refine rl ?_ | refine rh ?_ | refine ru ?_ | refine rt ?_ | refine rf ?_ | refine rs ?_ | refine And.intro ?_ ?_) | omega | simp (maxSteps := 1000000) only [go_sem, simprocAttr, ↓reduceIte, h0, h5, h6, List.drop_nil, tkR, List.length_map])
        refine RetK.of [(2, 3)] 3 (by decide) (by decide) ?_ rfl ?_ <;> simp only [go_sem, reduceCtorEq, reduceIte, Nat.reduceEqDiff, Nat.reduceLT, Nat.reduceLeDiff, Int.natCast_succ, e2, tkAv]
      | false =>
        (repeat' first | with_reducible (first | intro _ | refine rc ?_ | refine rl ?_ | refine rh ?_ | refine ru ?_ | refine rt ?_ | refine rf ?_ | refine rs ?_ | refine And.intro ?_ ?_) | omega | simp (maxSteps := 1000000) only [go_sem, simprocAttr, ↓reduceIte, h0, h5, h6, List.drop_nil, tkR, List.length_map])
        refine RetK.of [(2, 3)] 3 (by decide) (by decide) ?_ rfl ?_ <;> simp only [go_sem, reduceCtorEq, reduceIte, Nat.reduceEqDiff, Nat.reduceLT, Nat.reduceLeDiff, Int.natCast_succ, e2, tkAv]
end Go.Fv.Y

/- Split. -/
namespace Go.Fv.Y
open Go Go.Proofs
set_option linter.unusedSimpArgs false
set_option linter.unusedVariables false
set_option linter.unnecessarySimpa false
set_option maxRecDepth 8000

theorem lastW_nil : LastW [] := fun h => absurd h (by simp)
theorem lastW_snoc (l : List Tok) (m : Bytes) : LastW (l ++ [(m, true)]) := fun _ => by
  simp [List.getD]
structure SpI where
  i : Nat
  o : Nat
  out : List Tok
set_option maxHeartbeats 8000000 in
theorem split_ok (s : List UInt8) (hs : s.length ≤ 1048576) : FnOk Tryz.prog 15 [.str s] (.own 0) [(0, .row 44 (tkR (toks s [] [])))] := by
  refine FnOk.of_vc Tryz.func15 rfl (by decide) (by simp [Tryz.f15]) [.tmp 2] rfl fun w0 T0 _ => ?_
  simp only [Tryz.f15, argEnv]
  (repeat' first | with_reducible (first | intro _ | refine rc ?_ | refine rl ?_ | refine rh ?_ | refine ru ?_ | refine rt ?_ | refine rf ?_ | refine rs ?_ | refine And.intro ?_ ?_) | omega | simp (maxSteps := 1000000) only [go_sem, simprocAttr, ↓reduceIte])
  refine VcLoop.intro (fun x : SpI => ⟨69, [(6, .int .i64 x.i), (5, .int .i64 x.o), (4, .fn 48 [.ptr 0 0]), (3, .ptr 0 0), (0, .str s)], [(0, .box 41 [.own 1]), (1, .row 44 (tkR x.out))], 2⟩) (fun x => x.o ≤ x.i ∧ x.i ≤ s.length ∧ toks (s.drop x.i) (sub s x.o x.i) x.out = toks s [] [] ∧ LastW x.out ∧ x.out.length ≤ 2 * x.i) (fun x => s.length - x.i) ⟨0, 0, []⟩ ?_ ⟨Nat.le_refl _, Nat.zero_le _, by rw [sub_self]; rfl, lastW_nil, Nat.le_refl _⟩ fun x hx => ?_
  · refine Ent.trans (Ent.nilBox (P := Tryz.prog) 1 0 44 e44 rfl rfl) (Ent.auto0 rfl ?_ ?_) <;> simp only [go_sem, reduceCtorEq, reduceIte, Nat.reduceEqDiff, Nat.reduceLT, Nat.reduceLeDiff, Int.natCast_succ, zrow, tkR, put, List.set_cons_zero, List.set_cons_succ, Nat.zero_mul, List.range_zero, List.map_nil, List.replicate_zero]
  obtain ⟨i, o, out⟩ := x
  obtain ⟨hoi, hil, ht, hL, hol⟩ := hx
  dsimp only at hoi hil ht hL hol ⊢
  (repeat' first | with_reducible (first | intro _ | refine rc ?_ | refine rl ?_ | refine rh ?_ | refine ru ?_ | refine rt ?_ | refine rf ?_ | refine rs ?_ | refine And.intro ?_ ?_) | omega | simp (maxSteps := 1000000) only [go_sem, simprocAttr, ↓reduceIte, Int.toNat_natCast])
  · refine VcCall.fr (FnFr.of_ok (inWord_ok (s.getD i 0)) rfl rfl) (by simp only [noIdR_ok, argOkL, argOk, allOk, argOkN, List.drop_zero, lk, reduceIte, reduceCtorEq, Nat.reduceEqDiff, Option.some.injEq, Item.row.injEq, Item.box.injEq, AV.ro.injEq, exists_eq_left, exists_and_left, exists_eq_left', exists_eq_right, and_assoc, and_true, true_and, List.cons.injEq, exists_eq', exists_eq]) 0 rfl (by simp [rowsB]) ?_
    have hlt : i < s.length := by omega
    cases hc : inW (s.getD i 0) with
    | false =>
      (repeat' first | with_reducible (first | intro _ | refine rc ?_ | refine rl ?_ | refine rh ?_ | refine ru ?_ | refine rt ?_ | refine rf ?_ | refine rs ?_ | refine And.intro ?_ ?_) | omega | simp (maxSteps := 1000000) only [go_sem, simprocAttr, ↓reduceIte, hc])
      refine ⟨⟨i + 1, o, out⟩, Ent.auto0 rfl ?_ ?_, ⟨Nat.le_succ_of_le hoi, hlt, ?_, hL, by dsimp only; omega⟩, by dsimp only; omega⟩
      · simp only [go_sem, reduceCtorEq, reduceIte, Nat.reduceEqDiff, Nat.reduceLT, Nat.reduceLeDiff, Int.natCast_succ]
      · simp only [go_sem, reduceCtorEq, reduceIte, Nat.reduceEqDiff, Nat.reduceLT, Nat.reduceLeDiff, Int.natCast_succ, tkR]
      · rw [← step_other hlt hoi hc]; exact ht
    | true =>
      (repeat' first | with_reducible (first | intro _ | refine rc ?_ | refine rl ?_ | refine rh ?_ | refine ru ?_ | refine rt ?_ | refine rf ?_ | refine rs ?_ | refine And.intro ?_ ?_) | omega | simp (maxSteps := 1000000) only [go_sem, simprocAttr, ↓reduceIte, hc])
      refine VcLoop.intro (fun k : Nat => ⟨69, [(7, .int .i64 k), (6, .int .i64 i), (5, .int .i64 o), (4, .fn 48 [.ptr 0 0]), (3, .ptr 0 0), (0, .str s)], [(0, .box 41 [.own 1]), (1, .row 44 (tkR out))], 2⟩) (fun k => i ≤ k ∧ k ≤ s.length ∧ ∀ j, i ≤ j → j < k → inW (s.getD j 0) = true) (fun k => s.length - k) i ?_ ⟨Nat.le_refl _, hil, fun j h1 h2 => absurd h2 (by omega)⟩ fun k hk => ?_
      · refine Ent.auto0 rfl ?_ ?_ <;> simp only [go_sem, reduceCtorEq, reduceIte, Nat.reduceEqDiff, Nat.reduceLT, Nat.reduceLeDiff, Int.natCast_succ, tkR]
      obtain ⟨hk1, hk2, hr⟩ := hk
      by_cases hkl : k < s.length
      · have hkl2 : (k : Int) < s.length := by omega
        (repeat' first | with_reducible (first | intro _ | refine rc ?_ | refine rl ?_ | refine rh ?_ | refine ru ?_ | refine rt ?_ | refine rf ?_ | refine rs ?_ | refine And.intro ?_ ?_) | omega | simp (maxSteps := 1000000) only [go_sem, simprocAttr, ↓reduceIte, hkl2, Int.toNat_natCast])
        refine VcCall.fr (FnFr.of_ok (inWord_ok (s.getD k 0)) rfl rfl) (by simp only [noIdR_ok, argOkL, argOk, allOk, argOkN, List.drop_zero, lk, reduceIte, reduceCtorEq, Nat.reduceEqDiff, Option.some.injEq, Item.row.injEq, Item.box.injEq, AV.ro.injEq, exists_eq_left, exists_and_left, exists_eq_left', exists_eq_right, and_assoc, and_true, true_and, List.cons.injEq, exists_eq', exists_eq]) 0 rfl (by simp [rowsB]) ?_
        cases hW : inW (s.getD k 0) with
        | true =>
          (repeat' first | with_reducible (first | intro _ | refine rc ?_ | refine rl ?_ | refine rh ?_ | refine ru ?_ | refine rt ?_ | refine rf ?_ | refine rs ?_ | refine And.intro ?_ ?_) | omega | simp (maxSteps := 1000000) only [go_sem, simprocAttr, ↓reduceIte, hW])
          refine ⟨k + 1, Ent.auto0 rfl ?_ ?_, ⟨by omega, by omega, fun j h1 h2 => ?_⟩, by omega⟩
          · simp only [go_sem, reduceCtorEq, reduceIte, Nat.reduceEqDiff, Nat.reduceLT, Nat.reduceLeDiff, Int.natCast_succ]
          · simp only [go_sem, reduceCtorEq, reduceIte, Nat.reduceEqDiff, Nat.reduceLT, Nat.reduceLeDiff, Int.natCast_succ, tkR]
          · by_cases hj : j = k
            · rw [hj]; exact hW
            · exact hr j h1 (by omega)
        | false =>
          have he : k < s.length → inW (s.getD k 0) = false := fun _ => hW
          have hik : i < k := by
            by_cases h : i = k
            · subst h; exact absurd hc (by rw [hW]; decide)
            · omega
          obtain ⟨row, hR⟩ : ∃ row, (s.drop i).take (k - i) = row := ⟨_, rfl⟩
          have hR2 : sub s i k = row := hR
          have hrl : row.length = k - i := by rw [← hR2]; exact sub_len (by omega) (by omega)
          (repeat' first | with_reducible (first | intro _ | refine rc ?_ | refine rl ?_ | refine rh ?_ | refine ru ?_ | refine rt ?_ | refine rf ?_ | refine rs ?_ | refine And.intro ?_ ?_) | omega | simp (maxSteps := 1000000) only [go_sem, simprocAttr, ↓reduceIte, hR, hW])
          refine VcCall.fr (FnFr.of_ok (trim_ok row (by omega)) rfl rfl) (by simp only [noIdR_ok, argOkL, argOk, allOk, argOkN, List.drop_zero, lk, reduceIte, reduceCtorEq, Nat.reduceEqDiff, Option.some.injEq, Item.row.injEq, Item.box.injEq, AV.ro.injEq, exists_eq_left, exists_and_left, exists_eq_left', exists_eq_right, and_assoc, and_true, true_and, List.cons.injEq, exists_eq', exists_eq]) 0 rfl (by simp [rowsB]) ?_
          (repeat' first | with_reducible (first | intro _ | refine rc ?_ | refine rl ?_ | refine rh ?_ | refine ru ?_ | refine rt ?_ | refine rf ?_ | refine rs ?_ | refine And.intro ?_ ?_) | omega | simp (maxSteps := 1000000) only [go_sem, simprocAttr, ↓reduceIte])
          have hml := preN_le row
          refine VcCall.fr (FnFr.of_ok (isWord_ok (midQ row) (by omega)) rfl rfl) (by simp only [noIdR_ok, argOkL, argOk, allOk, argOkN, List.drop_zero, lk, reduceIte, reduceCtorEq, Nat.reduceEqDiff, Option.some.injEq, Item.row.injEq, Item.box.injEq, AV.ro.injEq, exists_eq_left, exists_and_left, exists_eq_left', exists_eq_right, and_assoc, and_true, true_and, List.cons.injEq, exists_eq', exists_eq]) 0 rfl (by simp [rowsB]) ?_
          cases hw : isWd (midQ row) with
          | false =>
            (repeat' first | with_reducible (first | intro _ | refine rc ?_ | refine rl ?_ | refine rh ?_ | refine ru ?_ | refine rt ?_ | refine rf ?_ | refine rs ?_ | refine And.intro ?_ ?_) | omega | simp (maxSteps := 1000000) only [go_sem, simprocAttr, ↓reduceIte, hw])
            refine ⟨⟨k, o, out⟩, Ent.auto0 rfl ?_ ?_, ⟨by dsimp only; omega, hk2, ?_, hL, by dsimp only; omega⟩, by dsimp only; omega⟩
            · simp only [go_sem, reduceCtorEq, reduceIte, Nat.reduceEqDiff, Nat.reduceLT, Nat.reduceLeDiff, Int.natCast_succ]
            · simp only [go_sem, reduceCtorEq, reduceIte, Nat.reduceEqDiff, Nat.reduceLT, Nat.reduceLeDiff, Int.natCast_succ, tkR]
            · rw [← step_row hlt hoi hik hk2 hr he out (by rw [hR2]; exact hw)]; exact ht
          | true =>
            have hne : midQ row ≠ [] := by
              intro h; rw [h, isWd_nil] at hw; cases hw
            have kI := index_ok row (midQ row) (by omega)
            rw [index_mid hne] at kI
            have hst := step_word hlt hoi hik hk2 hr he out (by rw [hR2]; exact hw)
            rw [hR2] at hst
            have eF : ((i : Int) + (preN row : Int)).toNat = i + preN row := by omega
            obtain ⟨p, hp⟩ : ∃ p, preN row = p := ⟨_, rfl⟩
            rw [hp] at kI hst eF hml
            have hbl := sub_len (s := s) (a := o) (b := i + p) (by omega) (by omega)
            obtain ⟨b, hb⟩ : ∃ b, sub s o (i + p) = b := ⟨_, rfl⟩
            rw [hb] at hst hbl
            have hb2 : (s.drop o).take (i + p - o) = b := hb
            have k1 := add_ok out b false (by omega) (fun _ => hL)
            have k2 := add_ok (addT out b false) (midQ row) true (by have := addT_len out b false; omega) (fun h => by cases h)
            rw [show addT (addT out b false) (midQ row) true = flush out b ++ [(midQ row, true)] from if_neg hne] at k2
            generalize midQ row = m at *
            (repeat' first | with_reducible (first | intro _ | refine rc ?_ | refine rl ?_ | refine rh ?_ | refine ru ?_ | refine rt ?_ | refine rf ?_ | refine rs ?_ | refine And.intro ?_ ?_) | omega | simp (maxSteps := 1000000) only [go_sem, simprocAttr, ↓reduceIte, hw])
            refine VcCall.k kI ?_
            (repeat' first | with_reducible (first | intro _ | refine rc ?_ | refine rl ?_ | refine rh ?_ | refine ru ?_ | refine rt ?_ | refine rf ?_ | refine rs ?_ | refine And.intro ?_ ?_) | omega | simp (maxSteps := 1000000) only [go_sem, simprocAttr, ↓reduceIte, eF, hb2, Int.toNat_natCast])
            refine VcCall.io [0, 1] k1 (by decide) (by simp [renL, ren, ioN]) rfl (by simp [subOk, ioN, lk, Item.ren, Item.below, ren, renL, belowL, Fv.below, tkR, renR_ok, belowR_ok]) covA2 3 (by decide) rfl (by simp [rowsB, Item.below, Fv.below, belowL, tkR, belowR_ok]) ?_
            (repeat' first | with_reducible (first | intro _ | refine rc ?_ | refine rl ?_ | refine rh ?_ | refine ru ?_ | refine rt ?_ | refine rf ?_ | refine rs ?_ | refine And.intro ?_ ?_) | omega | simp (maxSteps := 1000000) only [go_sem, simprocAttr, ↓reduceIte, S.ioS, ioRows, ioN, delL, Item.ren, ren, renL, tkR, List.length_cons, List.length_nil, List.getElem?_cons_zero, List.getElem?_cons_succ, List.getElem?_nil, List.cons_append, List.nil_append, Nat.reduceAdd, Nat.sub_self, Nat.add_zero, List.filter, eF, hb2])
            refine VcCall.io [0, 2] k2 (by decide) (by simp [renL, ren, ioN]) rfl (by simp [subOk, ioN, lk, Item.ren, Item.below, ren, renL, belowL, Fv.below, tkR, renR_ok, belowR_ok]) covA2 3 (by decide) rfl (by simp [rowsB, Item.below, Fv.below, belowL, tkR, belowR_ok]) ?_
            (repeat' first | with_reducible (first | intro _ | refine rc ?_ | refine rl ?_ | refine rh ?_ | refine ru ?_ | refine rt ?_ | refine rf ?_ | refine rs ?_ | refine And.intro ?_ ?_) | omega | simp (maxSteps := 1000000) only [go_sem, simprocAttr, ↓reduceIte, S.ioS, ioRows, ioN, delL, Item.ren, ren, renL, tkR, List.length_cons, List.length_nil, List.getElem?_cons_zero, List.getElem?_cons_succ, List.getElem?_nil, List.cons_append, List.nil_append, Nat.reduceAdd, Nat.sub_self, Nat.add_zero, List.filter])
            refine ⟨⟨k, i + p + m.length, flush out b ++ [(m, true)]⟩, Ent.auto0 rfl ?_ ?_, ⟨by dsimp only; omega, hk2, ?_, lastW_snoc _ _, ?_⟩, by dsimp only; omega⟩
            · simp only [go_sem, reduceCtorEq, reduceIte, Nat.reduceEqDiff, Nat.reduceLT, Nat.reduceLeDiff, Int.natCast_succ, Int.natCast_add]
            · simp only [go_sem, reduceCtorEq, reduceIte, Nat.reduceEqDiff, Nat.reduceLT, Nat.reduceLeDiff, Int.natCast_succ, tkR]
            · rw [← hst]; exact ht
            · have := addT_len out b false
              show (addT out b false ++ [(m, true)]).length ≤ 2 * k
              rw [List.length_append, List.length_singleton]; omega
      · have hkl2 : ¬ (k : Int) < s.length := by omega
        have he : k < s.length → inW (s.getD k 0) = false := fun h => absurd h hkl
        have hik : i < k := by
          by_cases h : i = k
          · subst h; exact absurd hc (by omega)
          · omega
        obtain ⟨row, hR⟩ : ∃ row, (s.drop i).take (k - i) = row := ⟨_, rfl⟩
        have hR2 : sub s i k = row := hR
        have hrl : row.length = k - i := by rw [← hR2]; exact sub_len (by omega) (by omega)
        (repeat' first | with_reducible (first | intro _ | refine rc ?_ | refine rl ?_ | refine rh ?_ | refine ru ?_ | refine rt ?_ | refine rf ?_ | refine rs ?_ | refine And.intro ?_ ?_) | omega | simp (maxSteps := 1000000) only [go_sem, simprocAttr, ↓reduceIte, hR, hkl2])
        refine VcCall.fr (FnFr.of_ok (trim_ok row (by omega)) rfl rfl) (by simp only [noIdR_ok, argOkL, argOk, allOk, argOkN, List.drop_zero, lk, reduceIte, reduceCtorEq, Nat.reduceEqDiff, Option.some.injEq, Item.row.injEq, Item.box.injEq, AV.ro.injEq, exists_eq_left, exists_and_left, exists_eq_left', exists_eq_right, and_assoc, and_true, true_and, List.cons.injEq, exists_eq', exists_eq]) 0 rfl (by simp [rowsB]) ?_
        (repeat' first | with_reducible (first | intro _ | refine rc ?_ | refine rl ?_ | refine rh ?_ | refine ru ?_ | refine rt ?_ | refine rf ?_ | refine rs ?_ | refine And.intro ?_ ?_) | omega | simp (maxSteps := 1000000) only [go_sem, simprocAttr, ↓reduceIte])
        have hml := preN_le row
        refine VcCall.fr (FnFr.of_ok (isWord_ok (midQ row) (by omega)) rfl rfl) (by simp only [noIdR_ok, argOkL, argOk, allOk, argOkN, List.drop_zero, lk, reduceIte, reduceCtorEq, Nat.reduceEqDiff, Option.some.injEq, Item.row.injEq, Item.box.injEq, AV.ro.injEq, exists_eq_left, exists_and_left, exists_eq_left', exists_eq_right, and_assoc, and_true, true_and, List.cons.injEq, exists_eq', exists_eq]) 0 rfl (by simp [rowsB]) ?_
        cases hw : isWd (midQ row) with
        | false =>
          (repeat' first | with_reducible (first | intro _ | refine rc ?_ | refine rl ?_ | refine rh ?_ | refine ru ?_ | refine rt ?_ | refine rf ?_ | refine rs ?_ | refine And.intro ?_ ?_) | omega | simp (maxSteps := 1000000) only [go_sem, simprocAttr, ↓reduceIte, hw])
          refine ⟨⟨k, o, out⟩, Ent.auto0 rfl ?_ ?_, ⟨by dsimp only; omega, hk2, ?_, hL, by dsimp only; omega⟩, by dsimp only; omega⟩
          · simp only [go_sem, reduceCtorEq, reduceIte, Nat.reduceEqDiff, Nat.reduceLT, Nat.reduceLeDiff, Int.natCast_succ]
          · simp only [go_sem, reduceCtorEq, reduceIte, Nat.reduceEqDiff, Nat.reduceLT, Nat.reduceLeDiff, Int.natCast_succ, tkR]
          · rw [← step_row hlt hoi hik hk2 hr he out (by rw [hR2]; exact hw)]; exact ht
        | true =>
          have hne : midQ row ≠ [] := by
            intro h; rw [h, isWd_nil] at hw; cases hw
          have kI := index_ok row (midQ row) (by omega)
          rw [index_mid hne] at kI
          have hst := step_word hlt hoi hik hk2 hr he out (by rw [hR2]; exact hw)
          rw [hR2] at hst
          have eF : ((i : Int) + (preN row : Int)).toNat = i + preN row := by omega
          obtain ⟨p, hp⟩ : ∃ p, preN row = p := ⟨_, rfl⟩
          rw [hp] at kI hst eF hml
          have hbl := sub_len (s := s) (a := o) (b := i + p) (by omega) (by omega)
          obtain ⟨b, hb⟩ : ∃ b, sub s o (i + p) = b := ⟨_, rfl⟩
          rw [hb] at hst hbl
          have hb2 : (s.drop o).take (i + p - o) = b := hb
          have k1 := add_ok out b false (by omega) (fun _ => hL)
          have k2 := add_ok (addT out b false) (midQ row) true (by have := addT_len out b false; omega) (fun h => by cases h)
          rw [show addT (addT out b false) (midQ row) true = flush out b ++ [(midQ row, true)] from if_neg hne] at k2
          generalize midQ row = m at *
          (repeat' first | with_reducible (first | intro _ | refine rc ?_ | refine rl ?_ | refine rh ?_ | refine ru ?_ | refine rt ?_ | refine rf ?_ | refine rs ?_ | refine And.intro ?_ ?_) | omega | simp (maxSteps := 1000000) only [go_sem, simprocAttr, ↓reduceIte, hw])
          refine VcCall.k kI ?_
          (repeat' first | with_reducible (first | intro _ | refine rc ?_ | refine rl ?_ | refine rh ?_ | refine ru ?_ | refine rt ?_ | refine rf ?_ | refine rs ?_ | refine And.intro ?_ ?_) | omega | simp (maxSteps := 1000000) only [go_sem, simprocAttr, ↓reduceIte, eF, hb2, Int.toNat_natCast])
          refine VcCall.io [0, 1] k1 (by decide) (by simp [renL, ren, ioN]) rfl (by simp [subOk, ioN, lk, Item.ren, Item.below, ren, renL, belowL, Fv.below, tkR, renR_ok, belowR_ok]) covA2 3 (by decide) rfl (by simp [rowsB, Item.below, Fv.below, belowL, tkR, belowR_ok]) ?_
          (repeat' first | with_reducible (first | intro _ | refine rc ?_ | refine rl ?_ | refine rh ?_ | refine ru ?_ | refine rt ?_ | refine rf ?_ | refine rs ?_ | refine And.intro ?_ ?_) | omega | simp (maxSteps := 1000000) only [go_sem, simprocAttr, ↓reduceIte, S.ioS, ioRows, ioN, delL, Item.ren, ren, renL, tkR, List.length_cons, List.length_nil, List.getElem?_cons_zero, List.getElem?_cons_succ, List.getElem?_nil, List.cons_append, List.nil_append, Nat.reduceAdd, Nat.sub_self, Nat.add_zero, List.filter, eF, hb2])
          refine VcCall.io [0, 2] k2 (by decide) (by simp [renL, ren, ioN]) rfl (by simp [subOk, ioN, lk, Item.ren, Item.below, ren, renL, belowL, Fv.below, tkR, renR_ok, belowR_ok]) covA2 3 (by decide) rfl (by simp [rowsB, Item.below, Fv.below, belowL, tkR, belowR_ok]) ?_
          (repeat' first | with_reducible (first | intro _ | refine rc ?_ | refine rl ?_ | refine rh ?_ | refine ru ?_ | refine rt ?_ | refine rf ?_ | refine rs ?_ | refine And.intro ?_ ?_) | omega | simp (maxSteps := 1000000) only [go_sem, simprocAttr, ↓reduceIte, S.ioS, ioRows, ioN, delL, Item.ren, ren, renL, tkR, List.length_cons, List.length_nil, List.getElem?_cons_zero, List.getElem?_cons_succ, List.getElem?_nil, List.cons_append, List.nil_append, Nat.reduceAdd, Nat.sub_self, Nat.add_zero, List.filter])
          refine ⟨⟨k, i + p + m.length, flush out b ++ [(m, true)]⟩, Ent.auto0 rfl ?_ ?_, ⟨by dsimp only; omega, hk2, ?_, lastW_snoc _ _, ?_⟩, by dsimp only; omega⟩
          · simp only [go_sem, reduceCtorEq, reduceIte, Nat.reduceEqDiff, Nat.reduceLT, Nat.reduceLeDiff, Int.natCast_succ, Int.natCast_add]
          · simp only [go_sem, reduceCtorEq, reduceIte, Nat.reduceEqDiff, Nat.reduceLT, Nat.reduceLeDiff, Int.natCast_succ, tkR]
          · rw [← hst]; exact ht
          · have := addT_len out b false
            show (addT out b false ++ [(m, true)]).length ≤ 2 * k
            rw [List.length_append, List.length_singleton]; omega
  · have e : i = s.length := by omega
    subst e
    rw [List.drop_of_length_le (Nat.le_refl _), toks_nil] at ht
    obtain ⟨b, hb⟩ : ∃ b, sub s o s.length = b := ⟨_, rfl⟩
    have hb2 : (s.drop o).take (s.length - o) = b := hb
    have hbl := sub_len (s := s) (a := o) (b := s.length) hoi (Nat.le_refl _)
    rw [hb] at hbl ht
    have k1 := add_ok out b false (by omega) (fun _ => hL)
    rw [show addT out b false = toks s [] [] from ht] at k1
    rw [hb2]
    refine VcCall.io [0, 1] k1 (by decide) (by simp [renL, ren, ioN]) rfl (by simp [subOk, ioN, lk, Item.ren, Item.below, ren, renL, belowL, Fv.below, tkR, renR_ok, belowR_ok]) covA2 3 (by decide) rfl (by simp [rowsB, Item.below, Fv.below, belowL, tkR, belowR_ok]) ?_
    (repeat' first | with_reducible (first | intro _ | refine rc ?_ | refine rl ?_ | refine rh ?_ | refine ru ?_ | refine rt ?_ | refine rf ?_ | refine rs ?_ | refine And.intro ?_ ?_) | omega | simp (maxSteps := 1000000) only [go_sem, simprocAttr, ↓reduceIte, S.ioS, ioRows, ioN, delL, Item.ren, ren, renL, tkR, List.length_cons, List.length_nil, List.getElem?_cons_zero, List.getElem?_cons_succ, List.getElem?_nil, List.cons_append, List.nil_append, Nat.reduceAdd, Nat.sub_self, Nat.add_zero, List.filter, hb2])
    refine Ret.auto 1 ?_ rfl ?_ <;> simp only [go_sem, reduceCtorEq, reduceIte, Nat.reduceEqDiff, Nat.reduceLT, Nat.reduceLeDiff, Int.natCast_succ, Post, tkR]
end Go.Fv.Y

/- How many tokens there are. -/
namespace Go.Fv.Y
open Go
set_option linter.unusedSimpArgs false
set_option linter.unusedVariables false
set_option linter.unnecessarySimpa false

theorem flush_len (out : List Tok) (b : Bytes) : (flush out b).length ≤ out.length + 1 := by
  unfold flush; split <;> simp
theorem toks_len : ∀ (n : Nat) (s btw : Bytes) (out : List Tok), s.length ≤ n → (toks s btw out).length ≤ out.length + 2 * s.length + 1
  | 0, s, btw, out, h => by
    have : s = [] := List.eq_nil_of_length_eq_zero (by omega)
    subst this
    rw [toks_nil]; have := flush_len out btw; simp; omega
  | n + 1, [], btw, out, h => by rw [toks_nil]; have := flush_len out btw; simp; omega
  | n + 1, c :: s, btw, out, h => by
    cases hc : inW c with
    | false =>
      rw [toks_other hc]
      have := toks_len n s (btw ++ [c]) out (by simpa using h)
      simp only [List.length_cons]; omega
    | true =>
      have hd := drop_lt (s := s) hc
      by_cases hw : isWd (midQ ((c :: s).takeWhile inW)) = true
      · rw [toks_word hc _ _ hw]
        have h1 := toks_len n ((c :: s).dropWhile inW) (postQ (dropQ ((c :: s).takeWhile inW))) (flush out (btw ++ preQ ((c :: s).takeWhile inW)) ++ [(midQ ((c :: s).takeWhile inW), true)]) (by omega)
        have h2 := flush_len out (btw ++ preQ ((c :: s).takeWhile inW))
        simp only [List.length_append, List.length_singleton] at h1
        omega
      · rw [toks_row hc _ _ hw]
        have h1 := toks_len n ((c :: s).dropWhile inW) (btw ++ (c :: s).takeWhile inW) out (by omega)
        omega
end Go.Fv.Y

/- wordsOf. -/
namespace Go.Fv.Y
open Go Go.Proofs
set_option linter.unusedSimpArgs false
set_option linter.unusedVariables false
set_option linter.unnecessarySimpa false
set_option maxRecDepth 8000

end Go.Fv.Y

/- Words of texts, counted and put in order. Plain law. -/
namespace Go.Fv.Y
open Go
set_option linter.unusedSimpArgs false
set_option linter.unusedVariables false
set_option linter.unnecessarySimpa false

end Go.Fv.Y

/- Lines put together: what JoinLines computes. -/
namespace Go.Fv.Y
open Go
set_option linter.unusedSimpArgs false
set_option linter.unusedVariables false
set_option linter.unnecessarySimpa false

/-- A hyphen at the end behind a letter, and a letter at the beginning. -/
def hy (b s : Bytes) : Bool := decide (2 ≤ b.length) && decide (b.getD (b.length - 1) 0 = 45) && isL (b.getD (b.length - 2) 0) && isL (s.getD 0 0)
end Go.Fv.Y

/- JoinLines. -/
namespace Go.Fv.Y
open Go Go.Proofs
set_option linter.unusedSimpArgs false
set_option linter.unusedVariables false
set_option linter.unnecessarySimpa false
set_option maxRecDepth 8000

end Go.Fv.Y

/- The reference's closure that puts tokens. -/
namespace Go.Fv.Y
open Go Go.Proofs
set_option linter.unusedSimpArgs false
set_option linter.unusedVariables false
set_option linter.unnecessarySimpa false
set_option maxRecDepth 8000

end Go.Fv.Y

/- The reference's Tokens. -/
namespace Go.Fv.Y
open Go Go.Proofs
set_option linter.unusedSimpArgs false
set_option linter.unusedVariables false
set_option linter.unnecessarySimpa false
set_option maxRecDepth 8000

end Go.Fv.Y

/- Lines put together: the small functions of the reference. -/
namespace Go.Fv.Y
open Go Go.Proofs
set_option linter.unusedSimpArgs false
set_option linter.unusedVariables false
set_option linter.unnecessarySimpa false
set_option maxRecDepth 8000

end Go.Fv.Y

namespace Go.Fv.Y
open Go Go.Proofs
set_option linter.unusedSimpArgs false
set_option linter.unusedVariables false
set_option maxRecDepth 8000
end Go.Fv.Y

/- JoinLines of the reference. -/
namespace Go.Fv.Y
open Go Go.Proofs
set_option linter.unusedSimpArgs false
set_option linter.unusedVariables false
set_option linter.unnecessarySimpa false
set_option maxRecDepth 8000

instance capsNil : CapsOk [] := ⟨rfl⟩
end Go.Fv.Y

/- Words that are corrected: the closure of Correct, and the reference. -/
namespace Go.Fv.Y
open Go Go.Proofs
set_option linter.unusedSimpArgs false
set_option linter.unusedVariables false
set_option linter.unnecessarySimpa false
set_option maxRecDepth 8000

theorem smallL_len (w : Bytes) : (smallL w).length = w.length := by unfold smallL; simp
theorem nearL_bd {D : List Wd} (hg : GoodD D) {sw : List Sw} (hsw : GoodSw sw) {w : Bytes} (hw : w.length ≤ 1000) {most : Int} : gsBd (nearL D sw w most) := fun x hx => by
  unfold nearL at hx
  exact gs_ok hg hsw hw (fun x hx => hx) x ((sortG_perm _).mem_iff.1 hx)
set_option maxHeartbeats 8000000 in
theorem corr1_ok (D : List Wd) (hg : GoodD D) (hl : D.length < 40) (sw : List Sw) (hsw : GoodSw sw) (hswl : sw.length ≤ 4000) (most : Int) (w : Bytes) (hw : isWd w = true) :
    FnOk Tryz.prog 35 [.str w, .cell [.cell [.mp (dKs D) (dVs D), .ro (.strs (wsD D))]], .cell [.mp (kgKs (grp [] sw)) (kgVs (grp [] sw))], .cell [.int .i64 most]] (.str (corrW D sw most w)) [] := by
  have hwb := isWd_bd hw
  have kk := knows_ok D (wsD D) w
  have kn := near_ok D hg hl sw hsw hswl w (by omega) most
  have kb := best_ok (nearL D sw w most) (nearL_bd hg hsw (by omega)) _ rfl _ rfl
  have ks := smallW_ok w
  have hsl := smallL_len w
  have kn2 := near_ok D hg hl sw hsw hswl (smallL w) (by omega) most
  have kb2 := best_ok (nearL D sw (smallL w) most) (nearL_bd hg hsw (by omega)) _ rfl _ rfl
  have hbw : ∀ g, bestG (nearL D sw (smallL w) most) = some g → FnOk Tryz.prog 40 [.str g.t, .str w] (.str (recL g.t w)) [] := fun g h => by
    have h1 := isWd_bd (near_word hg h)
    exact recased_ok g.t w (List.length_pos_iff.2 h1.1) (List.length_pos_iff.2 hwb.1) (by omega) (by omega)
  unfold corrW
  generalize nearL D sw w most = G at *
  generalize nearL D sw (smallL w) most = G2 at *
  generalize wsD D = ws at *
  refine FnOk.of_vc Tryz.func35 rfl (by decide) (by simp [Tryz.f35]) [.tmp 5] rfl fun w0 T0 _ => ?_
  simp only [Tryz.f35, argEnv]
  by_cases hh : hasW D w = true
  · rw [if_pos hh]
    rw [hh] at kk
    (repeat' first | with_reducible (first | intro _ | refine rc ?_ | refine rl ?_ | refine rh ?_ | refine ru ?_ | refine rt ?_ | refine rf ?_ | refine rs ?_ | refine And.intro ?_ ?_) | omega | simp (maxSteps := 1000000) only [go_sem, simprocAttr, ↓reduceIte])
    refine VcCall.k (kk) ?_
    (repeat' first | with_reducible (first | intro _ | refine rc ?_ | refine rl ?_ | refine rh ?_ | refine ru ?_ | refine rt ?_ | refine rf ?_ | refine rs ?_ | refine And.intro ?_ ?_) | omega | simp (maxSteps := 1000000) only [go_sem, simprocAttr, ↓reduceIte])
    refine Ret.auto 0 ?_ rfl ?_ <;> simp only [go_sem, reduceCtorEq, reduceIte, Nat.reduceEqDiff, Nat.reduceLT, Nat.reduceLeDiff, Int.natCast_succ, Post]
  rw [if_neg hh]
  rw [Bool.not_eq_true] at hh
  rw [hh] at kk
  (repeat' first | with_reducible (first | intro _ | refine rc ?_ | refine rl ?_ | refine rh ?_ | refine ru ?_ | refine rt ?_ | refine rf ?_ | refine rs ?_ | refine And.intro ?_ ?_) | omega | simp (maxSteps := 1000000) only [go_sem, simprocAttr, ↓reduceIte])
  refine VcCall.k (kk) ?_
  (repeat' first | with_reducible (first | intro _ | refine rc ?_ | refine rl ?_ | refine rh ?_ | refine ru ?_ | refine rt ?_ | refine rf ?_ | refine rs ?_ | refine And.intro ?_ ?_) | omega | simp (maxSteps := 1000000) only [go_sem, simprocAttr, ↓reduceIte])
  refine VcCall.ro (.ro (gsR G)) (FnFr.of_ok kn rfl (by simp [noRoRows, noRoItem, noRoRow, noRoL, noRo, gsR, Gs.av])) (by simp only [noIdR_ok, argOkL, argOk, allOk, argOkN, List.drop_zero, lk, reduceIte, reduceCtorEq, Nat.reduceEqDiff, Option.some.injEq, Item.row.injEq, Item.box.injEq, AV.ro.injEq, exists_eq_left, exists_and_left, exists_eq_left', exists_eq_right, and_assoc, and_true, true_and, List.cons.injEq, exists_eq', exists_eq]) (by simp [outOk, argOkL, allOk, argOk, argOkN, lk, noIdR_ok, gsR]) rfl ?_
  (repeat' first | with_reducible (first | intro _ | refine rc ?_ | refine rl ?_ | refine rh ?_ | refine ru ?_ | refine rt ?_ | refine rf ?_ | refine rs ?_ | refine And.intro ?_ ?_) | omega | simp (maxSteps := 1000000) only [go_sem, simprocAttr, ↓reduceIte])
  refine VcCall.k (kb) ?_
  cases hG : bestG G with
  | some g =>
    rw [hG] at kb
    (repeat' first | with_reducible (first | intro _ | refine rc ?_ | refine rl ?_ | refine rh ?_ | refine ru ?_ | refine rt ?_ | refine rf ?_ | refine rs ?_ | refine And.intro ?_ ?_) | omega | simp (maxSteps := 1000000) only [go_sem, simprocAttr, ↓reduceIte, gOr, Option.isSome])
    refine Ret.auto 0 ?_ rfl ?_ <;> simp only [go_sem, reduceCtorEq, reduceIte, Nat.reduceEqDiff, Nat.reduceLT, Nat.reduceLeDiff, Int.natCast_succ, Post]
  | none =>
    rw [hG] at kb
    (repeat' first | with_reducible (first | intro _ | refine rc ?_ | refine rl ?_ | refine rh ?_ | refine ru ?_ | refine rt ?_ | refine rf ?_ | refine rs ?_ | refine And.intro ?_ ?_) | omega | simp (maxSteps := 1000000) only [go_sem, simprocAttr, ↓reduceIte, gOr, Option.isSome, Gs.zero])
    refine VcCall.k (ks) ?_
    by_cases hs : smallL w = w
    · rw [if_pos hs]
      (repeat' first | with_reducible (first | intro _ | refine rc ?_ | refine rl ?_ | refine rh ?_ | refine ru ?_ | refine rt ?_ | refine rf ?_ | refine rs ?_ | refine And.intro ?_ ?_) | omega | simp (maxSteps := 1000000) only [go_sem, simprocAttr, ↓reduceIte, hs])
      refine Ret.auto 0 ?_ rfl ?_ <;> simp only [go_sem, reduceCtorEq, reduceIte, Nat.reduceEqDiff, Nat.reduceLT, Nat.reduceLeDiff, Int.natCast_succ, Post]
    · rw [if_neg hs]
      generalize smallL w = lw at *
      (repeat' first | with_reducible (first | intro _ | refine rc ?_ | refine rl ?_ | refine rh ?_ | refine ru ?_ | refine rt ?_ | refine rf ?_ | refine rs ?_ | refine And.intro ?_ ?_) | omega | simp (maxSteps := 1000000) only [go_sem, simprocAttr, ↓reduceIte, hs])
      refine VcCall.ro (.ro (gsR G2)) (FnFr.of_ok kn2 rfl (by simp [noRoRows, noRoItem, noRoRow, noRoL, noRo, gsR, Gs.av])) (by simp only [noIdR_ok, argOkL, argOk, allOk, argOkN, List.drop_zero, lk, reduceIte, reduceCtorEq, Nat.reduceEqDiff, Option.some.injEq, Item.row.injEq, Item.box.injEq, AV.ro.injEq, exists_eq_left, exists_and_left, exists_eq_left', exists_eq_right, and_assoc, and_true, true_and, List.cons.injEq, exists_eq', exists_eq]) (by simp [outOk, argOkL, allOk, argOk, argOkN, lk, noIdR_ok, gsR]) rfl ?_
      (repeat' first | with_reducible (first | intro _ | refine rc ?_ | refine rl ?_ | refine rh ?_ | refine ru ?_ | refine rt ?_ | refine rf ?_ | refine rs ?_ | refine And.intro ?_ ?_) | omega | simp (maxSteps := 1000000) only [go_sem, simprocAttr, ↓reduceIte])
      refine VcCall.k (kb2) ?_
      cases hG2 : bestG G2 with
      | some g =>
        rw [hG2] at kb2
        have kr := hbw g hG2
        (repeat' first | with_reducible (first | intro _ | refine rc ?_ | refine rl ?_ | refine rh ?_ | refine ru ?_ | refine rt ?_ | refine rf ?_ | refine rs ?_ | refine And.intro ?_ ?_) | omega | simp (maxSteps := 1000000) only [go_sem, simprocAttr, ↓reduceIte, gOr, Option.isSome])
        refine VcCall.k (kr) ?_
        (repeat' first | with_reducible (first | intro _ | refine rc ?_ | refine rl ?_ | refine rh ?_ | refine ru ?_ | refine rt ?_ | refine rf ?_ | refine rs ?_ | refine And.intro ?_ ?_) | omega | simp (maxSteps := 1000000) only [go_sem, simprocAttr, ↓reduceIte])
        refine Ret.auto 0 ?_ rfl ?_ <;> simp only [go_sem, reduceCtorEq, reduceIte, Nat.reduceEqDiff, Nat.reduceLT, Nat.reduceLeDiff, Int.natCast_succ, Post]
      | none =>
        rw [hG2] at kb2
        (repeat' first | with_reducible (first | intro _ | refine rc ?_ | refine rl ?_ | refine rh ?_ | refine ru ?_ | refine rt ?_ | refine rf ?_ | refine rs ?_ | refine And.intro ?_ ?_) | omega | simp (maxSteps := 1000000) only [go_sem, simprocAttr, ↓reduceIte, gOr, Option.isSome, Gs.zero])
        refine Ret.auto 0 ?_ rfl ?_ <;> simp only [go_sem, reduceCtorEq, reduceIte, Nat.reduceEqDiff, Nat.reduceLT, Nat.reduceLeDiff, Int.natCast_succ, Post]
end Go.Fv.Y

/- Words that are corrected: the reference. -/
namespace Go.Fv.Y
open Go Go.Proofs
set_option linter.unusedSimpArgs false
set_option linter.unusedVariables false
set_option linter.unnecessarySimpa false
set_option maxRecDepth 8000

theorem bestOut_near {D : List Wd} {l : List Mx} {w : Bytes} {most : Int} (hm : mixErr l = 0) (h1 : ¬ (most < 0 ∨ 10000 < most)) (h2 : w.length ≤ 200) : bestOut (nearOut D l w most) (nearErr l w most) = match bestG (nearL D (swL l) w most) with | none => ⟨[], 0, 10⟩ | some g => ⟨g.t, g.d, 0⟩ := by
  have he : nearErr l w most = 0 := by unfold nearErr; rw [if_neg h1, if_neg (by omega)]; exact hm
  have ho : nearOut D l w most = nearL D (swL l) w most := by unfold nearOut; rw [if_pos he]
  rw [ho, he]
  unfold bestOut
  rw [if_pos rfl]
  cases bestG (nearL D (swL l) w most) <;> rfl
end Go.Fv.Y

/- Correct: bounds and errors. -/
namespace Go.Fv.Y
open Go Go.Proofs
set_option linter.unusedSimpArgs false
set_option linter.unusedVariables false
set_option linter.unnecessarySimpa false
set_option maxRecDepth 8000

def corrErr (l : List Mx) (most : Int) : Int := if mixErr l = 0 then (if most < 0 ∨ 10000 < most then 3 else 0) else mixErr l
theorem fx_snoc (l : List Fx) (a : Int) (o n : Bytes) : (l ++ [(⟨a, o, n⟩ : Fx)]).map Fx.av = l.map Fx.av ++ [[.int .i64 a, .str o, .str n]] := by simp [Fx.av]
/-- What is known of the work after i tokens. -/
structure CsOk (g : Bytes → Bytes) (T : List Tok) (i : Nat) : Prop where
  b : (csAll g (T.take i)).b.length ≤ (textOf T).length + 40 * i
  f : (csAll g (T.take i)).f.length ≤ i
  a : (csAll g (T.take i)).at_ ≤ (textOf T).length
theorem textOf_le (T : List Tok) (i : Nat) : (textOf (T.take i)).length ≤ (textOf T).length := by
  have : textOf T = textOf (T.take i) ++ textOf (T.drop i) := by rw [← textOf_app, List.take_append_drop]
  rw [this, List.length_append]; omega
theorem cs_ok {f : Bytes → Bytes} {T : List Tok} (hT : ∀ t, t ∈ T → (pieceOf f t).length ≤ t.1.length + 40) : ∀ i, i ≤ T.length → CsOk f T i := by
  have key : ∀ i, i ≤ T.length → (csAll f (T.take i)).b.length ≤ (textOf (T.take i)).length + 40 * i ∧ (csAll f (T.take i)).f.length ≤ i := by
    intro i
    induction i with
    | zero => intro _; exact ⟨Nat.zero_le _, Nat.le_refl _⟩
    | succ i ih =>
      intro hi
      obtain ⟨h1, h2⟩ := ih (by omega)
      rw [csAll_take f hi]
      have h3 := hT (T.getD i ([], false)) (by rw [getD_lt hi]; exact List.getElem_mem hi)
      have h4 : textOf (T.take (i + 1)) = textOf (T.take i) ++ (T.getD i ([], false)).1 := by
        rw [List.take_succ_eq_append_getElem hi, textOf_app, getD_lt hi]; simp [textOf]
      rw [h4, List.length_append]
      unfold CS.step
      dsimp only
      refine ⟨by rw [List.length_append]; omega, ?_⟩
      split
      · omega
      · rw [List.length_append]
        show _ + 1 ≤ _
        omega
  intro i hi
  obtain ⟨h1, h2⟩ := key i hi
  have h3 := textOf_le T i
  exact ⟨by omega, h2, by rw [csAll_at]; exact h3⟩
theorem piece_bd {D : List Wd} (hg : GoodD D) (sw : List Sw) (most : Int) {T : List Tok} (hT : TokOk T) : ∀ t, t ∈ T → (pieceOf (corrW D sw most) t).length ≤ t.1.length + 40 := fun t ht => by
  unfold pieceOf
  split
  · rename_i h
    have := (corrW_bd hg sw most ((hT t ht).2 h)).2
    omega
  · omega
end Go.Fv.Y

/- The fixes make the text. -/
namespace Go.Fv.Y
open Go
set_option linter.unusedSimpArgs false
set_option linter.unusedVariables false
set_option linter.unnecessarySimpa false

def fixesFrom (f : Bytes → Bytes) : Nat → List Tok → List Fx
  | _, [] => []
  | p, t :: T => if pieceOf f t = t.1 then fixesFrom f (p + t.1.length) T else ⟨p, t.1, pieceOf f t⟩ :: fixesFrom f (p + t.1.length) T
theorem fixes_cons (f : Bytes → Bytes) (p : Nat) (t : Tok) (T : List Tok) : fixesFrom f p (t :: T) = if pieceOf f t = t.1 then fixesFrom f (p + t.1.length) T else ⟨p, t.1, pieceOf f t⟩ :: fixesFrom f (p + t.1.length) T := rfl
def piecesOf (f : Bytes → Bytes) (T : List Tok) : Bytes := (T.map (pieceOf f)).flatten
theorem csAll_from (f : Bytes → Bytes) : ∀ (T : List Tok) (s : CS), (T.foldl (CS.step f) s).b = s.b ++ piecesOf f T ∧ (T.foldl (CS.step f) s).f = s.f ++ fixesFrom f s.at_ T
  | [], s => by simp [piecesOf, fixesFrom]
  | t :: T, s => by
    obtain ⟨h1, h2⟩ := csAll_from f T (CS.step f s t)
    rw [List.foldl_cons, h1, h2]
    rw [fixes_cons]
    unfold CS.step
    dsimp only
    refine ⟨by simp [piecesOf], ?_⟩
    split
    · rfl
    · simp
theorem csAll_b (f : Bytes → Bytes) (T : List Tok) : (csAll f T).b = piecesOf f T := by
  have := (csAll_from f T ⟨[], [], 0⟩).1
  simpa [csAll] using this
theorem csAll_f (f : Bytes → Bytes) (T : List Tok) : (csAll f T).f = fixesFrom f 0 T := by
  have := (csAll_from f T ⟨[], [], 0⟩).2
  simpa [csAll] using this
end Go.Fv.Y

/- A walk through a string's runes: the first great letter. -/
namespace Go.Fv.Y
open Go
set_option linter.unusedSimpArgs false
set_option linter.unusedVariables false
set_option linter.unnecessarySimpa false

theorem get_l (l : List UInt8) (j : Nat) : (⟨l.toArray⟩ : ByteArray).get! j = l.getD j 0 := by
  show (l.toArray)[j]! = _
  by_cases h : j < l.length
  · simp [h, List.getD]
  · simp [h, List.getD]; rfl
theorem u8_lt (c : UInt8) : c.toNat < 256 := c.toNat_lt
/-- How a rune lies: bytes below 128 stand alone; the bytes of a longer one are all at least 128. -/
theorem rune_cases {l : List UInt8} {p : Nat} (h : p < l.length) : 1 ≤ wideAt l p ∧ p + wideAt l p ≤ l.length ∧
    ((((l.getD p 0).toNat : Int) = runeAt l p ∧ wideAt l p = 1) ∨ (∀ j, p ≤ j → j < p + wideAt l p → 128 ≤ (l.getD j 0).toNat)) := by
  unfold wideAt runeAt
  rw [Lib.decode_at]
  have hs : (⟨l.toArray⟩ : ByteArray).size = l.length := rfl
  simp only [get_l, hs]
  have b0 := u8_lt (l.getD p 0)
  by_cases ha : (l.getD p 0).toNat < 128
  · have e : Lib.decodeN (l.length - p) (l.getD p 0).toNat (l.getD (p + 1) 0).toNat (l.getD (p + 2) 0).toNat (l.getD (p + 3) 0).toNat = ((l.getD p 0).toNat, 1) := by
      unfold Lib.decodeN; rw [if_pos ha]
    rw [e]
    exact ⟨Nat.le_refl _, by show p + 1 ≤ _; omega, .inl ⟨rfl, rfl⟩⟩
  rcases Lib.decodeN_shape (l.length - p) (l.getD p 0).toNat (l.getD (p + 1) 0).toNat (l.getD (p + 2) 0).toNat (l.getD (p + 3) 0).toNat with ⟨c, e⟩ | ⟨c1, c2, c3, cv, e⟩ | ⟨c1, c2, c3, c4, cv, cs, e⟩ | ⟨c1, c2, c3, c4, c5, cv, cw, e⟩ | e
  · omega
  · rw [e]
    refine ⟨by show 1 ≤ 2; omega, by show p + 2 ≤ _; omega, .inr fun j h1 h2 => ?_⟩
    have h2 : j < p + 2 := h2
    have : j = p ∨ j = p + 1 := by omega
    rcases this with rfl | rfl <;> omega
  · rw [e]
    refine ⟨by show 1 ≤ 3; omega, by show p + 3 ≤ _; omega, .inr fun j h1 h2 => ?_⟩
    have h2 : j < p + 3 := h2
    have : j = p ∨ j = p + 1 ∨ j = p + 2 := by omega
    rcases this with rfl | rfl | rfl <;> omega
  · rw [e]
    refine ⟨by show 1 ≤ 4; omega, by show p + 4 ≤ _; omega, .inr fun j h1 h2 => ?_⟩
    have h2 : j < p + 4 := h2
    have : j = p ∨ j = p + 1 ∨ j = p + 2 ∨ j = p + 3 := by omega
    rcases this with rfl | rfl | rfl | rfl <;> omega
  · rw [e]
    refine ⟨by show 1 ≤ 1; omega, by show p + 1 ≤ _; omega, .inr fun j h1 h2 => ?_⟩
    have h2 : j < p + 1 := h2
    have : j = p := by omega
    subst this; omega
def isUpR (r : Int) : Bool := decide (65 ≤ r ∧ r ≤ 90)
/-- The place of the first great letter from p on, or -1. -/
def upI (l : List UInt8) (p : Nat) : Int := if h : p < l.length then (if isUpR (runeAt l p) = true then p else upI l (p + wideAt l p)) else -1
termination_by l.length - p
decreasing_by have := (rune_cases h).1; omega
theorem upI_lt {l : List UInt8} {p : Nat} (h : p < l.length) : upI l p = if isUpR (runeAt l p) = true then (p : Int) else upI l (p + wideAt l p) := by
  rw [upI, dif_pos h]
theorem upI_ge {l : List UInt8} {p : Nat} (h : ¬ p < l.length) : upI l p = -1 := by
  rw [upI, dif_neg h]
theorem upI_none {l : List UInt8} {p : Nat} (h : upI l p < 0) {j : Nat} (hj : j < l.length) (hp : p ≤ j) : ¬ (65 ≤ (l.getD j 0).toNat ∧ (l.getD j 0).toNat ≤ 90) := by
  have hlt : p < l.length := by omega
  rw [upI_lt hlt] at h
  obtain ⟨h1, h2, h3⟩ := rune_cases hlt
  split at h
  · omega
  · rename_i hu
    by_cases hq : j < p + wideAt l p
    · rcases h3 with ⟨h4, h5⟩ | h4
      · obtain rfl : j = p := by omega
        intro hc
        apply hu
        unfold isUpR
        rw [decide_eq_true_eq]; omega
      · have := h4 j hp hq
        omega
    · exact upI_none h hj (by omega)
termination_by l.length - p
decreasing_by have := (rune_cases hlt).1; omega
theorem rune_i32 {l : List UInt8} {p : Nat} : 0 ≤ runeAt l p ∧ runeAt l p ≤ 1114111 := by
  have := Lib.rune_le ⟨l.toArray⟩ p
  unfold runeAt; omega
end Go.Fv.Y

/- slices.BinarySearch of words. -/
namespace Go.Fv.Y
open Go Go.Proofs
set_option linter.unusedSimpArgs false
set_option linter.unusedVariables false
set_option linter.unnecessarySimpa false
set_option maxRecDepth 8000

end Go.Fv.Y

/- Begin, and the reference's. -/
namespace Go.Fv.Y
open Go Go.Proofs
set_option linter.unusedSimpArgs false
set_option linter.unusedVariables false
set_option linter.unnecessarySimpa false
set_option maxRecDepth 8000

end Go.Fv.Y

/- The reference's DictError and NewDict. -/
namespace Go.Fv.Y
open Go Go.Proofs
set_option linter.unusedSimpArgs false
set_option linter.unusedVariables false
set_option linter.unnecessarySimpa false
set_option maxRecDepth 8000

theorem wdEs_take (l : List Wd) {i : Nat} (h : i < l.length) : wdEs ((l.take i).map Wd.t) (l.drop i) = if wdE ((l.take i).map Wd.t) (l.getD i Wd.zero) = 0 then wdEs ((l.take (i + 1)).map Wd.t) (l.drop (i + 1)) else wdE ((l.take i).map Wd.t) (l.getD i Wd.zero) := by
  rw [wdEs_drop l h]
  rw [show (l.take (i + 1)).map Wd.t = (l.take i).map Wd.t ++ [(l.getD i Wd.zero).t] by rw [List.take_succ_eq_append_getElem h, List.map_append, getD_lt h]; rfl]
end Go.Fv.Y
