/-
  A part of the proof of the claim: walks over the program's functions and the plain laws that these need. No condition of its own.
-/
import Derived.Test.YtingcghleidhmaaGreatDoorQLayoutsMatchCardPart1
import Derived.Test.YtingcghleidhmaaGreatDoorFvPart9
import Derived.Test.YtingcghleidhmaaGreatDoorQLayoutsMatchCardPart8
import Derived.Test.YtingcghleidhmaaGreatDoorQLayoutsMatchCardPart5
import Derived.Test.YtingcghleidhmaaGreatDoorQLayoutsMatchCardPart7
import Derived.Test.YtingcghleidhmaaGreatDoorFvPart11
import Derived.Test.YtingcghleidhmaaGreatDoorQLayoutsMatchCardPart3
namespace Go.Fv.Q
open Go Go.Proofs
set_option linter.unusedSimpArgs false
set_option linter.unusedVariables false
set_option maxRecDepth 8000
theorem drop_bools {tab : List Bool} {n : Nat} (h : n < tab.length) : (tab.map AV.bool).drop n = .bool (tab.getD n false) :: (tab.map AV.bool).drop (n + 1) := by
  rw [List.drop_eq_getElem_cons (by simpa using h)]
  simp [List.getD, h]

set_option maxHeartbeats 1000000 in
theorem contains_ok (tab : List Bool) (b : Int) (hl : tab.length = 256) (h0 : 0 ≤ b) (h1 : b < 256) : FnOk Tryz.prog 117 [.cell (tab.map .bool), .int .u8 b] (.bool (tab.getD b.toNat false)) [] := by
  refine FnOk.of_vc Tryz.func117 rfl (by decide) (by simp [Tryz.f117]) [.tmp 4] rfl fun w0 T0 _ => ?_
  simp only [Tryz.f117, argEnv]
  have hd := drop_bools (tab := tab) (n := b.toNat) (by omega)
  simp (maxSteps := 1000000) only [go_sem, reduceCtorEq, Nat.reduceLT, Nat.reduceLeDiff, reduceIte, ↓reduceIte, Nat.reduceEqDiff, Nat.reduceAdd, Nat.reduceMul, Nat.reduceSub, Int.reduceLE, Int.reduceLT, Int.reduceNeg, Int.reduceToNat, Nat.mul_one, hd]
  (repeat' first | (with_reducible refine Asm.intro fun _ => ?_) | ((with_reducible refine Chk.intro ?_ ?_); (· first | omega | (with_reducible refine Chk.intro ?_ ?_ <;> omega) | (simp; done) | (simp; omega))) | ((with_reducible refine LetW.i64 ?_ ?_ ?_); (· omega); (· omega)) | ((with_reducible refine Ite.decide (fun _ => ?_) (fun _ => ?_)) <;> first | (exfalso; omega) | simp (maxSteps := 1000000) only [go_sem, reduceCtorEq, Nat.reduceLT, Nat.reduceLeDiff, reduceIte, ↓reduceIte, Nat.reduceEqDiff, Nat.reduceAdd, Nat.reduceMul, Nat.reduceSub, Int.reduceLE, Int.reduceLT, Int.reduceNeg, Int.reduceToNat]) | ((with_reducible refine Ite.bool (fun _ => ?_) (fun _ => ?_)) <;> simp (maxSteps := 1000000) only [go_sem, reduceCtorEq, Nat.reduceLT, Nat.reduceLeDiff, reduceIte, ↓reduceIte, Nat.reduceEqDiff, Nat.reduceAdd, Nat.reduceMul, Nat.reduceSub, Int.reduceLE, Int.reduceLT, Int.reduceNeg, Int.reduceToNat]) | (with_reducible refine And.intro ?_ ?_))
  refine Ret.auto 0 ?_ rfl ?_ <;> simp only [go_sem, reduceCtorEq, reduceIte, Nat.reduceEqDiff, Nat.reduceLT, Nat.reduceLeDiff, Int.natCast_succ, Post]

set_option maxHeartbeats 1000000 in
theorem trimRight_a (tab : List Bool) (hl : tab.length = 256) (ha : tab.getD 97 false = true) : FnOk Tryz.prog 92 [.str [97], .cell (tab.map .bool)] (.str []) [] := by
  refine FnOk.of_vc Tryz.func92 rfl (by decide) (by simp [Tryz.f92]) [.tmp 4] rfl fun w0 T0 _ => ?_
  simp only [Tryz.f92, argEnv]
  simp (maxSteps := 1000000) only [go_sem, reduceCtorEq, Nat.reduceLT, Nat.reduceLeDiff, reduceIte, ↓reduceIte, Nat.reduceEqDiff, Nat.reduceAdd, Nat.reduceMul, Nat.reduceSub, Int.reduceLE, Int.reduceLT, Int.reduceNeg, Int.reduceToNat]
  refine VcLoop.intro (fun k : Bool => ⟨22, [(0, .str (cond k [97] [])), (1, .cell (tab.map .bool))], [], 0⟩) (fun _ => True) (fun k => cond k 1 0) true ?_ trivial fun k _ => ?_
  · refine Ent.auto0 rfl ?_ ?_ <;> simp only [go_sem, reduceCtorEq, reduceIte, Nat.reduceEqDiff, Nat.reduceLT, Nat.reduceLeDiff, Int.natCast_succ, cond_true]
  cases k with
  | true =>
    simp (maxSteps := 1000000) only [go_sem, reduceCtorEq, Nat.reduceLT, Nat.reduceLeDiff, reduceIte, ↓reduceIte, Nat.reduceEqDiff, Nat.reduceAdd, Nat.reduceMul, Nat.reduceSub, Int.reduceLE, Int.reduceLT, Int.reduceNeg, Int.reduceToNat]
    (repeat' first | (with_reducible refine Asm.intro fun _ => ?_) | ((with_reducible refine Chk.intro ?_ ?_); (· first | omega | (with_reducible refine Chk.intro ?_ ?_ <;> omega) | (simp; done) | (simp; omega))) | ((with_reducible refine LetW.i64 ?_ ?_ ?_); (· omega); (· omega)) | ((with_reducible refine Ite.decide (fun _ => ?_) (fun _ => ?_)) <;> first | (exfalso; omega) | simp (maxSteps := 1000000) only [go_sem, reduceCtorEq, Nat.reduceLT, Nat.reduceLeDiff, reduceIte, ↓reduceIte, Nat.reduceEqDiff, Nat.reduceAdd, Nat.reduceMul, Nat.reduceSub, Int.reduceLE, Int.reduceLT, Int.reduceNeg, Int.reduceToNat]) | ((with_reducible refine Ite.bool (fun _ => ?_) (fun _ => ?_)) <;> simp (maxSteps := 1000000) only [go_sem, reduceCtorEq, Nat.reduceLT, Nat.reduceLeDiff, reduceIte, ↓reduceIte, Nat.reduceEqDiff, Nat.reduceAdd, Nat.reduceMul, Nat.reduceSub, Int.reduceLE, Int.reduceLT, Int.reduceNeg, Int.reduceToNat]) | (with_reducible refine And.intro ?_ ?_))
    have e : ((([97] : List UInt8).getD (((1 : Nat) : Int) - 1).toNat 0).toNat : Int) = 97 := rfl
    rw [e]
    refine VcCall.fr (args' := [.cell (tab.map .bool), .int .u8 97]) (FnFr.of_ok (contains_ok tab 97 hl (by omega) (by omega)) rfl rfl) (by simp [argOkL, allOk, argOkN]) 0 rfl (by simp [rowsB]) ?_
    simp (maxSteps := 1000000) only [go_sem, reduceCtorEq, Nat.reduceLT, Nat.reduceLeDiff, reduceIte, ↓reduceIte, Nat.reduceEqDiff, Nat.reduceAdd, Nat.reduceMul, Nat.reduceSub, Int.reduceLE, Int.reduceLT, Int.reduceNeg, Int.reduceToNat, ha]
    (repeat' first | (with_reducible refine Asm.intro fun _ => ?_) | ((with_reducible refine Chk.intro ?_ ?_); (· first | omega | (with_reducible refine Chk.intro ?_ ?_ <;> omega) | (simp; done) | (simp; omega))) | ((with_reducible refine LetW.i64 ?_ ?_ ?_); (· omega); (· omega)) | ((with_reducible refine Ite.decide (fun _ => ?_) (fun _ => ?_)) <;> first | (exfalso; omega) | simp (maxSteps := 1000000) only [go_sem, reduceCtorEq, Nat.reduceLT, Nat.reduceLeDiff, reduceIte, ↓reduceIte, Nat.reduceEqDiff, Nat.reduceAdd, Nat.reduceMul, Nat.reduceSub, Int.reduceLE, Int.reduceLT, Int.reduceNeg, Int.reduceToNat]) | ((with_reducible refine Ite.bool (fun _ => ?_) (fun _ => ?_)) <;> simp (maxSteps := 1000000) only [go_sem, reduceCtorEq, Nat.reduceLT, Nat.reduceLeDiff, reduceIte, ↓reduceIte, Nat.reduceEqDiff, Nat.reduceAdd, Nat.reduceMul, Nat.reduceSub, Int.reduceLE, Int.reduceLT, Int.reduceNeg, Int.reduceToNat]) | (with_reducible refine And.intro ?_ ?_))
    refine ⟨false, Ent.auto0 rfl ?_ ?_, Nat.zero_lt_one⟩ <;> simp only [go_sem, reduceCtorEq, reduceIte, Nat.reduceEqDiff, Nat.reduceLT, Nat.reduceLeDiff, Int.natCast_succ, cond_false]
    simp
  | false =>
    simp (maxSteps := 1000000) only [go_sem, reduceCtorEq, Nat.reduceLT, Nat.reduceLeDiff, reduceIte, ↓reduceIte, Nat.reduceEqDiff, Nat.reduceAdd, Nat.reduceMul, Nat.reduceSub, Int.reduceLE, Int.reduceLT, Int.reduceNeg, Int.reduceToNat]
    (repeat' first | (with_reducible refine Asm.intro fun _ => ?_) | ((with_reducible refine Chk.intro ?_ ?_); (· first | omega | (with_reducible refine Chk.intro ?_ ?_ <;> omega) | (simp; done) | (simp; omega))) | ((with_reducible refine LetW.i64 ?_ ?_ ?_); (· omega); (· omega)) | ((with_reducible refine Ite.decide (fun _ => ?_) (fun _ => ?_)) <;> first | (exfalso; omega) | simp (maxSteps := 1000000) only [go_sem, reduceCtorEq, Nat.reduceLT, Nat.reduceLeDiff, reduceIte, ↓reduceIte, Nat.reduceEqDiff, Nat.reduceAdd, Nat.reduceMul, Nat.reduceSub, Int.reduceLE, Int.reduceLT, Int.reduceNeg, Int.reduceToNat]) | ((with_reducible refine Ite.bool (fun _ => ?_) (fun _ => ?_)) <;> simp (maxSteps := 1000000) only [go_sem, reduceCtorEq, Nat.reduceLT, Nat.reduceLeDiff, reduceIte, ↓reduceIte, Nat.reduceEqDiff, Nat.reduceAdd, Nat.reduceMul, Nat.reduceSub, Int.reduceLE, Int.reduceLT, Int.reduceNeg, Int.reduceToNat]) | (with_reducible refine And.intro ?_ ?_))
    refine Ret.auto 0 ?_ rfl ?_ <;> simp only [go_sem, reduceCtorEq, reduceIte, Nat.reduceEqDiff, Nat.reduceLT, Nat.reduceLeDiff, Int.natCast_succ, Post]

set_option maxHeartbeats 1000000 in
theorem trimLeft_nil (tab : List Bool) : FnOk Tryz.prog 91 [.str [], .cell (tab.map .bool)] (.str []) [] := by
  refine FnOk.of_vc Tryz.func91 rfl (by decide) (by simp [Tryz.f91]) [.tmp 4] rfl fun w0 T0 _ => ?_
  simp only [Tryz.f91, argEnv]
  simp (maxSteps := 1000000) only [go_sem, reduceCtorEq, Nat.reduceLT, Nat.reduceLeDiff, reduceIte, ↓reduceIte, Nat.reduceEqDiff, Nat.reduceAdd, Nat.reduceMul, Nat.reduceSub, Int.reduceLE, Int.reduceLT, Int.reduceNeg, Int.reduceToNat]
  refine VcLoop.intro (fun k : Unit => ⟨16, [(0, .str [])], [], 0⟩) (fun _ => True) (fun k => 0) () ?_ trivial fun k _ => ?_
  · refine Ent.auto0 rfl ?_ ?_ <;> simp only [go_sem, reduceCtorEq, reduceIte, Nat.reduceEqDiff, Nat.reduceLT, Nat.reduceLeDiff, Int.natCast_succ]
  simp (maxSteps := 1000000) only [go_sem, reduceCtorEq, Nat.reduceLT, Nat.reduceLeDiff, reduceIte, ↓reduceIte, Nat.reduceEqDiff, Nat.reduceAdd, Nat.reduceMul, Nat.reduceSub, Int.reduceLE, Int.reduceLT, Int.reduceNeg, Int.reduceToNat]
  (repeat' first | (with_reducible refine Asm.intro fun _ => ?_) | ((with_reducible refine Chk.intro ?_ ?_); (· first | omega | (with_reducible refine Chk.intro ?_ ?_ <;> omega) | (simp; done) | (simp; omega))) | ((with_reducible refine LetW.i64 ?_ ?_ ?_); (· omega); (· omega)) | ((with_reducible refine Ite.decide (fun _ => ?_) (fun _ => ?_)) <;> first | (exfalso; omega) | simp (maxSteps := 1000000) only [go_sem, reduceCtorEq, Nat.reduceLT, Nat.reduceLeDiff, reduceIte, ↓reduceIte, Nat.reduceEqDiff, Nat.reduceAdd, Nat.reduceMul, Nat.reduceSub, Int.reduceLE, Int.reduceLT, Int.reduceNeg, Int.reduceToNat]) | ((with_reducible refine Ite.bool (fun _ => ?_) (fun _ => ?_)) <;> simp (maxSteps := 1000000) only [go_sem, reduceCtorEq, Nat.reduceLT, Nat.reduceLeDiff, reduceIte, ↓reduceIte, Nat.reduceEqDiff, Nat.reduceAdd, Nat.reduceMul, Nat.reduceSub, Int.reduceLE, Int.reduceLT, Int.reduceNeg, Int.reduceToNat]) | (with_reducible refine And.intro ?_ ?_))
  refine Ret.auto 0 ?_ rfl ?_ <;> simp only [go_sem, reduceCtorEq, reduceIte, Nat.reduceEqDiff, Nat.reduceLT, Nat.reduceLeDiff, Int.natCast_succ, Post]

theorem z135 : zeroOf Tryz.prog 135 = some (.agg (Array.replicate 256 (.bool false))) := by kernel_rfl
theorem c135 : Tryz.prog.cellsOf 135 = 256 := by kernel_rfl

attribute [go_sem] z135 c135
def asciiAt (s : List UInt8) : Nat → List Bool
  | 0 => List.replicate 256 false
  | i + 1 => (asciiAt s i).set (s.getD i 0).toNat true
theorem asciiAt_len (s : List UInt8) : ∀ i, (asciiAt s i).length = 256
  | 0 => by simp [asciiAt]
  | i + 1 => by simp [asciiAt, asciiAt_len s i]

set_option maxHeartbeats 1000000 in
theorem makeAscii_ok (s : List UInt8) (hs : ∀ i, i < s.length → (s.getD i 0).toNat < 128) : FnOk Tryz.prog 90 [.str s] (.tup [.agg ((asciiAt s s.length).map .bool), .bool true]) [] := by
  refine FnOk.of_vc Tryz.func90 rfl (by decide) (by simp [Tryz.f90]) [.cell 2 135, .tmp 3] rfl fun w0 T0 _ => ?_
  simp only [Tryz.f90, argEnv]
  simp (maxSteps := 1000000) only [go_sem, reduceCtorEq, Nat.reduceLT, Nat.reduceLeDiff, reduceIte, ↓reduceIte, Nat.reduceEqDiff, Nat.reduceAdd, Nat.reduceMul, Nat.reduceSub, Int.reduceLE, Int.reduceLT, Int.reduceNeg, Int.reduceToNat]
  refine VcLoop.intro (fun i : Nat => ⟨21, [(0, .str s), (2, .ptr 0 0), (4, .int .i64 i)], [(0, .box 135 ((asciiAt s i).map .bool))], 1⟩) (fun i => i ≤ s.length) (fun i => s.length - i) 0 ?_ (Nat.zero_le _) fun i hi => ?_
  · refine Ent.auto0 rfl ?_ ?_ <;> simp only [go_sem, reduceCtorEq, reduceIte, Nat.reduceEqDiff, Nat.reduceLT, Nat.reduceLeDiff, Int.natCast_succ, asciiAt]
  have hlen := asciiAt_len s i
  simp (maxSteps := 1000000) only [go_sem, reduceCtorEq, Nat.reduceLT, Nat.reduceLeDiff, reduceIte, ↓reduceIte, Nat.reduceEqDiff, Nat.reduceAdd, Nat.reduceMul, Nat.reduceSub, Int.reduceLE, Int.reduceLT, Int.reduceNeg, Int.reduceToNat]
  (repeat' first | (with_reducible refine Asm.intro fun _ => ?_) | ((with_reducible refine Chk.intro ?_ ?_); (· first | omega | (with_reducible refine Chk.intro ?_ ?_ <;> omega) | (simp; done) | (simp; omega))) | ((with_reducible refine LetW.i64 ?_ ?_ ?_); (· omega); (· omega)) | ((with_reducible refine Ite.decide (fun _ => ?_) (fun _ => ?_)) <;> first | (exfalso; omega) | simp (maxSteps := 1000000) only [go_sem, reduceCtorEq, Nat.reduceLT, Nat.reduceLeDiff, reduceIte, ↓reduceIte, Nat.reduceEqDiff, Nat.reduceAdd, Nat.reduceMul, Nat.reduceSub, Int.reduceLE, Int.reduceLT, Int.reduceNeg, Int.reduceToNat]) | ((with_reducible refine Ite.bool (fun _ => ?_) (fun _ => ?_)) <;> simp (maxSteps := 1000000) only [go_sem, reduceCtorEq, Nat.reduceLT, Nat.reduceLeDiff, reduceIte, ↓reduceIte, Nat.reduceEqDiff, Nat.reduceAdd, Nat.reduceMul, Nat.reduceSub, Int.reduceLE, Int.reduceLT, Int.reduceNeg, Int.reduceToNat]) | (with_reducible refine And.intro ?_ ?_))
  · have := hs i (by omega)
    omega
  · refine ⟨i + 1, Ent.auto0 rfl ?_ ?_, by omega, by omega⟩
    · simp only [go_sem, reduceCtorEq, reduceIte, Nat.reduceEqDiff, Nat.reduceLT, Nat.reduceLeDiff, Int.natCast_succ]
    · simp only [go_sem, reduceCtorEq, reduceIte, Nat.reduceEqDiff, Nat.reduceLT, Nat.reduceLeDiff, Int.natCast_succ, asciiAt]
  · have e : i = s.length := by omega
    subst e
    have e2 : ((asciiAt s s.length).map AV.bool).take 256 = (asciiAt s s.length).map AV.bool := List.take_of_length_le (by simp [hlen])
    have e3 : spl ((asciiAt s s.length).map AV.bool) 0 ((asciiAt s s.length).map AV.bool) = (asciiAt s s.length).map AV.bool := spl_all rfl
    refine Ret.auto 0 ?_ ?_ ?_ <;> simp only [go_sem, reduceCtorEq, reduceIte, Nat.reduceEqDiff, Nat.reduceLT, Nat.reduceLeDiff, Int.natCast_succ, Post, e2, e3, List.drop_zero]
    simp (maxSteps := 1000000) only [go_sem, reduceCtorEq, Nat.reduceLT, Nat.reduceLeDiff, reduceIte, ↓reduceIte, Nat.reduceEqDiff, Nat.reduceAdd, Nat.reduceMul, Nat.reduceSub, Int.reduceLE, Int.reduceLT, Int.reduceNeg, Int.reduceToNat, e2, hlen, List.length_map]

def cutset : List UInt8 := [97, 98, 99, 100, 101, 102, 103, 104, 105, 106, 107, 108, 109, 110, 111, 112, 113, 114, 115, 116, 117, 118, 119, 120, 121, 122, 48, 49, 50, 51, 52, 53, 54, 55, 56, 57, 45]
theorem cut_small : ∀ i, i < cutset.length → (cutset.getD i 0).toNat < 128 := by decide
theorem cut_a : (asciiAt cutset cutset.length).getD 97 false = true := by decide

set_option maxHeartbeats 1000000 in
theorem trim_a : FnOk Tryz.prog 57 [.str [97], .str cutset] (.str []) [] := by
  refine FnOk.of_vc Tryz.func57 rfl (by decide) (by simp [Tryz.f57]) [.tmp 4] rfl fun w0 T0 _ => ?_
  simp only [Tryz.f57, argEnv]
  have hc : ¬ cutset = [] := by decide
  have hl : cutset.length = 37 := rfl
  simp (maxSteps := 1000000) only [go_sem, reduceCtorEq, Nat.reduceLT, Nat.reduceLeDiff, reduceIte, ↓reduceIte, Nat.reduceEqDiff, Nat.reduceAdd, Nat.reduceMul, Nat.reduceSub, Int.reduceLE, Int.reduceLT, Int.reduceNeg, Int.reduceToNat, hc, hl]
  (repeat' first | (with_reducible refine Asm.intro fun _ => ?_) | ((with_reducible refine Chk.intro ?_ ?_); (· first | omega | (with_reducible refine Chk.intro ?_ ?_ <;> omega) | (simp; done) | (simp; omega))) | ((with_reducible refine LetW.i64 ?_ ?_ ?_); (· omega); (· omega)) | ((with_reducible refine Ite.decide (fun _ => ?_) (fun _ => ?_)) <;> first | (exfalso; omega) | simp (maxSteps := 1000000) only [go_sem, reduceCtorEq, Nat.reduceLT, Nat.reduceLeDiff, reduceIte, ↓reduceIte, Nat.reduceEqDiff, Nat.reduceAdd, Nat.reduceMul, Nat.reduceSub, Int.reduceLE, Int.reduceLT, Int.reduceNeg, Int.reduceToNat]) | ((with_reducible refine Ite.bool (fun _ => ?_) (fun _ => ?_)) <;> simp (maxSteps := 1000000) only [go_sem, reduceCtorEq, Nat.reduceLT, Nat.reduceLeDiff, reduceIte, ↓reduceIte, Nat.reduceEqDiff, Nat.reduceAdd, Nat.reduceMul, Nat.reduceSub, Int.reduceLE, Int.reduceLT, Int.reduceNeg, Int.reduceToNat]) | (with_reducible refine And.intro ?_ ?_))
  have hlen := asciiAt_len cutset cutset.length
  refine VcCall.fr (args' := [.str cutset]) (FnFr.of_ok (makeAscii_ok cutset cut_small) (by simp [noRo, noRoL, noRoL_bools]) rfl) (by simp [argOkL, allOk, argOkN]) 0 (by simp [Fv.below, belowL, belowL_bools]) (by simp [rowsB]) ?_
  have ha := cut_a
  generalize asciiAt cutset cutset.length = tab at hlen ha ⊢
  simp (maxSteps := 1000000) only [go_sem, reduceCtorEq, Nat.reduceLT, Nat.reduceLeDiff, reduceIte, ↓reduceIte, Nat.reduceEqDiff, Nat.reduceAdd, Nat.reduceMul, Nat.reduceSub, Int.reduceLE, Int.reduceLT, Int.reduceNeg, Int.reduceToNat]
  have e1 : spl (List.replicate 256 (AV.bool false)) 0 (tab.map .bool) = tab.map .bool := spl_all (by simp [hlen])
  refine Chk.intro (by simp [hlen]) ?_
  rw [e1]
  refine Chk.intro (by omega) ?_
  refine VcCall.fr (args' := [.str [97], .cell (tab.map .bool)]) (FnFr.of_ok (trimRight_a tab hlen ha) rfl rfl) ?_ 0 rfl (by simp [rowsB]) ?_
  · exact ⟨_, _, rfl, ⟨_, _, ⟨_, _, _, rfl, allOk_bools _ 4 _, rfl⟩, rfl, rfl⟩, rfl⟩
  simp (maxSteps := 1000000) only [go_sem, reduceCtorEq, Nat.reduceLT, Nat.reduceLeDiff, reduceIte, ↓reduceIte, Nat.reduceEqDiff, Nat.reduceAdd, Nat.reduceMul, Nat.reduceSub, Int.reduceLE, Int.reduceLT, Int.reduceNeg, Int.reduceToNat]
  refine VcCall.fr (args' := [.str [], .cell (tab.map .bool)]) (FnFr.of_ok (trimLeft_nil tab) rfl rfl) ?_ 0 rfl (by simp [rowsB]) ?_
  · exact ⟨_, _, rfl, ⟨_, _, ⟨_, _, _, rfl, allOk_bools _ 4 _, rfl⟩, rfl, rfl⟩, rfl⟩
  simp (maxSteps := 1000000) only [go_sem, reduceCtorEq, Nat.reduceLT, Nat.reduceLeDiff, reduceIte, ↓reduceIte, Nat.reduceEqDiff, Nat.reduceAdd, Nat.reduceMul, Nat.reduceSub, Int.reduceLE, Int.reduceLT, Int.reduceNeg, Int.reduceToNat]
  refine Ret.auto 0 ?_ rfl ?_ <;> simp only [go_sem, reduceCtorEq, reduceIte, Nat.reduceEqDiff, Nat.reduceLT, Nat.reduceLeDiff, Int.natCast_succ, Post]

set_option maxHeartbeats 1000000 in
theorem isName_a : FnOk Tryz.prog 24 [.str [97]] (.bool true) [] := by
  refine FnOk.of_vc Tryz.func24 rfl (by decide) (by simp [Tryz.f24]) [.tmp 2] rfl fun w0 T0 _ => ?_
  simp only [Tryz.f24, argEnv]
  simp (maxSteps := 1000000) only [go_sem, reduceCtorEq, Nat.reduceLT, Nat.reduceLeDiff, reduceIte, ↓reduceIte, Nat.reduceEqDiff, Nat.reduceAdd, Nat.reduceMul, Nat.reduceSub, Int.reduceLE, Int.reduceLT, Int.reduceNeg, Int.reduceToNat]
  (repeat' first | (with_reducible refine Asm.intro fun _ => ?_) | ((with_reducible refine Chk.intro ?_ ?_); (· first | omega | (with_reducible refine Chk.intro ?_ ?_ <;> omega) | (simp; done) | (simp; omega))) | ((with_reducible refine LetW.i64 ?_ ?_ ?_); (· omega); (· omega)) | ((with_reducible refine Ite.decide (fun _ => ?_) (fun _ => ?_)) <;> first | (exfalso; omega) | simp (maxSteps := 1000000) only [go_sem, reduceCtorEq, Nat.reduceLT, Nat.reduceLeDiff, reduceIte, ↓reduceIte, Nat.reduceEqDiff, Nat.reduceAdd, Nat.reduceMul, Nat.reduceSub, Int.reduceLE, Int.reduceLT, Int.reduceNeg, Int.reduceToNat]) | ((with_reducible refine Ite.bool (fun _ => ?_) (fun _ => ?_)) <;> simp (maxSteps := 1000000) only [go_sem, reduceCtorEq, Nat.reduceLT, Nat.reduceLeDiff, reduceIte, ↓reduceIte, Nat.reduceEqDiff, Nat.reduceAdd, Nat.reduceMul, Nat.reduceSub, Int.reduceLE, Int.reduceLT, Int.reduceNeg, Int.reduceToNat]) | (with_reducible refine And.intro ?_ ?_))
  · refine VcCall.fr (args' := [.str [97], .str cutset]) (FnFr.of_ok trim_a rfl rfl) (by simp [argOkL, allOk, argOkN, cutset]) 0 rfl (by simp [rowsB]) ?_
    simp (maxSteps := 1000000) only [go_sem, reduceCtorEq, Nat.reduceLT, Nat.reduceLeDiff, reduceIte, ↓reduceIte, Nat.reduceEqDiff, Nat.reduceAdd, Nat.reduceMul, Nat.reduceSub, Int.reduceLE, Int.reduceLT, Int.reduceNeg, Int.reduceToNat]
    (repeat' first | (with_reducible refine Asm.intro fun _ => ?_) | ((with_reducible refine Chk.intro ?_ ?_); (· first | omega | (with_reducible refine Chk.intro ?_ ?_ <;> omega) | (simp; done) | (simp; omega))) | ((with_reducible refine LetW.i64 ?_ ?_ ?_); (· omega); (· omega)) | ((with_reducible refine Ite.decide (fun _ => ?_) (fun _ => ?_)) <;> first | (exfalso; omega) | simp (maxSteps := 1000000) only [go_sem, reduceCtorEq, Nat.reduceLT, Nat.reduceLeDiff, reduceIte, ↓reduceIte, Nat.reduceEqDiff, Nat.reduceAdd, Nat.reduceMul, Nat.reduceSub, Int.reduceLE, Int.reduceLT, Int.reduceNeg, Int.reduceToNat]) | ((with_reducible refine Ite.bool (fun _ => ?_) (fun _ => ?_)) <;> simp (maxSteps := 1000000) only [go_sem, reduceCtorEq, Nat.reduceLT, Nat.reduceLeDiff, reduceIte, ↓reduceIte, Nat.reduceEqDiff, Nat.reduceAdd, Nat.reduceMul, Nat.reduceSub, Int.reduceLE, Int.reduceLT, Int.reduceNeg, Int.reduceToNat]) | (with_reducible refine And.intro ?_ ?_))
    refine Ret.auto 0 ?_ rfl ?_ <;> simp only [go_sem, reduceCtorEq, reduceIte, Nat.reduceEqDiff, Nat.reduceLT, Nat.reduceLeDiff, Int.natCast_succ, Post]
  · rename_i h
    exact (h (by decide)).elim

theorem landed_ok : FnOk Tryz.prog 5 [] (.bool true) [] := by
  refine FnOk.of_vc Tryz.func5 rfl (by decide) (by simp [Tryz.f5]) [.tmp 0] rfl fun w0 T0 _ => ?_
  simp only [Tryz.f5, argEnv]
  simp (maxSteps := 1000000) only [go_sem, reduceCtorEq, Nat.reduceLT, Nat.reduceLeDiff, reduceIte, ↓reduceIte, Nat.reduceEqDiff, Nat.reduceAdd, Nat.reduceMul, Nat.reduceSub, Int.reduceLE, Int.reduceLT, Int.reduceNeg, Int.reduceToNat]
  refine VcCall.fr (args' := [.str [97]]) (FnFr.of_ok isName_a rfl rfl) (by simp [argOkL, allOk, argOkN]) 0 rfl (by simp [rowsB]) ?_
  simp (maxSteps := 1000000) only [go_sem, reduceCtorEq, Nat.reduceLT, Nat.reduceLeDiff, reduceIte, ↓reduceIte, Nat.reduceEqDiff, Nat.reduceAdd, Nat.reduceMul, Nat.reduceSub, Int.reduceLE, Int.reduceLT, Int.reduceNeg, Int.reduceToNat]
  refine Ret.auto 0 ?_ rfl ?_ <;> simp only [go_sem, reduceCtorEq, reduceIte, Nat.reduceEqDiff, Nat.reduceLT, Nat.reduceLeDiff, Int.natCast_succ, Post]

end Go.Fv.Q

/- The law PiecesGo. -/
namespace Go.Fv.Q
open Go Go.Proofs
set_option linter.unusedSimpArgs false
set_option linter.unusedVariables false
set_option linter.unnecessarySimpa false
set_option maxRecDepth 8000

set_option maxHeartbeats 4000000 in
theorem specks_err (w h : Nat) (hw1 : 1 ≤ w) (hw : w ≤ 1000) (hh1 : 1 ≤ h) (hh : h ≤ 1000) (p : List Bool) (hp : p.length = w * h) (most : Int) (hm : most < 0 ∨ 1048576 < most) :
    FnOk Tryz.prog 22 [.agg [.int .i64 w, .int .i64 h, .ro (.bools p)], .int .i64 most] (.tup [.agg [.int .i64 0, .int .i64 0, .nilS], .int .i64 0, .int .i64 3]) [] := by
  haveI c1 : CapsOk [.cell [.int .i64 most]] := ⟨rfl⟩
  have k := changed_err w h hw1 hw hh1 hh p hp true true 56 [.cell [.int .i64 most]] most hm
  refine FnOk.of_vc Tryz.func22 rfl (by decide) (by simp [Tryz.f22]) [.cell 4 24, .tmp 5, .tmp 6] rfl fun w0 T0 _ => ?_
  simp only [Tryz.f22, argEnv]
  (repeat' first | with_reducible (first | intro _ | refine rc ?_ | refine rl ?_ | refine rh ?_ | refine rt ?_ | refine rf ?_ | refine rs ?_ | refine And.intro ?_ ?_) | omega | simp (maxSteps := 1000000) only [go_sem, simprocAttr, ↓reduceIte])
  refine VcCall.k (k) ?_
  (repeat' first | with_reducible (first | intro _ | refine rc ?_ | refine rl ?_ | refine rh ?_ | refine rt ?_ | refine rf ?_ | refine rs ?_ | refine And.intro ?_ ?_) | omega | simp (maxSteps := 1000000) only [go_sem, simprocAttr, ↓reduceIte])
  refine Ret.auto 0 ?_ ?_ ?_ <;> simp only [go_sem, reduceCtorEq, reduceIte, Nat.reduceEqDiff, Nat.reduceLT, Nat.reduceLeDiff, Int.natCast_succ, Post, List.drop_zero]
set_option maxHeartbeats 4000000 in
theorem specks_ok (w h : Nat) (hw1 : 1 ≤ w) (hw : w ≤ 1000) (hh1 : 1 ≤ h) (hh : h ≤ 1000) (p : List Bool) (hp : p.length = w * h) (most : Int) (hm : 0 ≤ most ∧ most ≤ 1048576) :
    FnOk Tryz.prog 22 [.agg [.int .i64 w, .int .i64 h, .ro (.bools p)], .int .i64 most] (.tup [.agg [.int .i64 w, .int .i64 h, .own 0], .int .i64 (chgAll (!true) (speckB most) p (pieces ⟨p, w, h, true, true⟩)).n, .int .i64 0]) [(0, .row 4 (.bools (chgAll (!true) (speckB most) p (pieces ⟨p, w, h, true, true⟩)).p))] := by
  haveI c1 : CapsOk [.cell [.int .i64 most]] := ⟨rfl⟩
  have k := changed_ok w h hw1 hw hh1 hh p hp true true 56 [.cell [.int .i64 most]] (speckB most) most hm (fun l hb => FnFr.of_ok (specks1_ok l (boxOf w h l) most) rfl rfl)
  generalize chgAll (!true) (speckB most) p (pieces ⟨p, w, h, true, true⟩) = C at *
  refine FnOk.of_vc Tryz.func22 rfl (by decide) (by simp [Tryz.f22]) [.cell 4 24, .tmp 5, .tmp 6] rfl fun w0 T0 _ => ?_
  simp only [Tryz.f22, argEnv]
  (repeat' first | with_reducible (first | intro _ | refine rc ?_ | refine rl ?_ | refine rh ?_ | refine rt ?_ | refine rf ?_ | refine rs ?_ | refine And.intro ?_ ?_) | omega | simp (maxSteps := 1000000) only [go_sem, simprocAttr, ↓reduceIte])
  refine VcCall.fr (FnFr.of_ok k rfl rfl) (by simp only [noIdR_ok, argOkL, argOk, allOk, argOkN, List.drop_zero, lk, reduceIte, reduceCtorEq, Nat.reduceEqDiff, Option.some.injEq, Item.row.injEq, Item.box.injEq, AV.ro.injEq, exists_eq_left, exists_and_left, exists_eq_left', exists_eq_right, and_assoc, and_true, true_and, List.cons.injEq, exists_eq', exists_eq]) 1 rfl (by simp [rowsB, Item.below, Fv.below, belowL]) ?_
  (repeat' first | with_reducible (first | intro _ | refine rc ?_ | refine rl ?_ | refine rh ?_ | refine rt ?_ | refine rf ?_ | refine rs ?_ | refine And.intro ?_ ?_) | omega | simp (maxSteps := 1000000) only [go_sem, simprocAttr, ↓reduceIte])
  refine Ret.auto 1 ?_ ?_ ?_ <;> simp only [go_sem, reduceCtorEq, reduceIte, Nat.reduceEqDiff, Nat.reduceLT, Nat.reduceLeDiff, Int.natCast_succ, Post, List.drop_zero]
set_option maxHeartbeats 4000000 in
theorem refSpecks_ok (w h : Nat) (hw1 : 1 ≤ w) (hw : w ≤ 1000) (hh1 : 1 ≤ h) (hh : h ≤ 1000) (p : List Bool) (hp : p.length = w * h) (most : Int) (hm : 0 ≤ most) :
    FnOk Tryz.prog 53 [.agg [.int .i64 w, .int .i64 h, .ro (.bools p)], .int .i64 most] (.tup [.agg [.int .i64 w, .int .i64 h, .own 0], .int .i64 (chgAll (!true) (speckB most) p (pieces ⟨p, w, h, true, true⟩)).n]) [(0, .row 4 (.bools (chgAll (!true) (speckB most) p (pieces ⟨p, w, h, true, true⟩)).p))] := by
  haveI c1 : CapsOk [.cell [.int .i64 most]] := ⟨rfl⟩
  have k := change_ok w h hw1 hw hh1 hh p hp true 83 [.cell [.int .i64 most]] (speckB most) (fun l hb => FnFr.of_ok (refSpecks1_ok l most) rfl rfl)
  have hin : ∀ l, l ∈ pieces ⟨p, w, h, true, true⟩ → l ≠ [] ∧ InPg w h l := fun l hl => by
    obtain ⟨j, hj, ho⟩ := pieces_ok _ l hl
    obtain ⟨t, ht⟩ := ho.hd
    exact ⟨by rw [ht]; simp, fun i hi => by have := ho.bd i hi; dsimp only at this; omega⟩
  have e : chgAll (!true) (speckB most) p ((pieces ⟨p, w, h, true, true⟩).map sortI) = chgAll (!true) (speckB most) p (pieces ⟨p, w, h, true, true⟩) :=
    chgAll_sort _ p (fun l hl i hi => ((hin l hl).2 i hi).1) fun l hl => by
      obtain ⟨hl1, hl2⟩ := hin l hl
      first | exact by unfold speckB; rw [sortI_len] | (unfold speckB; rw [sortI_len])
  rw [e] at k
  generalize chgAll (!true) (speckB most) p (pieces ⟨p, w, h, true, true⟩) = C at *
  refine FnOk.of_vc Tryz.func53 rfl (by decide) (by simp [Tryz.f53]) [.cell 4 24, .tmp 5] rfl fun w0 T0 _ => ?_
  simp only [Tryz.f53, argEnv]
  (repeat' first | with_reducible (first | intro _ | refine rc ?_ | refine rl ?_ | refine rh ?_ | refine rt ?_ | refine rf ?_ | refine rs ?_ | refine And.intro ?_ ?_) | omega | simp (maxSteps := 1000000) only [go_sem, simprocAttr, ↓reduceIte])
  refine VcCall.fr (FnFr.of_ok k rfl rfl) (by simp only [noIdR_ok, argOkL, argOk, allOk, argOkN, List.drop_zero, lk, reduceIte, reduceCtorEq, Nat.reduceEqDiff, Option.some.injEq, Item.row.injEq, Item.box.injEq, AV.ro.injEq, exists_eq_left, exists_and_left, exists_eq_left', exists_eq_right, and_assoc, and_true, true_and, List.cons.injEq, exists_eq', exists_eq]) 1 rfl (by simp [rowsB, Item.below, Fv.below, belowL]) ?_
  (repeat' first | with_reducible (first | intro _ | refine rc ?_ | refine rl ?_ | refine rh ?_ | refine rt ?_ | refine rf ?_ | refine rs ?_ | refine And.intro ?_ ?_) | omega | simp (maxSteps := 1000000) only [go_sem, simprocAttr, ↓reduceIte])
  refine Ret.auto 1 ?_ ?_ ?_ <;> simp only [go_sem, reduceCtorEq, reduceIte, Nat.reduceEqDiff, Nat.reduceLT, Nat.reduceLeDiff, Int.natCast_succ, Post, List.drop_zero]
end Go.Fv.Q

/-! Layout: the walk. -/
namespace Go.Fv.Q
open Go Go.Proofs
set_option linter.unusedSimpArgs false
set_option linter.unusedVariables false
set_option linter.unnecessarySimpa false
set_option maxRecDepth 8000

/-- The page without its specks. -/
def spk (w h : Nat) (p : List Bool) (least : Nat) : List Bool := (chgAll (!true) (speckB ((least : Int) - 1)) p (pieces ⟨p, w, h, true, true⟩)).p
theorem spk_len (w h : Nat) (p : List Bool) (least : Nat) : (spk w h p least).length = p.length := (chgAll_len _ _ _ _).1
set_option maxHeartbeats 8000000 in
theorem layout_ok (w h : Nat) (hw1 : 1 ≤ w) (hw : w ≤ 32) (hh1 : 1 ≤ h) (hh : h ≤ 32) (p : List Bool) (hp : p.length = w * h) (least gx gy line word : Nat) (h1 : 1 ≤ least) (h2 : least ≤ 1048576) (hx1 : 1 ≤ gx) (hx2 : gx ≤ 4000) (hy1 : 1 ≤ gy) (hy2 : gy ≤ 4000) (hl1 : 1 ≤ line) (hl2 : line ≤ 4000) (hwd : word ≤ 4000) :
    FnOk Tryz.prog 18 [.agg [.int .i64 w, .int .i64 h, .ro (.bools p)], .agg [.int .i64 least, .int .i64 gx, .int .i64 gy, .int .i64 line, .int .i64 word]] (.tup [.own 0, .int .i64 0]) [(0, .row 53 (bks (layL (spk w h p least) w h gx gy line word)))] := by
  have hwh : w * h ≤ 32 * 32 := Nat.mul_le_mul hw hh
  have kC := checkBits_ok w h p
  have kB := badGap_ok [(gx : Int), (gy : Int), (line : Int)] (by show 3 ≤ 1000; decide)
  rw [show [(gx : Int), (gy : Int), (line : Int)].any gapBad = false by simp [gapBad]; omega] at kB
  have kS := specks_ok w h hw1 (by omega) hh1 (by omega) p hp ((least : Int) - 1) (by omega)
  rw [show (chgAll (!true) (speckB ((least : Int) - 1)) p (pieces ⟨p, w, h, true, true⟩)).p = spk w h p least from rfl] at kS
  have hql := (spk_len w h p least).trans hp
  generalize (chgAll (!true) (speckB ((least : Int) - 1)) p (pieces ⟨p, w, h, true, true⟩)).n = ns at *
  generalize spk w h p least = q at *
  have hfull : InP ⟨0, 0, w, h⟩ w h := by unfold InP; dsimp only; omega
  have kP := splitB_ok w h hw1 (by omega) hh1 (by omega) (by omega) q hql ⟨0, 0, w, h⟩ hfull hw1 hh1 gx gy hx2 hy2 hx1 hy1
  rw [grayErr_ok hw1 (by omega) hh1 (by omega) hp] at kC
  have kI := inkSums_ok w h (by omega) (by omega) q hql
  have hc := cutL_spec q w gx gy (w + h + 1) ⟨0, 0, w, h⟩ (by dsimp only; omega)
  have hpt := hc.part
  have hink := hc.ink
  have hlen := hc.len
  have hink0 := inkN_le q w 0 0 w h
  rw [Nat.mul_comm] at hink0
  rw [show inkB q w ⟨0, 0, w, h⟩ = inkN q w 0 0 w h from rfl] at hlen
  clear hc
  unfold layL
  generalize cutL q w gx gy (w + h + 1) ⟨0, 0, w, h⟩ = L at *
  have hSL : sumL q w h = [.int .i64 w, .int .i64 h, .ro (.ints .i64 (sumsAt (inkV q) w ((w + 1) * (h + 1)) ((w + 1) * (h + 1))))] := rfl
  generalize sumsAt (inkV q) w ((w + 1) * (h + 1)) ((w + 1) * (h + 1)) = SL at *
  simp only [Nb.av, Int.natCast_zero, Int.cast_ofNat_Int] at kP
  refine FnOk.of_vc Tryz.func18 rfl (by decide) (by simp [Tryz.f18]) [.tmp 4, .tmp 5] rfl fun w0 T0 _ => ?_
  simp only [Tryz.f18, argEnv]
  (repeat' first | with_reducible (first | intro _ | refine rc ?_ | refine rl ?_ | refine rh ?_ | refine rt ?_ | refine rf ?_ | refine rs ?_ | refine And.intro ?_ ?_) | omega | simp (maxSteps := 1000000) only [go_sem, simprocAttr, ↓reduceIte])
  refine VcCall.k (kC) ?_
  have hd1 : decide (¬ ((least : Int) < 1 ∨ 1048576 < (least : Int))) = true := decide_eq_true (by omega)
  (repeat' first | with_reducible (first | intro _ | refine rc ?_ | refine rl ?_ | refine rh ?_ | refine rt ?_ | refine rf ?_ | refine rs ?_ | refine And.intro ?_ ?_) | omega | simp (maxSteps := 1000000) only [go_sem, simprocAttr, ↓reduceIte, hd1, cond_true])
  refine VcCall.k (kB) ?_
  (repeat' first | with_reducible (first | intro _ | refine rc ?_ | refine rl ?_ | refine rh ?_ | refine rt ?_ | refine rf ?_ | refine rs ?_ | refine And.intro ?_ ?_) | omega | simp (maxSteps := 1000000) only [go_sem, simprocAttr, ↓reduceIte])
  refine VcCall.ro (.tup [.agg [.int .i64 w, .int .i64 h, .ro (.bools q)], .int .i64 ns, .int .i64 0]) (FnFr.of_ok kS rfl rfl) (by simp only [noIdR_ok, argOkL, argOk, allOk, argOkN, List.drop_zero, lk, reduceIte, reduceCtorEq, Nat.reduceEqDiff, Option.some.injEq, Item.row.injEq, Item.box.injEq, AV.ro.injEq, exists_eq_left, exists_and_left, exists_eq_left', exists_eq_right, and_assoc, and_true, true_and, List.cons.injEq, exists_eq', exists_eq]) (by simp [outOk, argOkL, allOk, argOk, argOkN, lk, noIdR_ok]) rfl ?_
  (repeat' first | with_reducible (first | intro _ | refine rc ?_ | refine rl ?_ | refine rh ?_ | refine rt ?_ | refine rf ?_ | refine rs ?_ | refine And.intro ?_ ?_) | omega | simp (maxSteps := 1000000) only [go_sem, simprocAttr, ↓reduceIte])
  refine VcCall.ro (.tup [.ro (nbs L), .int .i64 0]) (FnFr.of_ok kP rfl (by simp [noRoRows, noRoItem, noRoRow, nbs, Nb.av, noRoL, noRo])) (by simp only [noIdR_ok, argOkL, argOk, allOk, argOkN, List.drop_zero, lk, reduceIte, reduceCtorEq, Nat.reduceEqDiff, Option.some.injEq, Item.row.injEq, Item.box.injEq, AV.ro.injEq, exists_eq_left, exists_and_left, exists_eq_left', exists_eq_right, and_assoc, and_true, true_and, List.cons.injEq, exists_eq', exists_eq]) (by simp [outOk, argOkL, allOk, argOk, argOkN, lk, noIdR_ok, nbs]) rfl ?_
  (repeat' first | with_reducible (first | intro _ | refine rc ?_ | refine rl ?_ | refine rh ?_ | refine rt ?_ | refine rf ?_ | refine rs ?_ | refine And.intro ?_ ?_) | omega | simp (maxSteps := 1000000) only [go_sem, simprocAttr, ↓reduceIte])
  refine VcDraw.lex [4] [] (by kernel_rfl) (by kernel_rfl) ?_
  (repeat' first | with_reducible (first | intro _ | refine rc ?_ | refine rl ?_ | refine rh ?_ | refine rt ?_ | refine rf ?_ | refine rs ?_ | refine And.intro ?_ ?_) | omega | simp (maxSteps := 1000000) only [go_sem, simprocAttr, ↓reduceIte])
  refine QV.intro (.cell [.int .i64 w, .int .i64 h, .ro (.ints .i64 SL)]) ?_ ?_
  · (repeat' first | with_reducible (first | intro _ | refine rc ?_ | refine rl ?_ | refine rh ?_ | refine rt ?_ | refine rf ?_ | refine rs ?_ | refine And.intro ?_ ?_) | omega | simp (maxSteps := 1000000) only [go_sem, simprocAttr, ↓reduceIte])
    refine VcCall.ro (.cell [.int .i64 w, .int .i64 h, .ro (.ints .i64 SL)]) (FnFr.of_ok kI rfl (by simp [noRoRows, noRoItem, noRoRow, noRoL, noRo])) (by simp only [noIdR_ok, argOkL, argOk, allOk, argOkN, List.drop_zero, lk, reduceIte, reduceCtorEq, Nat.reduceEqDiff, Option.some.injEq, Item.row.injEq, Item.box.injEq, AV.ro.injEq, exists_eq_left, exists_and_left, exists_eq_left', exists_eq_right, and_assoc, and_true, true_and, List.cons.injEq, exists_eq', exists_eq]) (by simp [outOk, argOkL, argOk, argOkN, lk]; exact ⟨_, _, ⟨rfl, rfl⟩, by simp [allOk, argOkN, lk, noIdR_ok]⟩) rfl ?_
    (repeat' first | with_reducible (first | intro _ | refine rc ?_ | refine rl ?_ | refine rh ?_ | refine rt ?_ | refine rf ?_ | refine rs ?_ | refine And.intro ?_ ?_) | omega | simp (maxSteps := 1000000) only [go_sem, simprocAttr, ↓reduceIte])
  (repeat' first | with_reducible (first | intro _ | refine rc ?_ | refine rl ?_ | refine rh ?_ | refine rt ?_ | refine rf ?_ | refine rs ?_ | refine And.intro ?_ ?_) | omega | simp (maxSteps := 1000000) only [go_sem, simprocAttr, ↓reduceIte, nbs, List.length_map])
  refine VcLoop.intro (fun k : Nat => ⟨137, [(89, .int .i64 k), (88, .int .i64 L.length), (87, .ro (.objs 4 (L.map Nb.av))), (11, .own 2), (10, .ptr 3 0), (3, .ptr 1 0), (2, .ptr 0 0)], [(0, .box 24 [.int .i64 w, .int .i64 h, .ro (.bools q)]), (1, .box 41 [.int .i64 least, .int .i64 gx, .int .i64 gy, .int .i64 line, .int .i64 word]), (2, .row 53 (bks ((L.take k).map (layBk q w line word)))), (3, .box 96 [.int .i64 w, .int .i64 h, .ro (.bools q), .cell [.int .i64 w, .int .i64 h, .ro (.ints .i64 SL)], .int .i64 0, .int .i64 0, .nilS])], 4⟩) (fun k => k ≤ L.length) (fun k => L.length - k) 0 ?_ (Nat.zero_le _) fun k hk => ?_
  · refine Ent.auto0 rfl ?_ ?_ <;> simp only [go_sem, reduceCtorEq, reduceIte, Nat.reduceEqDiff, Nat.reduceLT, Nat.reduceLeDiff, Int.natCast_succ, List.take_zero, List.map_nil]
  by_cases hlt : k < L.length
  · have he := nb_elem L hlt
    have hmem : L.getD k Nb.zero ∈ L := by rw [getD_lt hlt]; exact List.getElem_mem hlt
    have hts : ((L.take (k + 1)).map (layBk q w line word)).map Bk.av = ((L.take k).map (layBk q w line word)).map Bk.av ++ [(⟨L.getD k Nb.zero, ((linesR q w (L.getD k Nb.zero) line).map (rowBox q w (L.getD k Nb.zero))).map (layLn q w word)⟩ : Bk).av] := by
      rw [List.take_succ_eq_append_getElem hlt, getD_lt hlt, List.map_append, List.map_append]; rfl
    have hpk := hpt _ hmem
    have hik := hink _ hmem
    generalize L.getD k Nb.zero = b at *
    have hib : InP b w h := hfull.of hpk
    have kR := rows_ok q w h (by omega) (by omega) 0 0 b hib line hl1 hl2
    have hRc := rows_cuts q w b line
    have hRp := hRc.part
    have hRi := hRc.ink
    have hRl := hRc.len
    have hib2 := inkN_le q w b.x b.y b.w b.h
    rw [show inkB q w b = inkN q w b.x b.y b.w b.h from rfl] at hRl
    have hbb : b.h * b.w ≤ 32 * 32 := Nat.mul_le_mul (by unfold InP at hib; omega) (by unfold InP at hib; omega)
    have hRb := Nat.le_trans hRl (Nat.le_trans hib2 hbb)
    clear hRc hRl hib2 hbb
    generalize (linesR q w b line).map (rowBox q w b) = R at *
    obtain ⟨bx, by', bw, bh⟩ := b
    simp only [ctr, Nb.av, Int.natCast_zero] at kR
    rw [hSL] at kR
    dsimp only at he
    rw [show ∀ b s, (⟨b, s⟩ : Bk).av = [.int .i64 b.x, .int .i64 b.y, .int .i64 b.w, .int .i64 b.h, .ro (lns s)] from fun _ _ => rfl] at hts
    dsimp only at hts
    have hnl : (L.take k).length = k := by rw [List.length_take]; omega
    (repeat' first | with_reducible (first | intro _ | refine rc ?_ | refine rl ?_ | refine rh ?_ | refine rt ?_ | refine rf ?_ | refine rs ?_ | refine And.intro ?_ ?_) | omega | simp (maxSteps := 1000000) only [go_sem, simprocAttr, ↓reduceIte, List.length_map, elemA, he])
    refine VcCall.ro (.ro (nbs R)) (FnFr.of_ok kR rfl (by simp [noRoRows, noRoItem, noRoRow, nbs, Nb.av, noRoL, noRo])) (by simp [argOkL, argOk, allOk, argOkN, lk, noIdR_ok, nbs, nilRow]; exact ⟨_, _, ⟨rfl, rfl⟩, by simp [allOk, argOkN, noIdR_ok, nilRow]⟩) (by simp [outOk, argOkL, allOk, argOk, argOkN, lk, noIdR_ok, nbs]) rfl ?_
    (repeat' first | with_reducible (first | intro _ | refine rc ?_ | refine rl ?_ | refine rh ?_ | refine rt ?_ | refine rf ?_ | refine rs ?_ | refine And.intro ?_ ?_) | omega | simp (maxSteps := 1000000) only [go_sem, simprocAttr, ↓reduceIte, nbs, List.length_map])
    refine VcLoop.run (fun j : Nat => ⟨137, [(101, .int .i64 j), (100, .int .i64 R.length), (99, .ro (.objs 4 (R.map Nb.av))), (14, .ptr 5 0), (89, .int .i64 k), (88, .int .i64 L.length), (87, .ro (.objs 4 (L.map Nb.av))), (11, .own 2), (10, .ptr 3 0), (3, .ptr 1 0), (2, .ptr 0 0)], [(0, .box 24 [.int .i64 w, .int .i64 h, .ro (.bools q)]), (1, .box 41 [.int .i64 least, .int .i64 gx, .int .i64 gy, .int .i64 line, .int .i64 word]), (2, .row 53 (bks ((L.take k).map (layBk q w line word)))), (3, .box 96 [.int .i64 w, .int .i64 h, .ro (.bools q), .cell [.int .i64 w, .int .i64 h, .ro (.ints .i64 SL)], .int .i64 0, .int .i64 0, .nilS]), (4, .row 55 (lns ((R.take j).map (layLn q w word)))), (5, .box 53 [.int .i64 bx, .int .i64 by', .int .i64 bw, .int .i64 bh, .own 4])], 6⟩) (fun j => j ≤ R.length) (fun j => R.length - j) 0 ?_ (Nat.zero_le _) fun j hj => ?_
    · refine Ent.trans (Ent.nilBox (P := Tryz.prog) 5 4 55 e55 rfl rfl) (Ent.auto0 rfl ?_ ?_) <;> simp only [go_sem, reduceCtorEq, reduceIte, Nat.reduceEqDiff, Nat.reduceLT, Nat.reduceLeDiff, Int.natCast_succ, zrow, put, List.set_cons_zero, List.set_cons_succ, Nat.zero_mul, List.range_zero, List.map_nil, List.replicate_zero, List.take_zero]
    by_cases hjl : j < R.length
    · have hel := nb_elem R hjl
      have hml : R.getD j Nb.zero ∈ R := by rw [getD_lt hjl]; exact List.getElem_mem hjl
      have htl : ((R.take (j + 1)).map (layLn q w word)).map Ln.av = ((R.take j).map (layLn q w word)).map Ln.av ++ [(layLn q w word (R.getD j Nb.zero)).av] := by
        rw [List.take_succ_eq_append_getElem hjl, getD_lt hjl, List.map_append, List.map_append]; rfl
      have hpl := hRp _ hml
      have hil2 := hRi _ hml
      generalize R.getD j Nb.zero = l at *
      have hil : InP l w h := hib.of hpl
      have hlw := ink_w q w hil2
      have hlh := ink_h q w hil2
      have kG := gap_ok q w h (by omega) (by omega) 0 0 l hil
      obtain ⟨g0, hg0, hg1, hg2⟩ := gapV_bd q w l (by unfold InP at hil; omega)
      have hlg : layLn q w word l = ⟨l, lowOf (bots (cutP q w l) l.w l.h) + l.y, (linesC q w l (if word = 0 then g0 else word)).map (wordBox q w l)⟩ := by
        unfold layLn lineWords lineGap; rw [hg0, Int.toNat_natCast]
      rw [hg0] at kG
      have kBs := base_ok w h hw1 (by omega) hh1 (by omega) q hql l hil hlw hlh
      rw [if_neg (by omega), if_neg (by omega)] at kBs
      have kW0 := words_ok q w h (by omega) (by omega) 0 0 l hil g0 hg1 hg2
      have kW1 := fun h0 : ¬ word = 0 => words_ok q w h (by omega) (by omega) 0 0 l hil word (by omega) hwd
      rw [hlg] at htl
      generalize lowOf (bots (cutP q w l) l.w l.h) = bs at *
      have hll : (R.take j).length = j := by rw [List.length_take]; omega
      obtain ⟨lx, ly, lw, lh⟩ := l
      simp only [ctr, Nb.av, Int.natCast_zero] at kG kBs kW0 kW1
      rw [hSL] at kG kW0 kW1
      dsimp only at hel
      rw [show ∀ b s W, (⟨b, s, W⟩ : Ln).av = [.int .i64 b.x, .int .i64 b.y, .int .i64 b.w, .int .i64 b.h, .int .i64 s, .ro (nbs W)] from fun _ _ _ => rfl] at htl
      dsimp only at htl
      by_cases hw0 : word = 0
      · rw [if_pos hw0] at htl
        generalize (linesC q w ⟨lx, ly, lw, lh⟩ g0).map (wordBox q w ⟨lx, ly, lw, lh⟩) = W at *
        refine VcRun.of ?_
        (repeat' first | with_reducible (first | intro _ | refine rc ?_ | refine rl ?_ | refine rh ?_ | refine rt ?_ | refine rf ?_ | refine rs ?_ | refine And.intro ?_ ?_) | omega | simp (maxSteps := 1000000) only [go_sem, simprocAttr, ↓reduceIte, List.length_map, elemA, hel])
        refine VcCall.fr (FnFr.of_ok kG rfl rfl) (by simp [argOkL, argOk, allOk, argOkN, lk, noIdR_ok, nbs, nilRow]; exact ⟨_, _, ⟨rfl, rfl⟩, by simp [allOk, argOkN, noIdR_ok, nilRow]⟩) 0 rfl (by simp [rowsB]) ?_
        (repeat' first | with_reducible (first | intro _ | refine rc ?_ | refine rl ?_ | refine rh ?_ | refine rt ?_ | refine rf ?_ | refine rs ?_ | refine And.intro ?_ ?_) | omega | simp (maxSteps := 1000000) only [go_sem, simprocAttr, ↓reduceIte])
        refine VcCall.k kBs ?_
        (repeat' first | with_reducible (first | intro _ | refine rc ?_ | refine rl ?_ | refine rh ?_ | refine rt ?_ | refine rf ?_ | refine rs ?_ | refine And.intro ?_ ?_) | omega | simp (maxSteps := 1000000) only [go_sem, simprocAttr, ↓reduceIte])
        refine VcDraw.lex [9, 10, 12] [(0, [1]), (1, [1])] (by kernel_rfl) (by kernel_rfl) ?_
        (repeat' first | with_reducible (first | intro _ | refine rc ?_ | refine rl ?_ | refine rh ?_ | refine rt ?_ | refine rf ?_ | refine rs ?_ | refine And.intro ?_ ?_) | omega | simp (maxSteps := 1000000) only [go_sem, simprocAttr, ↓reduceIte])
        refine QV.intro (.ro (nbs W)) ?_ ?_
        · (repeat' first | with_reducible (first | intro _ | refine rc ?_ | refine rl ?_ | refine rh ?_ | refine rt ?_ | refine rf ?_ | refine rs ?_ | refine And.intro ?_ ?_) | omega | simp (maxSteps := 1000000) only [go_sem, simprocAttr, ↓reduceIte])
          refine VcCall.ro (.ro (nbs W)) (FnFr.of_ok kW0 rfl (by simp [noRoRows, noRoItem, noRoRow, nbs, Nb.av, noRoL, noRo])) (by simp [argOkL, argOk, allOk, argOkN, lk, noIdR_ok, nbs, nilRow]; exact ⟨_, _, ⟨rfl, rfl⟩, by simp [allOk, argOkN, noIdR_ok, nilRow]⟩) (by simp [outOk, argOkL, allOk, argOk, argOkN, lk, noIdR_ok, nbs]) rfl ?_
          (repeat' first | with_reducible (first | intro _ | refine rc ?_ | refine rl ?_ | refine rh ?_ | refine rt ?_ | refine rf ?_ | refine rs ?_ | refine And.intro ?_ ?_) | omega | simp (maxSteps := 1000000) only [go_sem, simprocAttr, ↓reduceIte])
        (repeat' first | with_reducible (first | intro _ | refine rc ?_ | refine rl ?_ | refine rh ?_ | refine rt ?_ | refine rf ?_ | refine rs ?_ | refine And.intro ?_ ?_) | omega | simp (maxSteps := 1000000) only [go_sem, simprocAttr, ↓reduceIte, List.length_map])
        refine ⟨j + 1, Ent.auto0 rfl ?_ ?_, by omega, by omega⟩ <;> simp only [go_sem, reduceCtorEq, reduceIte, Nat.reduceEqDiff, Nat.reduceLT, Nat.reduceLeDiff, Int.natCast_succ, htl]
      · rw [if_neg hw0] at htl
        have kW1 := kW1 hw0
        generalize (linesC q w ⟨lx, ly, lw, lh⟩ word).map (wordBox q w ⟨lx, ly, lw, lh⟩) = W at *
        refine VcRun.of ?_
        (repeat' first | with_reducible (first | intro _ | refine rc ?_ | refine rl ?_ | refine rh ?_ | refine rt ?_ | refine rf ?_ | refine rs ?_ | refine And.intro ?_ ?_) | omega | simp (maxSteps := 1000000) only [go_sem, simprocAttr, ↓reduceIte, List.length_map, elemA, hel])
        refine VcCall.k kBs ?_
        (repeat' first | with_reducible (first | intro _ | refine rc ?_ | refine rl ?_ | refine rh ?_ | refine rt ?_ | refine rf ?_ | refine rs ?_ | refine And.intro ?_ ?_) | omega | simp (maxSteps := 1000000) only [go_sem, simprocAttr, ↓reduceIte])
        refine VcDraw.lex [9, 10, 12] [(0, [1]), (1, [1])] (by kernel_rfl) (by kernel_rfl) ?_
        (repeat' first | with_reducible (first | intro _ | refine rc ?_ | refine rl ?_ | refine rh ?_ | refine rt ?_ | refine rf ?_ | refine rs ?_ | refine And.intro ?_ ?_) | omega | simp (maxSteps := 1000000) only [go_sem, simprocAttr, ↓reduceIte])
        refine QV.intro (.ro (nbs W)) ?_ ?_
        · (repeat' first | with_reducible (first | intro _ | refine rc ?_ | refine rl ?_ | refine rh ?_ | refine rt ?_ | refine rf ?_ | refine rs ?_ | refine And.intro ?_ ?_) | omega | simp (maxSteps := 1000000) only [go_sem, simprocAttr, ↓reduceIte])
          refine VcCall.ro (.ro (nbs W)) (FnFr.of_ok kW1 rfl (by simp [noRoRows, noRoItem, noRoRow, nbs, Nb.av, noRoL, noRo])) (by simp [argOkL, argOk, allOk, argOkN, lk, noIdR_ok, nbs, nilRow]; exact ⟨_, _, ⟨rfl, rfl⟩, by simp [allOk, argOkN, noIdR_ok, nilRow]⟩) (by simp [outOk, argOkL, allOk, argOk, argOkN, lk, noIdR_ok, nbs]) rfl ?_
          (repeat' first | with_reducible (first | intro _ | refine rc ?_ | refine rl ?_ | refine rh ?_ | refine rt ?_ | refine rf ?_ | refine rs ?_ | refine And.intro ?_ ?_) | omega | simp (maxSteps := 1000000) only [go_sem, simprocAttr, ↓reduceIte])
        (repeat' first | with_reducible (first | intro _ | refine rc ?_ | refine rl ?_ | refine rh ?_ | refine rt ?_ | refine rf ?_ | refine rs ?_ | refine And.intro ?_ ?_) | omega | simp (maxSteps := 1000000) only [go_sem, simprocAttr, ↓reduceIte, List.length_map])
        refine ⟨j + 1, Ent.auto0 rfl ?_ ?_, by omega, by omega⟩ <;> simp only [go_sem, reduceCtorEq, reduceIte, Nat.reduceEqDiff, Nat.reduceLT, Nat.reduceLeDiff, Int.natCast_succ, htl]
    · have e : j = R.length := by omega
      subst e
      rw [List.take_length]
      refine VcRun.of ?_
      (repeat' first | with_reducible (first | intro _ | refine rc ?_ | refine rl ?_ | refine rh ?_ | refine rt ?_ | refine rf ?_ | refine rs ?_ | refine And.intro ?_ ?_) | omega | simp (maxSteps := 1000000) only [go_sem, simprocAttr, ↓reduceIte])
      refine ⟨k + 1, Ent.auto0 rfl ?_ ?_, by omega, by omega⟩ <;> simp only [go_sem, reduceCtorEq, reduceIte, Nat.reduceEqDiff, Nat.reduceLT, Nat.reduceLeDiff, Int.natCast_succ, hts]
  · have e : k = L.length := by omega
    subst e
    rw [List.take_length]
    (repeat' first | with_reducible (first | intro _ | refine rc ?_ | refine rl ?_ | refine rh ?_ | refine rt ?_ | refine rf ?_ | refine rs ?_ | refine And.intro ?_ ?_) | omega | simp (maxSteps := 1000000) only [go_sem, simprocAttr, ↓reduceIte])
    refine Ret.auto 1 ?_ rfl ?_ <;> simp only [go_sem, reduceCtorEq, reduceIte, Nat.reduceEqDiff, Nat.reduceLT, Nat.reduceLeDiff, Int.natCast_succ, Post]
end Go.Fv.Q

/-! Layout with ways out of range; Flat: the walk. -/
namespace Go.Fv.Q
open Go Go.Proofs
set_option linter.unusedSimpArgs false
set_option linter.unusedVariables false
set_option linter.unnecessarySimpa false
set_option maxRecDepth 8000

/-- The ways of Layout are in their ranges. -/
def WaysIn (least gx gy line word : Int) : Prop := (1 ≤ least ∧ least ≤ 1048576) ∧ (1 ≤ gx ∧ gx ≤ 4000) ∧ (1 ≤ gy ∧ gy ≤ 4000) ∧ (1 ≤ line ∧ line ≤ 4000) ∧ 0 ≤ word ∧ word ≤ 4000
instance (least gx gy line word : Int) : Decidable (WaysIn least gx gy line word) := inferInstanceAs (Decidable (_ ∧ _))
set_option maxHeartbeats 4000000 in
theorem layoutE_ok (w h : Nat) (hw1 : 1 ≤ w) (hw : w ≤ 32) (hh1 : 1 ≤ h) (hh : h ≤ 32) (p : List Bool) (hp : p.length = w * h) (least gx gy line word : Int) (hn : ¬ WaysIn least gx gy line word) :
    FnOk Tryz.prog 18 [.agg [.int .i64 w, .int .i64 h, .ro (.bools p)], .agg [.int .i64 least, .int .i64 gx, .int .i64 gy, .int .i64 line, .int .i64 word]] (.tup [.own 0, .int .i64 3]) [(0, .row 53 (bks []))] := by
  have kC := checkBits_ok w h p
  have kB := badGap_ok [gx, gy, line] (by show 3 ≤ 1000; decide)
  rw [grayErr_ok hw1 (by omega) hh1 (by omega) hp] at kC
  unfold WaysIn at hn
  by_cases h1 : least < 1 ∨ 1048576 < least
  · have hd1 : decide (¬ (least < 1 ∨ 1048576 < least)) = false := decide_eq_false (by omega)
    refine FnOk.of_vc Tryz.func18 rfl (by decide) (by simp [Tryz.f18]) [.tmp 4, .tmp 5] rfl fun w0 T0 _ => ?_
    simp only [Tryz.f18, argEnv]
    (repeat' first | with_reducible (first | intro _ | refine rc ?_ | refine rl ?_ | refine rh ?_ | refine rt ?_ | refine rf ?_ | refine rs ?_ | refine And.intro ?_ ?_) | omega | simp (maxSteps := 1000000) only [go_sem, simprocAttr, ↓reduceIte])
    refine VcCall.k (kC) ?_
    (repeat' first | with_reducible (first | intro _ | refine rc ?_ | refine rl ?_ | refine rh ?_ | refine rt ?_ | refine rf ?_ | refine rs ?_ | refine And.intro ?_ ?_) | omega | simp (maxSteps := 1000000) only [go_sem, simprocAttr, ↓reduceIte, hd1, cond_false])
    refine Ret.auto 1 ?_ rfl ?_ <;> simp only [go_sem, reduceCtorEq, reduceIte, Nat.reduceEqDiff, Nat.reduceLT, Nat.reduceLeDiff, Int.natCast_succ, Post, List.map_nil]
  · have hd1 : decide (¬ (least < 1 ∨ 1048576 < least)) = true := decide_eq_true (by omega)
    cases hg : [gx, gy, line].any gapBad with
    | true =>
      rw [hg] at kB
      refine FnOk.of_vc Tryz.func18 rfl (by decide) (by simp [Tryz.f18]) [.tmp 4, .tmp 5] rfl fun w0 T0 _ => ?_
      simp only [Tryz.f18, argEnv]
      (repeat' first | with_reducible (first | intro _ | refine rc ?_ | refine rl ?_ | refine rh ?_ | refine rt ?_ | refine rf ?_ | refine rs ?_ | refine And.intro ?_ ?_) | omega | simp (maxSteps := 1000000) only [go_sem, simprocAttr, ↓reduceIte])
      refine VcCall.k (kC) ?_
      (repeat' first | with_reducible (first | intro _ | refine rc ?_ | refine rl ?_ | refine rh ?_ | refine rt ?_ | refine rf ?_ | refine rs ?_ | refine And.intro ?_ ?_) | omega | simp (maxSteps := 1000000) only [go_sem, simprocAttr, ↓reduceIte, hd1, cond_true])
      refine VcCall.k (kB) ?_
      (repeat' first | with_reducible (first | intro _ | refine rc ?_ | refine rl ?_ | refine rh ?_ | refine rt ?_ | refine rf ?_ | refine rs ?_ | refine And.intro ?_ ?_) | omega | simp (maxSteps := 1000000) only [go_sem, simprocAttr, ↓reduceIte])
      refine Ret.auto 1 ?_ rfl ?_ <;> simp only [go_sem, reduceCtorEq, reduceIte, Nat.reduceEqDiff, Nat.reduceLT, Nat.reduceLeDiff, Int.natCast_succ, Post, List.map_nil]
    | false =>
      rw [hg] at kB
      have hw2 : word < 0 ∨ 4000 < word := by
        simp only [List.any_cons, List.any_nil, Bool.or_false, Bool.or_eq_false_iff, gapBad, decide_eq_false_iff_not] at hg
        omega
      refine FnOk.of_vc Tryz.func18 rfl (by decide) (by simp [Tryz.f18]) [.tmp 4, .tmp 5] rfl fun w0 T0 _ => ?_
      simp only [Tryz.f18, argEnv]
      (repeat' first | with_reducible (first | intro _ | refine rc ?_ | refine rl ?_ | refine rh ?_ | refine rt ?_ | refine rf ?_ | refine rs ?_ | refine And.intro ?_ ?_) | omega | simp (maxSteps := 1000000) only [go_sem, simprocAttr, ↓reduceIte])
      refine VcCall.k (kC) ?_
      (repeat' first | with_reducible (first | intro _ | refine rc ?_ | refine rl ?_ | refine rh ?_ | refine rt ?_ | refine rf ?_ | refine rs ?_ | refine And.intro ?_ ?_) | omega | simp (maxSteps := 1000000) only [go_sem, simprocAttr, ↓reduceIte, hd1, cond_true])
      refine VcCall.k (kB) ?_
      (repeat' first | with_reducible (first | intro _ | refine rc ?_ | refine rl ?_ | refine rh ?_ | refine rt ?_ | refine rf ?_ | refine rs ?_ | refine And.intro ?_ ?_) | omega | simp (maxSteps := 1000000) only [go_sem, simprocAttr, ↓reduceIte])
      refine Ret.auto 1 ?_ rfl ?_ <;> simp only [go_sem, reduceCtorEq, reduceIte, Nat.reduceEqDiff, Nat.reduceLT, Nat.reduceLeDiff, Int.natCast_succ, Post, List.map_nil]
theorem flatB_len_take (l : List Bk) (k : Nat) : (flatB (l.take k)).length ≤ (flatB l).length := by
  have : flatB l = flatB (l.take k) ++ flatB (l.drop k) := by
    unfold flatB; rw [← List.flatMap_append, List.take_append_drop]
  rw [this, List.length_append]; omega
theorem flatB_succ {l : List Bk} {k : Nat} (h : k < l.length) : flatB (l.take (k + 1)) = flatB (l.take k) ++ (l.getD k Bk.zero).ls.flatMap Ln.ws := by
  rw [List.take_succ_eq_append_getElem h, getD_lt h]
  unfold flatB; rw [List.flatMap_append]; simp
theorem ws_succ {l : List Ln} {k : Nat} (h : k < l.length) : (l.take (k + 1)).flatMap Ln.ws = (l.take k).flatMap Ln.ws ++ (l.getD k Ln.zero).ws := by
  rw [List.take_succ_eq_append_getElem h, getD_lt h, List.flatMap_append]; simp
theorem ws_len_take (l : List Ln) (k : Nat) : ((l.take k).flatMap Ln.ws).length ≤ (l.flatMap Ln.ws).length := by
  have : l.flatMap Ln.ws = (l.take k).flatMap Ln.ws ++ (l.drop k).flatMap Ln.ws := by rw [← List.flatMap_append, List.take_append_drop]
  rw [this, List.length_append]; omega
set_option maxHeartbeats 4000000 in
theorem flat_ok (l : List Bk) (hl : (flatB l).length ≤ 5000) : FnOk Tryz.prog 23 [.ro (bks l)] (.own 0) [(0, .row 26 (nbs (flatB l)))] := by
  refine FnOk.of_vc Tryz.func23 rfl (by decide) (by simp [Tryz.f23]) [.tmp 2] rfl fun w0 T0 _ => ?_
  simp only [Tryz.f23, argEnv]
  (repeat' first | with_reducible (first | intro _ | refine rc ?_ | refine rl ?_ | refine rh ?_ | refine rt ?_ | refine rf ?_ | refine rs ?_ | refine And.intro ?_ ?_) | omega | simp (maxSteps := 1000000) only [go_sem, simprocAttr, ↓reduceIte, List.length_map])
  refine VcLoop.intro (fun k : Nat => ⟨28, [(10, .int .i64 k), (9, .int .i64 l.length), (8, .ro (bks l)), (3, .own 0)], [(0, .row 26 (nbs (flatB (l.take k))))], 1⟩) (fun k => k ≤ l.length) (fun k => l.length - k) 0 ?_ (Nat.zero_le _) fun k hk => ?_
  · refine Ent.auto0 rfl ?_ ?_ <;> simp only [go_sem, reduceCtorEq, reduceIte, Nat.reduceEqDiff, Nat.reduceLT, Nat.reduceLeDiff, Int.natCast_succ, List.take_zero, flatB, List.flatMap_nil, nbs, List.map_nil]
  by_cases hlt : k < l.length
  · have he := bk_elem l hlt
    have hs := flatB_succ hlt
    have hbd := flatB_len_take l (k + 1)
    rw [hs, List.length_append] at hbd
    generalize flatB (l.take k) = D at *
    generalize l.getD k Bk.zero = b at *
    obtain ⟨⟨bx, by', bw, bh⟩, R⟩ := b
    dsimp only at he hs hbd
    (repeat' first | with_reducible (first | intro _ | refine rc ?_ | refine rl ?_ | refine rh ?_ | refine rt ?_ | refine rf ?_ | refine rs ?_ | refine And.intro ?_ ?_) | omega | simp (maxSteps := 1000000) only [go_sem, simprocAttr, ↓reduceIte, List.length_map, elemA, he])
    refine VcLoop.intro (fun j : Nat => ⟨28, [(17, .int .i64 j), (16, .int .i64 R.length), (15, .ro (lns R)), (3, .own 0), (10, .int .i64 k), (9, .int .i64 l.length), (8, .ro (bks l))], [(0, .row 26 (nbs (D ++ (R.take j).flatMap Ln.ws)))], 1⟩) (fun j => j ≤ R.length) (fun j => R.length - j) 0 ?_ (Nat.zero_le _) fun j hj => ?_
    · refine Ent.auto0 rfl ?_ ?_ <;> simp only [go_sem, reduceCtorEq, reduceIte, Nat.reduceEqDiff, Nat.reduceLT, Nat.reduceLeDiff, Int.natCast_succ, List.take_zero, List.flatMap_nil, List.append_nil, nbs]
    by_cases hjl : j < R.length
    · have hel := ln_elem R hjl
      have hsl := ws_succ hjl
      have hbl := ws_len_take R (j + 1)
      rw [hsl, List.length_append] at hbl
      have hdl : (D ++ (R.take j).flatMap Ln.ws).length ≤ 5000 := by rw [List.length_append]; omega
      have hsa : (D ++ (R.take (j + 1)).flatMap Ln.ws).map Nb.av = (D ++ (R.take j).flatMap Ln.ws).map Nb.av ++ (R.getD j Ln.zero).ws.map Nb.av := by rw [hsl, ← List.append_assoc, List.map_append]
      generalize D ++ (R.take j).flatMap Ln.ws = E at *
      generalize R.getD j Ln.zero = x at *
      obtain ⟨⟨lx, ly, lw, lh⟩, s, W⟩ := x
      dsimp only at hel hsa hbl
      (repeat' first | with_reducible (first | intro _ | refine rc ?_ | refine rl ?_ | refine rh ?_ | refine rt ?_ | refine rf ?_ | refine rs ?_ | refine And.intro ?_ ?_) | omega | simp (maxSteps := 1000000) only [go_sem, simprocAttr, ↓reduceIte, List.length_map, elemA, hel, nbs])
      refine ⟨j + 1, Ent.auto0 rfl ?_ ?_, by omega, by omega⟩ <;> simp only [go_sem, reduceCtorEq, reduceIte, Nat.reduceEqDiff, Nat.reduceLT, Nat.reduceLeDiff, Int.natCast_succ, nbs, hsa]
    · have e : j = R.length := by omega
      subst e
      rw [List.take_length]
      (repeat' first | with_reducible (first | intro _ | refine rc ?_ | refine rl ?_ | refine rh ?_ | refine rt ?_ | refine rf ?_ | refine rs ?_ | refine And.intro ?_ ?_) | omega | simp (maxSteps := 1000000) only [go_sem, simprocAttr, ↓reduceIte])
      refine ⟨k + 1, Ent.auto0 rfl ?_ ?_, by omega, by omega⟩ <;> simp only [go_sem, reduceCtorEq, reduceIte, Nat.reduceEqDiff, Nat.reduceLT, Nat.reduceLeDiff, Int.natCast_succ, hs, nbs]
  · have e : k = l.length := by omega
    subst e
    rw [List.take_length]
    (repeat' first | with_reducible (first | intro _ | refine rc ?_ | refine rl ?_ | refine rh ?_ | refine rt ?_ | refine rf ?_ | refine rs ?_ | refine And.intro ?_ ?_) | omega | simp (maxSteps := 1000000) only [go_sem, simprocAttr, ↓reduceIte])
    refine Ret.auto 1 ?_ rfl ?_ <;> simp only [go_sem, reduceCtorEq, reduceIte, Nat.reduceEqDiff, Nat.reduceLT, Nat.reduceLeDiff, Int.natCast_succ, Post, nbs, renR_ok, belowR_ok]
end Go.Fv.Q

/-! The reference's stretches of lines: the walk. -/
namespace Go.Fv.Q
open Go Go.Proofs
set_option linter.unusedSimpArgs false
set_option linter.unusedVariables false
set_option linter.unnecessarySimpa false
set_option maxRecDepth 8000

def peAv (t : Nat × Nat) : List AV := [.int .i64 t.1, .int .i64 t.2]
instance : FNoId peAv := ⟨fun _ => rfl⟩
def peR (l : List (Nat × Nat)) : RowV := .objs 2 (l.map peAv)
theorem pe_elem (l : List (Nat × Nat)) {i : Nat} (h : i < l.length) : (l.map peAv).getD i [] = [.int .i64 (l.getD i (0, 0)).1, .int .i64 (l.getD i (0, 0)).2] := by
  rw [getD_lt (by simpa using h), getD_lt h, List.getElem_map]; rfl
def RfB (i : Nat) (l : List (Nat × Nat)) : Prop := ∀ t, t ∈ l → t.1 ≤ i ∧ t.2 ≤ i
theorem rfB_step {gap i : Nat} {out : List (Nat × Nat)} (h : RfB i out) : RfB (i + 1) (jnE gap out (i, 1)) ∧ (jnE gap out (i, 1)).length ≤ out.length + 1 := by
  rcases List.eq_nil_or_concat out with rfl | ⟨o, t, rfl⟩
  · rw [jnE_nil]
    refine ⟨fun t ht => ?_, by simp⟩
    rw [List.mem_singleton] at ht; subst ht
    unfold toE; dsimp only; omega
  · rw [List.concat_eq_append] at h ⊢
    have ht := h t (by simp)
    have up : ∀ u : Nat × Nat, u.1 ≤ i ∧ u.2 ≤ i → u.1 ≤ i + 1 ∧ u.2 ≤ i + 1 := fun u h => by omega
    rw [jnE_snoc]
    split
    · refine ⟨fun u hu => ?_, by simp⟩
      rcases List.mem_append.1 hu with hu | hu
      · exact up u (h u (by simp [hu]))
      · rw [List.mem_singleton] at hu; subst hu
        dsimp only; omega
    · refine ⟨fun u hu => ?_, by simp⟩
      rcases List.mem_append.1 hu with hu | hu
      · exact up u (h u hu)
      · rw [List.mem_singleton] at hu; subst hu
        unfold toE; dsimp only; omega
set_option maxHeartbeats 4000000 in
theorem refStr_ok (g : Nat → Nat) (is : Nat → Bool) (his : ∀ j, is j = !decide (g j = 0)) (n : Nat) (hn : n ≤ 4000) (gap : Nat) (hg : gap ≤ 4000) :
    FnOk Tryz.prog 33 [.ro (.ints .i64 (natL g n)), .int .i64 gap] (.own 0) [(0, .row 72 (peR (rfGo is gap n 0 [])))] := by
  have hll := natL_len g n
  have hget := fun i (hi : i < n) => natL_get g hi
  generalize natL g n = l at *
  refine FnOk.of_vc Tryz.func33 rfl (by decide) (by simp [Tryz.f33]) [.tmp 4] rfl fun w0 T0 _ => ?_
  simp only [Tryz.f33, argEnv]
  unfold peR
  (repeat' first | with_reducible (first | intro _ | refine rc ?_ | refine rl ?_ | refine rh ?_ | refine rt ?_ | refine rf ?_ | refine rs ?_ | refine And.intro ?_ ?_) | omega | simp (maxSteps := 1000000) only [go_sem, simprocAttr, ↓reduceIte, List.length_map])
  refine VcLoop.intro (fun x : Nat × List (Nat × Nat) => ⟨49, [(11, .int .i64 x.1), (10, .int .i64 n), (9, .ro (.ints .i64 l)), (5, .own 0), (1, .int .i64 gap)], [(0, .row 72 (.objs 2 (x.2.map peAv)))], 1⟩) (fun x => x.1 ≤ n ∧ rfGo is gap (n - x.1) x.1 x.2 = rfGo is gap n 0 [] ∧ RfB x.1 x.2 ∧ x.2.length ≤ x.1) (fun x => n - x.1) (0, []) ?_ ⟨Nat.zero_le _, rfl, (fun _ ht => absurd ht List.not_mem_nil), Nat.le_refl _⟩ fun x hx => ?_
  · refine Ent.auto0 rfl ?_ ?_ <;> simp only [go_sem, reduceCtorEq, reduceIte, Nat.reduceEqDiff, Nat.reduceLT, Nat.reduceLeDiff, Int.natCast_succ, List.map_nil, zrow, hll]
  obtain ⟨i, out⟩ := x
  obtain ⟨h1, h2, h3, h4⟩ := hx
  dsimp only at h1 h2 h3 h4 ⊢
  by_cases hlt : i < n
  · have he := hget i hlt
    rw [show n - i = (n - (i + 1)) + 1 by omega, rfGo] at h2
    obtain ⟨hb, hbl⟩ := rfB_step (gap := gap) h3
    have up : RfB (i + 1) out := fun u hu => by have := h3 u hu; omega
    by_cases h0 : g i = 0
    · rw [h0] at he
      rw [if_neg (by rw [his]; simp [h0])] at h2
      (repeat' first | with_reducible (first | intro _ | refine rc ?_ | refine rl ?_ | refine rh ?_ | refine rt ?_ | refine rf ?_ | refine rs ?_ | refine And.intro ?_ ?_) | omega | simp (maxSteps := 1000000) only [go_sem, simprocAttr, ↓reduceIte, he])
      refine ⟨(i + 1, out), Ent.auto0 rfl ?_ ?_, ⟨by dsimp only; omega, h2, up, by dsimp only; omega⟩, by dsimp only; omega⟩ <;> simp only [go_sem, reduceCtorEq, reduceIte, Nat.reduceEqDiff, Nat.reduceLT, Nat.reduceLeDiff, Int.natCast_succ]
    · rw [if_pos (by rw [his]; simp [h0])] at h2
      clear his
      generalize g i = gi at *
      rcases List.eq_nil_or_concat out with rfl | ⟨o, t, rfl⟩
      · rw [jnE_nil] at h2 hb hbl
        have g2 : ∀ n, ([] : List (List AV)).getD n [] = [] := fun n => by simp
        (repeat' first | with_reducible (first | intro _ | refine rc ?_ | refine rl ?_ | refine rh ?_ | refine rt ?_ | refine rf ?_ | refine rs ?_ | refine And.intro ?_ ?_) | omega | simp (maxSteps := 1000000) only [go_sem, simprocAttr, ↓reduceIte, he, List.length_map, List.map_nil, List.length_nil, g2, List.drop_nil])
        have g7 : [toE (i, 1)].map peAv = [[.int .i64 i, .int .i64 ((i : Int) + 1)]] := rfl
        refine ⟨(i + 1, [toE (i, 1)]), Ent.auto0 rfl ?_ ?_, ⟨by dsimp only; omega, h2, hb, by dsimp only; simp⟩, by dsimp only; omega⟩ <;> simp only [go_sem, reduceCtorEq, reduceIte, Nat.reduceEqDiff, Nat.reduceLT, Nat.reduceLeDiff, Int.natCast_succ, g7, List.nil_append]
      · rw [List.concat_eq_append] at *
        have ht := h3 t (by simp)
        rw [jnE_snoc] at h2 hb hbl
        obtain ⟨t1, t2⟩ := t
        dsimp only at ht h2 hb hbl
        have hol : (o ++ [(t1, t2)]).length = o.length + 1 := by simp
        have g4 : (((o.length + 1 : Nat) : Int) - 1).toNat = o.length := by omega
        have g1 : (0 : Int) ≤ ((o.length + 1 : Nat) : Int) - 1 := by omega
        have g3 : ((o ++ [(t1, t2)]).map peAv).getD o.length [] = [.int .i64 t1, .int .i64 t2] := by
          rw [List.map_append, List.getD_eq_getElem?_getD, List.getElem?_append_right (by simp)]; simp [peAv]
        have gd1 : decide ((0 : Int) ≤ ((o.length + 1 : Nat) : Int) - 1) = true := decide_eq_true g1
        (repeat' first | with_reducible (first | intro _ | refine rc ?_ | refine rl ?_ | refine rh ?_ | refine rt ?_ | refine rf ?_ | refine rs ?_ | refine And.intro ?_ ?_) | omega | simp (maxSteps := 1000000) only [go_sem, simprocAttr, ↓reduceIte, he, List.length_map, elemA, hol, g3, g4, gd1])
        · rename_i h9
          rw [if_pos (by omega)] at h2 hb hbl
          have g5 : ((o ++ [(t1, t2)]).map peAv).set o.length [.int .i64 t1, .int .i64 ((i : Int) + 1)] = (o ++ [(t1, i + 1)]).map peAv := by
            rw [List.map_append, List.map_append, List.set_append_right _ _ (by simp)]
            simp [peAv]
          refine ⟨(i + 1, o ++ [(t1, i + 1)]), Ent.auto0 rfl ?_ ?_, ⟨by dsimp only; omega, h2, hb, by dsimp only; rw [List.length_append] at h4 ⊢; simp at h4 ⊢; omega⟩, by dsimp only; omega⟩ <;> simp only [go_sem, reduceCtorEq, reduceIte, Nat.reduceEqDiff, Nat.reduceLT, Nat.reduceLeDiff, Int.natCast_succ, g5]
        · rename_i h9
          rw [if_neg (by omega)] at h2 hb hbl
          have g6 : (o ++ [(t1, t2)] ++ [toE (i, 1)]).map peAv = (o ++ [(t1, t2)]).map peAv ++ [[.int .i64 i, .int .i64 ((i : Int) + 1)]] := by
            rw [List.map_append]; rfl
          refine ⟨(i + 1, o ++ [(t1, t2)] ++ [toE (i, 1)]), Ent.auto0 rfl ?_ ?_, ⟨by dsimp only; omega, h2, hb, by dsimp only; omega⟩, by dsimp only; omega⟩ <;> simp only [go_sem, reduceCtorEq, reduceIte, Nat.reduceEqDiff, Nat.reduceLT, Nat.reduceLeDiff, Int.natCast_succ, g6]
  · have e : i = n := by omega
    subst e
    rw [Nat.sub_self, rfGo] at h2
    subst h2
    (repeat' first | with_reducible (first | intro _ | refine rc ?_ | refine rl ?_ | refine rh ?_ | refine rt ?_ | refine rf ?_ | refine rs ?_ | refine And.intro ?_ ?_) | omega | simp (maxSteps := 1000000) only [go_sem, simprocAttr, ↓reduceIte, List.length_map])
    refine Ret.auto 1 ?_ rfl ?_ <;> simp only [go_sem, reduceCtorEq, reduceIte, Nat.reduceEqDiff, Nat.reduceLT, Nat.reduceLeDiff, Int.natCast_succ, Post]
end Go.Fv.Q
