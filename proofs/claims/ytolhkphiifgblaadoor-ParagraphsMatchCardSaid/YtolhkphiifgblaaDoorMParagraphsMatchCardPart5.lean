/-
  A part of the proof of the claim: walks over the program's functions and the plain laws that these need. No condition of its own.
-/
import Derived.Test.YtolhkphiifgblaaDoorMParagraphsMatchCardPart1
import Derived.Test.YtolhkphiifgblaaDoorFvPart9
import Derived.Test.YtolhkphiifgblaaDoorMParagraphsMatchCardPart4
namespace Go.Fv.M
open Go Go.Proofs
set_option linter.unusedSimpArgs false
set_option linter.unusedVariables false
set_option maxRecDepth 8000
theorem drop_bools {tab : List Bool} {n : Nat} (h : n < tab.length) : (tab.map AV.bool).drop n = .bool (tab.getD n false) :: (tab.map AV.bool).drop (n + 1) := by
  rw [List.drop_eq_getElem_cons (by simpa using h)]
  simp [List.getD, h]

set_option maxHeartbeats 1000000 in
theorem contains_ok (tab : List Bool) (b : Int) (hl : tab.length = 256) (h0 : 0 ≤ b) (h1 : b < 256) : FnOk Tryd.prog 122 [.cell (tab.map .bool), .int .u8 b] (.bool (tab.getD b.toNat false)) [] := by
  refine FnOk.of_vc Tryd.func122 rfl (by decide) (by simp [Tryd.f122]) [.tmp 4] rfl fun w0 T0 _ => ?_
  simp only [Tryd.f122, argEnv]
  have hd := drop_bools (tab := tab) (n := b.toNat) (by omega)
  simp (maxSteps := 1000000) only [go_sem, reduceCtorEq, Nat.reduceLT, Nat.reduceLeDiff, reduceIte, ↓reduceIte, Nat.reduceEqDiff, Nat.reduceAdd, Nat.reduceMul, Nat.reduceSub, Int.reduceLE, Int.reduceLT, Int.reduceNeg, Int.reduceToNat, Nat.mul_one, hd]
  (repeat' first | (with_reducible refine Asm.intro fun _ => ?_) | ((with_reducible refine Chk.intro ?_ ?_); (· first | omega | (with_reducible refine Chk.intro ?_ ?_ <;> omega) | (simp; done) | (simp; omega))) | ((with_reducible refine LetW.i64 ?_ ?_ ?_); (· omega); (· omega)) | ((with_reducible refine Ite.decide (fun _ => ?_) (fun _ => ?_)) <;> first | (exfalso; omega) | simp (maxSteps := 1000000) only [go_sem, reduceCtorEq, Nat.reduceLT, Nat.reduceLeDiff, reduceIte, ↓reduceIte, Nat.reduceEqDiff, Nat.reduceAdd, Nat.reduceMul, Nat.reduceSub, Int.reduceLE, Int.reduceLT, Int.reduceNeg, Int.reduceToNat]) | ((with_reducible refine Ite.bool (fun _ => ?_) (fun _ => ?_)) <;> simp (maxSteps := 1000000) only [go_sem, reduceCtorEq, Nat.reduceLT, Nat.reduceLeDiff, reduceIte, ↓reduceIte, Nat.reduceEqDiff, Nat.reduceAdd, Nat.reduceMul, Nat.reduceSub, Int.reduceLE, Int.reduceLT, Int.reduceNeg, Int.reduceToNat]) | (with_reducible refine And.intro ?_ ?_))
  refine Ret.auto 0 ?_ rfl ?_ <;> simp only [go_sem, reduceCtorEq, reduceIte, Nat.reduceEqDiff, Nat.reduceLT, Nat.reduceLeDiff, Int.natCast_succ, Post]

set_option maxHeartbeats 1000000 in
theorem trimRight_a (tab : List Bool) (hl : tab.length = 256) (ha : tab.getD 97 false = true) : FnOk Tryd.prog 108 [.str [97], .cell (tab.map .bool)] (.str []) [] := by
  refine FnOk.of_vc Tryd.func108 rfl (by decide) (by simp [Tryd.f108]) [.tmp 4] rfl fun w0 T0 _ => ?_
  simp only [Tryd.f108, argEnv]
  simp (maxSteps := 1000000) only [go_sem, reduceCtorEq, Nat.reduceLT, Nat.reduceLeDiff, reduceIte, ↓reduceIte, Nat.reduceEqDiff, Nat.reduceAdd, Nat.reduceMul, Nat.reduceSub, Int.reduceLE, Int.reduceLT, Int.reduceNeg, Int.reduceToNat]
  refine VcLoop.intro (fun k : Bool => ⟨22, [(0, .str (cond k [97] [])), (1, .cell (tab.map .bool))], [], 0⟩) (fun _ => True) (fun k => cond k 1 0) true ?_ trivial fun k _ => ?_
  · refine Ent.auto0 rfl ?_ ?_ <;> simp only [go_sem, reduceCtorEq, reduceIte, Nat.reduceEqDiff, Nat.reduceLT, Nat.reduceLeDiff, Int.natCast_succ, cond_true]
  cases k with
  | true =>
    simp (maxSteps := 1000000) only [go_sem, reduceCtorEq, Nat.reduceLT, Nat.reduceLeDiff, reduceIte, ↓reduceIte, Nat.reduceEqDiff, Nat.reduceAdd, Nat.reduceMul, Nat.reduceSub, Int.reduceLE, Int.reduceLT, Int.reduceNeg, Int.reduceToNat]
    (repeat' first | (with_reducible refine Asm.intro fun _ => ?_) | ((with_reducible refine Chk.intro ?_ ?_); (· first | omega | (with_reducible refine Chk.intro ?_ ?_ <;> omega) | (simp; done) | (simp; omega))) | ((with_reducible refine LetW.i64 ?_ ?_ ?_); (· omega); (· omega)) | ((with_reducible refine Ite.decide (fun _ => ?_) (fun _ => ?_)) <;> first | (exfalso; omega) | simp (maxSteps := 1000000) only [go_sem, reduceCtorEq, Nat.reduceLT, Nat.reduceLeDiff, reduceIte, ↓reduceIte, Nat.reduceEqDiff, Nat.reduceAdd, Nat.reduceMul, Nat.reduceSub, Int.reduceLE, Int.reduceLT, Int.reduceNeg, Int.reduceToNat]) | ((with_reducible refine Ite.bool (fun _ => ?_) (fun _ => ?_)) <;> simp (maxSteps := 1000000) only [go_sem, reduceCtorEq, Nat.reduceLT, Nat.reduceLeDiff, reduceIte, ↓reduceIte, Nat.reduceEqDiff, Nat.reduceAdd, Nat.reduceMul, Nat.reduceSub, Int.reduceLE, Int.reduceLT, Int.reduceNeg, Int.reduceToNat]) | (with_reducible refine And.intro ?_ ?_))
    have e : ((([97] : List UInt8).getD (((1 : Nat) : Int) - 1).toNat 0).toNat : Int) = 97 := rfl
    rw [e]
    refine VcCall.fr (args' := [.cell (tab.map .bool), .int .u8 97]) (FnFr.of_ok (contains_ok tab 97 hl (by omega) (by omega)) rfl rfl) (by simp [argOkL, allOk, argOkN]) 0 rfl (by simp [rowsB]) ?_
    simp (maxSteps := 1000000) only [go_sem, reduceCtorEq, Nat.reduceLT, Nat.reduceLeDiff, reduceIte, ↓reduceIte, Nat.reduceEqDiff, Nat.reduceAdd, Nat.reduceMul, Nat.reduceSub, Int.reduceLE, Int.reduceLT, Int.reduceNeg, Int.reduceToNat, ha]
    (repeat' first | (with_reducible refine Asm.intro fun _ => ?_) | ((with_reducible refine Chk.intro ?_ ?_); (· first | omega | (with_reducible refine Chk.intro ?_ ?_ <;> omega) | (simp; done) | (simp; omega))) | ((with_reducible refine LetW.i64 ?_ ?_ ?_); (· omega); (· omega)) | ((with_reducible refine Ite.decide (fun _ => ?_) (fun _ => ?_)) <;> first | (exfalso; omega) | simp (maxSteps := 1000000) only [go_sem, reduceCtorEq, Nat.reduceLT, Nat.reduceLeDiff, reduceIte, ↓reduceIte, Nat.reduceEqDiff, Nat.reduceAdd, Nat.reduceMul, Nat.reduceSub, Int.reduceLE, Int.reduceLT, Int.reduceNeg, Int.reduceToNat]) | ((with_reducible refine Ite.bool (fun _ => ?_) (fun _ => ?_)) <;> simp (maxSteps := 1000000) only [go_sem, reduceCtorEq, Nat.reduceLT, Nat.reduceLeDiff, reduceIte, ↓reduceIte, Nat.reduceEqDiff, Nat.reduceAdd, Nat.reduceMul, Nat.reduceSub, Int.reduceLE, Int.reduceLT, Int.reduceNeg, Int.reduceToNat]) | (with_reducible refine And.intro ?_ ?_))
    refine ⟨false, Ent.auto0 rfl ?_ ?_, Nat.zero_lt_one⟩ <;> simp only [go_sem, reduceCtorEq, reduceIte, Nat.reduceEqDiff, Nat.reduceLT, Nat.reduceLeDiff, Int.natCast_succ, cond_false]
    simp
  | false =>
    simp (maxSteps := 1000000) only [go_sem, reduceCtorEq, Nat.reduceLT, Nat.reduceLeDiff, reduceIte, ↓reduceIte, Nat.reduceEqDiff, Nat.reduceAdd, Nat.reduceMul, Nat.reduceSub, Int.reduceLE, Int.reduceLT, Int.reduceNeg, Int.reduceToNat]
    (repeat' first | (with_reducible refine Asm.intro fun _ => ?_) | ((with_reducible refine Chk.intro ?_ ?_); (· first | omega | (with_reducible refine Chk.intro ?_ ?_ <;> omega) | (simp; done) | (simp; omega))) | ((with_reducible refine LetW.i64 ?_ ?_ ?_); (· omega); (· omega)) | ((with_reducible refine Ite.decide (fun _ => ?_) (fun _ => ?_)) <;> first | (exfalso; omega) | simp (maxSteps := 1000000) only [go_sem, reduceCtorEq, Nat.reduceLT, Nat.reduceLeDiff, reduceIte, ↓reduceIte, Nat.reduceEqDiff, Nat.reduceAdd, Nat.reduceMul, Nat.reduceSub, Int.reduceLE, Int.reduceLT, Int.reduceNeg, Int.reduceToNat]) | ((with_reducible refine Ite.bool (fun _ => ?_) (fun _ => ?_)) <;> simp (maxSteps := 1000000) only [go_sem, reduceCtorEq, Nat.reduceLT, Nat.reduceLeDiff, reduceIte, ↓reduceIte, Nat.reduceEqDiff, Nat.reduceAdd, Nat.reduceMul, Nat.reduceSub, Int.reduceLE, Int.reduceLT, Int.reduceNeg, Int.reduceToNat]) | (with_reducible refine And.intro ?_ ?_))
    refine Ret.auto 0 ?_ rfl ?_ <;> simp only [go_sem, reduceCtorEq, reduceIte, Nat.reduceEqDiff, Nat.reduceLT, Nat.reduceLeDiff, Int.natCast_succ, Post]

set_option maxHeartbeats 1000000 in
theorem trimLeft_nil (tab : List Bool) : FnOk Tryd.prog 107 [.str [], .cell (tab.map .bool)] (.str []) [] := by
  refine FnOk.of_vc Tryd.func107 rfl (by decide) (by simp [Tryd.f107]) [.tmp 4] rfl fun w0 T0 _ => ?_
  simp only [Tryd.f107, argEnv]
  simp (maxSteps := 1000000) only [go_sem, reduceCtorEq, Nat.reduceLT, Nat.reduceLeDiff, reduceIte, ↓reduceIte, Nat.reduceEqDiff, Nat.reduceAdd, Nat.reduceMul, Nat.reduceSub, Int.reduceLE, Int.reduceLT, Int.reduceNeg, Int.reduceToNat]
  refine VcLoop.intro (fun k : Unit => ⟨16, [(0, .str [])], [], 0⟩) (fun _ => True) (fun k => 0) () ?_ trivial fun k _ => ?_
  · refine Ent.auto0 rfl ?_ ?_ <;> simp only [go_sem, reduceCtorEq, reduceIte, Nat.reduceEqDiff, Nat.reduceLT, Nat.reduceLeDiff, Int.natCast_succ]
  simp (maxSteps := 1000000) only [go_sem, reduceCtorEq, Nat.reduceLT, Nat.reduceLeDiff, reduceIte, ↓reduceIte, Nat.reduceEqDiff, Nat.reduceAdd, Nat.reduceMul, Nat.reduceSub, Int.reduceLE, Int.reduceLT, Int.reduceNeg, Int.reduceToNat]
  (repeat' first | (with_reducible refine Asm.intro fun _ => ?_) | ((with_reducible refine Chk.intro ?_ ?_); (· first | omega | (with_reducible refine Chk.intro ?_ ?_ <;> omega) | (simp; done) | (simp; omega))) | ((with_reducible refine LetW.i64 ?_ ?_ ?_); (· omega); (· omega)) | ((with_reducible refine Ite.decide (fun _ => ?_) (fun _ => ?_)) <;> first | (exfalso; omega) | simp (maxSteps := 1000000) only [go_sem, reduceCtorEq, Nat.reduceLT, Nat.reduceLeDiff, reduceIte, ↓reduceIte, Nat.reduceEqDiff, Nat.reduceAdd, Nat.reduceMul, Nat.reduceSub, Int.reduceLE, Int.reduceLT, Int.reduceNeg, Int.reduceToNat]) | ((with_reducible refine Ite.bool (fun _ => ?_) (fun _ => ?_)) <;> simp (maxSteps := 1000000) only [go_sem, reduceCtorEq, Nat.reduceLT, Nat.reduceLeDiff, reduceIte, ↓reduceIte, Nat.reduceEqDiff, Nat.reduceAdd, Nat.reduceMul, Nat.reduceSub, Int.reduceLE, Int.reduceLT, Int.reduceNeg, Int.reduceToNat]) | (with_reducible refine And.intro ?_ ?_))
  refine Ret.auto 0 ?_ rfl ?_ <;> simp only [go_sem, reduceCtorEq, reduceIte, Nat.reduceEqDiff, Nat.reduceLT, Nat.reduceLeDiff, Int.natCast_succ, Post]

theorem z123 : zeroOf Tryd.prog 123 = some (.agg (Array.replicate 256 (.bool false))) := by kernel_rfl
theorem c123 : Tryd.prog.cellsOf 123 = 256 := by kernel_rfl

attribute [go_sem] z123 c123
def asciiAt (s : List UInt8) : Nat → List Bool
  | 0 => List.replicate 256 false
  | i + 1 => (asciiAt s i).set (s.getD i 0).toNat true
theorem asciiAt_len (s : List UInt8) : ∀ i, (asciiAt s i).length = 256
  | 0 => by simp [asciiAt]
  | i + 1 => by simp [asciiAt, asciiAt_len s i]

set_option maxHeartbeats 1000000 in
theorem makeAscii_ok (s : List UInt8) (hs : ∀ i, i < s.length → (s.getD i 0).toNat < 128) : FnOk Tryd.prog 106 [.str s] (.tup [.agg ((asciiAt s s.length).map .bool), .bool true]) [] := by
  refine FnOk.of_vc Tryd.func106 rfl (by decide) (by simp [Tryd.f106]) [.cell 2 123, .tmp 3] rfl fun w0 T0 _ => ?_
  simp only [Tryd.f106, argEnv]
  simp (maxSteps := 1000000) only [go_sem, reduceCtorEq, Nat.reduceLT, Nat.reduceLeDiff, reduceIte, ↓reduceIte, Nat.reduceEqDiff, Nat.reduceAdd, Nat.reduceMul, Nat.reduceSub, Int.reduceLE, Int.reduceLT, Int.reduceNeg, Int.reduceToNat]
  refine VcLoop.intro (fun i : Nat => ⟨21, [(0, .str s), (2, .ptr 0 0), (4, .int .i64 i)], [(0, .box 123 ((asciiAt s i).map .bool))], 1⟩) (fun i => i ≤ s.length) (fun i => s.length - i) 0 ?_ (Nat.zero_le _) fun i hi => ?_
  · refine Ent.auto0 rfl ?_ ?_ <;> simp only [go_sem, reduceCtorEq, reduceIte, Nat.reduceEqDiff, Nat.reduceLT, Nat.reduceLeDiff, Int.natCast_succ, asciiAt]
  have hlen := asciiAt_len s i
  simp (maxSteps := 1000000) only [go_sem, reduceCtorEq, Nat.reduceLT, Nat.reduceLeDiff, reduceIte, ↓reduceIte, Nat.reduceEqDiff, Nat.reduceAdd, Nat.reduceMul, Nat.reduceSub, Int.reduceLE, Int.reduceLT, Int.reduceNeg, Int.reduceToNat]
  (repeat' first | (with_reducible refine Asm.intro fun _ => ?_) | ((with_reducible refine Chk.intro ?_ ?_); (· first | omega | (with_reducible refine Chk.intro ?_ ?_ <;> omega) | (simp; done) | (simp; omega))) | ((with_reducible refine LetW.i64 ?_ ?_ ?_); (· omega); (· omega)) | ((with_reducible refine Ite.decide (fun _ => ?_) (fun _ => ?_)) <;> first | (exfalso; omega) | simp (maxSteps := 1000000) only [go_sem, reduceCtorEq, Nat.reduceLT, Nat.reduceLeDiff, reduceIte, ↓reduceIte, Nat.reduceEqDiff, Nat.reduceAdd, Nat.reduceMul, Nat.reduceSub, Int.reduceLE, Int.reduceLT, Int.reduceNeg, Int.reduceToNat]) | ((with_reducible refine Ite.bool (fun _ => ?_) (fun _ => ?_)) <;> simp (maxSteps := 1000000) only [go_sem, reduceCtorEq, Nat.reduceLT, Nat.reduceLeDiff, reduceIte, ↓reduceIte, Nat.reduceEqDiff, Nat.reduceAdd, Nat.reduceMul, Nat.reduceSub, Int.reduceLE, Int.reduceLT, Int.reduceNeg, Int.reduceToNat]) | (with_reducible refine And.intro ?_ ?_))
  · have := hs i (by omega)
    omega
  · refine ⟨i + 1, Ent.auto0 rfl ?_ ?_, by omega, by omega⟩
    · simp only [go_sem, reduceCtorEq, reduceIte, Nat.reduceEqDiff, Nat.reduceLT, Nat.reduceLeDiff, Int.natCast_succ]
    · simp only [go_sem, reduceCtorEq, reduceIte, Nat.reduceEqDiff, Nat.reduceLT, Nat.reduceLeDiff, Int.natCast_succ, asciiAt]
  · have e : i = s.length := by omega
    subst e
    have e2 : ((asciiAt s s.length).map AV.bool).take 256 = (asciiAt s s.length).map AV.bool := List.take_of_length_le (by simp [hlen])
    have e3 : spl ((asciiAt s s.length).map AV.bool) 0 ((asciiAt s s.length).map AV.bool) = (asciiAt s s.length).map AV.bool := spl_all rfl
    refine Ret.auto 0 ?_ ?_ ?_ <;> simp only [go_sem, reduceCtorEq, reduceIte, Nat.reduceEqDiff, Nat.reduceLT, Nat.reduceLeDiff, Int.natCast_succ, Post, e2, e3, List.drop_zero]
    simp (maxSteps := 1000000) only [go_sem, reduceCtorEq, Nat.reduceLT, Nat.reduceLeDiff, reduceIte, ↓reduceIte, Nat.reduceEqDiff, Nat.reduceAdd, Nat.reduceMul, Nat.reduceSub, Int.reduceLE, Int.reduceLT, Int.reduceNeg, Int.reduceToNat, e2, hlen, List.length_map]

def cutset : List UInt8 := [97, 98, 99, 100, 101, 102, 103, 104, 105, 106, 107, 108, 109, 110, 111, 112, 113, 114, 115, 116, 117, 118, 119, 120, 121, 122, 48, 49, 50, 51, 52, 53, 54, 55, 56, 57, 45]
theorem cut_small : ∀ i, i < cutset.length → (cutset.getD i 0).toNat < 128 := by decide
theorem cut_a : (asciiAt cutset cutset.length).getD 97 false = true := by decide

set_option maxHeartbeats 1000000 in
theorem trim_a : FnOk Tryd.prog 89 [.str [97], .str cutset] (.str []) [] := by
  refine FnOk.of_vc Tryd.func89 rfl (by decide) (by simp [Tryd.f89]) [.tmp 4] rfl fun w0 T0 _ => ?_
  simp only [Tryd.f89, argEnv]
  have hc : ¬ cutset = [] := by decide
  have hl : cutset.length = 37 := rfl
  simp (maxSteps := 1000000) only [go_sem, reduceCtorEq, Nat.reduceLT, Nat.reduceLeDiff, reduceIte, ↓reduceIte, Nat.reduceEqDiff, Nat.reduceAdd, Nat.reduceMul, Nat.reduceSub, Int.reduceLE, Int.reduceLT, Int.reduceNeg, Int.reduceToNat, hc, hl]
  (repeat' first | (with_reducible refine Asm.intro fun _ => ?_) | ((with_reducible refine Chk.intro ?_ ?_); (· first | omega | (with_reducible refine Chk.intro ?_ ?_ <;> omega) | (simp; done) | (simp; omega))) | ((with_reducible refine LetW.i64 ?_ ?_ ?_); (· omega); (· omega)) | ((with_reducible refine Ite.decide (fun _ => ?_) (fun _ => ?_)) <;> first | (exfalso; omega) | simp (maxSteps := 1000000) only [go_sem, reduceCtorEq, Nat.reduceLT, Nat.reduceLeDiff, reduceIte, ↓reduceIte, Nat.reduceEqDiff, Nat.reduceAdd, Nat.reduceMul, Nat.reduceSub, Int.reduceLE, Int.reduceLT, Int.reduceNeg, Int.reduceToNat]) | ((with_reducible refine Ite.bool (fun _ => ?_) (fun _ => ?_)) <;> simp (maxSteps := 1000000) only [go_sem, reduceCtorEq, Nat.reduceLT, Nat.reduceLeDiff, reduceIte, ↓reduceIte, Nat.reduceEqDiff, Nat.reduceAdd, Nat.reduceMul, Nat.reduceSub, Int.reduceLE, Int.reduceLT, Int.reduceNeg, Int.reduceToNat]) | (with_reducible refine And.intro ?_ ?_))
  have hlen := asciiAt_len cutset cutset.length
  refine VcCall.fr (args' := [.str cutset]) (FnFr.of_ok (makeAscii_ok cutset cut_small) (by simp [noRo, noRoL, noRoL_bools]) rfl) (by simp [argOkL, allOk, argOkN]) 0 (by simp [Fv.below, belowL, belowL_bools]) (by simp [rowsB]) ?_
  have ha := cut_a
  generalize asciiAt cutset cutset.length = tab at hlen ha ⊢
  simp (maxSteps := 1000000) only [go_sem, reduceCtorEq, Nat.reduceLT, Nat.reduceLeDiff, reduceIte, ↓reduceIte, Nat.reduceEqDiff, Nat.reduceAdd, Nat.reduceMul, Nat.reduceSub, Int.reduceLE, Int.reduceLT, Int.reduceNeg, Int.reduceToNat]
  have e1 : spl (List.replicate 256 (AV.bool false)) 0 (tab.map .bool) = tab.map .bool := spl_all (by simp [hlen])
  refine Chk.intro (by simp [hlen]) ?_
  rw [e1]
  refine Chk.intro (by omega) ?_
  refine VcCall.fr (args' := [.str [97], .cell (tab.map .bool)]) (FnFr.of_ok (trimRight_a tab hlen ha) rfl rfl) ?_ 0 rfl (by simp [rowsB]) ?_
  · exact ⟨_, _, rfl, ⟨_, _, ⟨_, _, _, rfl, allOk_bools _ 4 _, rfl⟩, rfl, rfl⟩, rfl⟩
  simp (maxSteps := 1000000) only [go_sem, reduceCtorEq, Nat.reduceLT, Nat.reduceLeDiff, reduceIte, ↓reduceIte, Nat.reduceEqDiff, Nat.reduceAdd, Nat.reduceMul, Nat.reduceSub, Int.reduceLE, Int.reduceLT, Int.reduceNeg, Int.reduceToNat]
  refine VcCall.fr (args' := [.str [], .cell (tab.map .bool)]) (FnFr.of_ok (trimLeft_nil tab) rfl rfl) ?_ 0 rfl (by simp [rowsB]) ?_
  · exact ⟨_, _, rfl, ⟨_, _, ⟨_, _, _, rfl, allOk_bools _ 4 _, rfl⟩, rfl, rfl⟩, rfl⟩
  simp (maxSteps := 1000000) only [go_sem, reduceCtorEq, Nat.reduceLT, Nat.reduceLeDiff, reduceIte, ↓reduceIte, Nat.reduceEqDiff, Nat.reduceAdd, Nat.reduceMul, Nat.reduceSub, Int.reduceLE, Int.reduceLT, Int.reduceNeg, Int.reduceToNat]
  refine Ret.auto 0 ?_ rfl ?_ <;> simp only [go_sem, reduceCtorEq, reduceIte, Nat.reduceEqDiff, Nat.reduceLT, Nat.reduceLeDiff, Int.natCast_succ, Post]

set_option maxHeartbeats 1000000 in
theorem isName_a : FnOk Tryd.prog 45 [.str [97]] (.bool true) [] := by
  refine FnOk.of_vc Tryd.func45 rfl (by decide) (by simp [Tryd.f45]) [.tmp 2] rfl fun w0 T0 _ => ?_
  simp only [Tryd.f45, argEnv]
  simp (maxSteps := 1000000) only [go_sem, reduceCtorEq, Nat.reduceLT, Nat.reduceLeDiff, reduceIte, ↓reduceIte, Nat.reduceEqDiff, Nat.reduceAdd, Nat.reduceMul, Nat.reduceSub, Int.reduceLE, Int.reduceLT, Int.reduceNeg, Int.reduceToNat]
  (repeat' first | (with_reducible refine Asm.intro fun _ => ?_) | ((with_reducible refine Chk.intro ?_ ?_); (· first | omega | (with_reducible refine Chk.intro ?_ ?_ <;> omega) | (simp; done) | (simp; omega))) | ((with_reducible refine LetW.i64 ?_ ?_ ?_); (· omega); (· omega)) | ((with_reducible refine Ite.decide (fun _ => ?_) (fun _ => ?_)) <;> first | (exfalso; omega) | simp (maxSteps := 1000000) only [go_sem, reduceCtorEq, Nat.reduceLT, Nat.reduceLeDiff, reduceIte, ↓reduceIte, Nat.reduceEqDiff, Nat.reduceAdd, Nat.reduceMul, Nat.reduceSub, Int.reduceLE, Int.reduceLT, Int.reduceNeg, Int.reduceToNat]) | ((with_reducible refine Ite.bool (fun _ => ?_) (fun _ => ?_)) <;> simp (maxSteps := 1000000) only [go_sem, reduceCtorEq, Nat.reduceLT, Nat.reduceLeDiff, reduceIte, ↓reduceIte, Nat.reduceEqDiff, Nat.reduceAdd, Nat.reduceMul, Nat.reduceSub, Int.reduceLE, Int.reduceLT, Int.reduceNeg, Int.reduceToNat]) | (with_reducible refine And.intro ?_ ?_))
  · refine VcCall.fr (args' := [.str [97], .str cutset]) (FnFr.of_ok trim_a rfl rfl) (by simp [argOkL, allOk, argOkN, cutset]) 0 rfl (by simp [rowsB]) ?_
    simp (maxSteps := 1000000) only [go_sem, reduceCtorEq, Nat.reduceLT, Nat.reduceLeDiff, reduceIte, ↓reduceIte, Nat.reduceEqDiff, Nat.reduceAdd, Nat.reduceMul, Nat.reduceSub, Int.reduceLE, Int.reduceLT, Int.reduceNeg, Int.reduceToNat]
    (repeat' first | (with_reducible refine Asm.intro fun _ => ?_) | ((with_reducible refine Chk.intro ?_ ?_); (· first | omega | (with_reducible refine Chk.intro ?_ ?_ <;> omega) | (simp; done) | (simp; omega))) | ((with_reducible refine LetW.i64 ?_ ?_ ?_); (· omega); (· omega)) | ((with_reducible refine Ite.decide (fun _ => ?_) (fun _ => ?_)) <;> first | (exfalso; omega) | simp (maxSteps := 1000000) only [go_sem, reduceCtorEq, Nat.reduceLT, Nat.reduceLeDiff, reduceIte, ↓reduceIte, Nat.reduceEqDiff, Nat.reduceAdd, Nat.reduceMul, Nat.reduceSub, Int.reduceLE, Int.reduceLT, Int.reduceNeg, Int.reduceToNat]) | ((with_reducible refine Ite.bool (fun _ => ?_) (fun _ => ?_)) <;> simp (maxSteps := 1000000) only [go_sem, reduceCtorEq, Nat.reduceLT, Nat.reduceLeDiff, reduceIte, ↓reduceIte, Nat.reduceEqDiff, Nat.reduceAdd, Nat.reduceMul, Nat.reduceSub, Int.reduceLE, Int.reduceLT, Int.reduceNeg, Int.reduceToNat]) | (with_reducible refine And.intro ?_ ?_))
    refine Ret.auto 0 ?_ rfl ?_ <;> simp only [go_sem, reduceCtorEq, reduceIte, Nat.reduceEqDiff, Nat.reduceLT, Nat.reduceLeDiff, Int.natCast_succ, Post]
  · rename_i h
    exact (h (by decide)).elim

theorem landed_ok : FnOk Tryd.prog 8 [] (.bool true) [] := by
  refine FnOk.of_vc Tryd.func8 rfl (by decide) (by simp [Tryd.f8]) [.tmp 0] rfl fun w0 T0 _ => ?_
  simp only [Tryd.f8, argEnv]
  simp (maxSteps := 1000000) only [go_sem, reduceCtorEq, Nat.reduceLT, Nat.reduceLeDiff, reduceIte, ↓reduceIte, Nat.reduceEqDiff, Nat.reduceAdd, Nat.reduceMul, Nat.reduceSub, Int.reduceLE, Int.reduceLT, Int.reduceNeg, Int.reduceToNat]
  refine VcCall.fr (args' := [.str [97]]) (FnFr.of_ok isName_a rfl rfl) (by simp [argOkL, allOk, argOkN]) 0 rfl (by simp [rowsB]) ?_
  simp (maxSteps := 1000000) only [go_sem, reduceCtorEq, Nat.reduceLT, Nat.reduceLeDiff, reduceIte, ↓reduceIte, Nat.reduceEqDiff, Nat.reduceAdd, Nat.reduceMul, Nat.reduceSub, Int.reduceLE, Int.reduceLT, Int.reduceNeg, Int.reduceToNat]
  refine Ret.auto 0 ?_ rfl ?_ <;> simp only [go_sem, reduceCtorEq, reduceIte, Nat.reduceEqDiff, Nat.reduceLT, Nat.reduceLeDiff, Int.natCast_succ, Post]

end Go.Fv.M

/- The law ParagraphsMatch. -/
namespace Go.Fv.M
open Go Go.Proofs
set_option linter.unusedSimpArgs false
set_option linter.unusedVariables false
set_option linter.unnecessarySimpa false
set_option maxRecDepth 8000

set_option maxHeartbeats 8000000 in
theorem parasMatch_bad (l0 l : List Bx) (ind gap : Int) (hl : l0.take 60 = l) (hb : firstBad l = 3) : FnOk Tryd.prog 5 [.ro (bxs l0), .int .i64 ind, .int .i64 gap] (.bool true) [] := by
  have hmin : min (l0.length : Int) 60 = ((min l0.length 60 : Nat) : Int) := by omega
  have hsub := sub60 l0
  have hlen : l.length = min l0.length 60 := by rw [← hl]; simp [Nat.min_comm]
  rw [hl] at hsub
  have k1 := paras_bad l ind gap (by omega) hb
  have k2 := refParas_bad l ind gap (by omega) hb
  obtain ⟨P, hP⟩ : ∃ P : List (List Int), P = [] := ⟨_, rfl⟩
  have hPm : P.map gAv = [] := by rw [hP]; rfl
  have hPl : P.length = 0 := by rw [hP]; rfl
  have hP0 : sumLen P = 0 := by rw [hP]; rfl
  rw [← hPm] at k1 k2
  have kq := eqGroups_ok P
  refine FnOk.of_vc Tryd.func5 rfl (by decide) (by simp [Tryd.f5]) [.tmp 6] rfl fun w0 T0 _ => ?_
  simp only [Tryd.f5, argEnv]
  (repeat' first | with_reducible (first | refine Asm.intro fun _ => ?_ | refine Chk.g ?_ | refine AnyI.i64 fun _ _ => ?_ | refine LetW.g ?_ | refine LetW.h ?_ | refine Ite.t fun _ => ?_ | refine Ite.f fun _ => ?_ | refine Ite.decide (fun _ => ?_) fun _ => ?_ | refine Ite.bool (fun _ => ?_) fun _ => ?_ | refine And.intro ?_ ?_) | omega | simp (maxSteps := 1000000) only [go_sem, reduceCtorEq, Nat.reduceLT, Nat.reduceLeDiff, reduceIte, ↓reduceIte, Nat.reduceEqDiff, Nat.reduceAdd, Nat.reduceMul, Nat.reduceSub, Int.reduceLE, Int.reduceLT, Int.reduceNeg, Int.reduceToNat])
  refine VcCall.fr (FnFr.of_ok (landed_ok) rfl rfl) (by simp only [noIdR_ok, argOkL, argOk, allOk, argOkN, List.drop_zero, lk, reduceIte, reduceCtorEq, Nat.reduceEqDiff, Option.some.injEq, Item.row.injEq, Item.box.injEq, AV.ro.injEq, exists_eq_left, exists_and_left, exists_eq_left', exists_eq_right, and_assoc, and_true, true_and, List.cons.injEq, exists_eq', exists_eq]) 0 rfl (by simp [rowsB]) ?_
  (repeat' first | with_reducible (first | refine Asm.intro fun _ => ?_ | refine Chk.g ?_ | refine AnyI.i64 fun _ _ => ?_ | refine LetW.g ?_ | refine LetW.h ?_ | refine Ite.t fun _ => ?_ | refine Ite.f fun _ => ?_ | refine Ite.decide (fun _ => ?_) fun _ => ?_ | refine Ite.bool (fun _ => ?_) fun _ => ?_ | refine And.intro ?_ ?_) | omega | simp (maxSteps := 1000000) only [go_sem, reduceCtorEq, Nat.reduceLT, Nat.reduceLeDiff, reduceIte, ↓reduceIte, Nat.reduceEqDiff, Nat.reduceAdd, Nat.reduceMul, Nat.reduceSub, Int.reduceLE, Int.reduceLT, Int.reduceNeg, Int.reduceToNat, List.length_map, minmax, hmin, Int.toNat_natCast, hsub])
  refine VcCall.ro (.tup [.ro (.objs 1 (P.map gAv)), .int .i64 3]) (FnFr.of_ok k1 rfl (by rw [hPm]; rfl)) (by simp only [noIdR_ok, argOkL, argOk, allOk, argOkN, List.drop_zero, lk, reduceIte, reduceCtorEq, Nat.reduceEqDiff, Option.some.injEq, Item.row.injEq, Item.box.injEq, AV.ro.injEq, exists_eq_left, exists_and_left, exists_eq_left', exists_eq_right, and_assoc, and_true, true_and, List.cons.injEq, exists_eq', exists_eq]) (by simp [outOk, argOkL, allOk, argOk, argOkN, lk, noIdR_ok]) rfl ?_
  (repeat' first | with_reducible (first | refine Asm.intro fun _ => ?_ | refine Chk.g ?_ | refine AnyI.i64 fun _ _ => ?_ | refine LetW.g ?_ | refine LetW.h ?_ | refine Ite.t fun _ => ?_ | refine Ite.f fun _ => ?_ | refine Ite.decide (fun _ => ?_) fun _ => ?_ | refine Ite.bool (fun _ => ?_) fun _ => ?_ | refine And.intro ?_ ?_) | omega | simp (maxSteps := 1000000) only [go_sem, reduceCtorEq, Nat.reduceLT, Nat.reduceLeDiff, reduceIte, ↓reduceIte, Nat.reduceEqDiff, Nat.reduceAdd, Nat.reduceMul, Nat.reduceSub, Int.reduceLE, Int.reduceLT, Int.reduceNeg, Int.reduceToNat])
  refine VcCall.ro (.tup [.ro (.objs 1 (P.map gAv)), .int .i64 3]) (FnFr.of_ok k2 rfl (by rw [hPm]; rfl)) (by simp only [noIdR_ok, argOkL, argOk, allOk, argOkN, List.drop_zero, lk, reduceIte, reduceCtorEq, Nat.reduceEqDiff, Option.some.injEq, Item.row.injEq, Item.box.injEq, AV.ro.injEq, exists_eq_left, exists_and_left, exists_eq_left', exists_eq_right, and_assoc, and_true, true_and, List.cons.injEq, exists_eq', exists_eq]) (by simp [outOk, argOkL, allOk, argOk, argOkN, lk, noIdR_ok]) rfl ?_
  (repeat' first | with_reducible (first | refine Asm.intro fun _ => ?_ | refine Chk.g ?_ | refine AnyI.i64 fun _ _ => ?_ | refine LetW.g ?_ | refine LetW.h ?_ | refine Ite.t fun _ => ?_ | refine Ite.f fun _ => ?_ | refine Ite.decide (fun _ => ?_) fun _ => ?_ | refine Ite.bool (fun _ => ?_) fun _ => ?_ | refine And.intro ?_ ?_) | omega | simp (maxSteps := 1000000) only [go_sem, reduceCtorEq, Nat.reduceLT, Nat.reduceLeDiff, reduceIte, ↓reduceIte, Nat.reduceEqDiff, Nat.reduceAdd, Nat.reduceMul, Nat.reduceSub, Int.reduceLE, Int.reduceLT, Int.reduceNeg, Int.reduceToNat, List.length_map])
  refine VcLoop.intro (fun i : Nat => ⟨64, [(37, .int .i64 i), (36, .int .i64 P.length), (35, .ro (.objs 1 (P.map gAv))), (11, .int .i64 (sumLen (P.take i))), (7, .ro (.objs 1 (P.map gAv))), (8, .int .i64 3), (9, .ro (.objs 1 (P.map gAv))), (10, .int .i64 3), (0, .ro (bxs l))], [], 0⟩) (fun i => i ≤ P.length) (fun i => P.length - i) 0 ?_ (Nat.zero_le _) fun i hi => ?_
  · refine Ent.auto0 rfl ?_ ?_ <;> simp only [go_sem, reduceCtorEq, reduceIte, Nat.reduceEqDiff, Nat.reduceLT, Nat.reduceLeDiff, Int.natCast_succ, List.take_zero]
    all_goals first | rfl | simp [sumLen] | skip
  by_cases hlt : i < P.length
  · exact absurd hlt (by omega)
  have ei : i = P.length := by omega
  subst ei
  rw [List.take_length]
  (repeat' first | with_reducible (first | refine Asm.intro fun _ => ?_ | refine Chk.g ?_ | refine AnyI.i64 fun _ _ => ?_ | refine LetW.g ?_ | refine LetW.h ?_ | refine Ite.t fun _ => ?_ | refine Ite.f fun _ => ?_ | refine Ite.decide (fun _ => ?_) fun _ => ?_ | refine Ite.bool (fun _ => ?_) fun _ => ?_ | refine And.intro ?_ ?_) | omega | simp (maxSteps := 1000000) only [go_sem, reduceCtorEq, Nat.reduceLT, Nat.reduceLeDiff, reduceIte, ↓reduceIte, Nat.reduceEqDiff, Nat.reduceAdd, Nat.reduceMul, Nat.reduceSub, Int.reduceLE, Int.reduceLT, Int.reduceNeg, Int.reduceToNat, List.length_map])
  refine VcCall.fr (FnFr.of_ok (kq) rfl rfl) (by simp only [noIdR_ok, argOkL, argOk, allOk, argOkN, List.drop_zero, lk, reduceIte, reduceCtorEq, Nat.reduceEqDiff, Option.some.injEq, Item.row.injEq, Item.box.injEq, AV.ro.injEq, exists_eq_left, exists_and_left, exists_eq_left', exists_eq_right, and_assoc, and_true, true_and, List.cons.injEq, exists_eq', exists_eq]) 0 rfl (by simp [rowsB]) ?_
  (repeat' first | with_reducible (first | refine Asm.intro fun _ => ?_ | refine Chk.g ?_ | refine AnyI.i64 fun _ _ => ?_ | refine LetW.g ?_ | refine LetW.h ?_ | refine Ite.t fun _ => ?_ | refine Ite.f fun _ => ?_ | refine Ite.decide (fun _ => ?_) fun _ => ?_ | refine Ite.bool (fun _ => ?_) fun _ => ?_ | refine And.intro ?_ ?_) | omega | simp (maxSteps := 1000000) only [go_sem, reduceCtorEq, Nat.reduceLT, Nat.reduceLeDiff, reduceIte, ↓reduceIte, Nat.reduceEqDiff, Nat.reduceAdd, Nat.reduceMul, Nat.reduceSub, Int.reduceLE, Int.reduceLT, Int.reduceNeg, Int.reduceToNat, List.length_map])
  all_goals refine Ret.auto 0 ?_ rfl ?_ <;> simp only [go_sem, reduceCtorEq, reduceIte, Nat.reduceEqDiff, Nat.reduceLT, Nat.reduceLeDiff, Int.natCast_succ, Post]
  all_goals simp
set_option maxHeartbeats 8000000 in
theorem parasMatch_range (l0 l : List Bx) (ind gap : Int) (hl : l0.take 60 = l) (hok : ∀ b, b ∈ l → BxOk b) (hd : ¬ ((0 ≤ ind ∧ ind ≤ 1048576) ∧ (0 ≤ gap ∧ gap ≤ 1048576))) : FnOk Tryd.prog 5 [.ro (bxs l0), .int .i64 ind, .int .i64 gap] (.bool true) [] := by
  have hmin : min (l0.length : Int) 60 = ((min l0.length 60 : Nat) : Int) := by omega
  have hsub := sub60 l0
  have hlen : l.length = min l0.length 60 := by rw [← hl]; simp [Nat.min_comm]
  rw [hl] at hsub
  have k1 := paras_range l ind gap (by omega) hok hd
  have k2 := refParas_range l ind gap (by omega) hok hd
  obtain ⟨P, hP⟩ : ∃ P : List (List Int), P = [] := ⟨_, rfl⟩
  have hPm : P.map gAv = [] := by rw [hP]; rfl
  have hPl : P.length = 0 := by rw [hP]; rfl
  have hP0 : sumLen P = 0 := by rw [hP]; rfl
  rw [← hPm] at k1 k2
  have kq := eqGroups_ok P
  refine FnOk.of_vc Tryd.func5 rfl (by decide) (by simp [Tryd.f5]) [.tmp 6] rfl fun w0 T0 _ => ?_
  simp only [Tryd.f5, argEnv]
  (repeat' first | with_reducible (first | refine Asm.intro fun _ => ?_ | refine Chk.g ?_ | refine AnyI.i64 fun _ _ => ?_ | refine LetW.g ?_ | refine LetW.h ?_ | refine Ite.t fun _ => ?_ | refine Ite.f fun _ => ?_ | refine Ite.decide (fun _ => ?_) fun _ => ?_ | refine Ite.bool (fun _ => ?_) fun _ => ?_ | refine And.intro ?_ ?_) | omega | simp (maxSteps := 1000000) only [go_sem, reduceCtorEq, Nat.reduceLT, Nat.reduceLeDiff, reduceIte, ↓reduceIte, Nat.reduceEqDiff, Nat.reduceAdd, Nat.reduceMul, Nat.reduceSub, Int.reduceLE, Int.reduceLT, Int.reduceNeg, Int.reduceToNat])
  refine VcCall.fr (FnFr.of_ok (landed_ok) rfl rfl) (by simp only [noIdR_ok, argOkL, argOk, allOk, argOkN, List.drop_zero, lk, reduceIte, reduceCtorEq, Nat.reduceEqDiff, Option.some.injEq, Item.row.injEq, Item.box.injEq, AV.ro.injEq, exists_eq_left, exists_and_left, exists_eq_left', exists_eq_right, and_assoc, and_true, true_and, List.cons.injEq, exists_eq', exists_eq]) 0 rfl (by simp [rowsB]) ?_
  (repeat' first | with_reducible (first | refine Asm.intro fun _ => ?_ | refine Chk.g ?_ | refine AnyI.i64 fun _ _ => ?_ | refine LetW.g ?_ | refine LetW.h ?_ | refine Ite.t fun _ => ?_ | refine Ite.f fun _ => ?_ | refine Ite.decide (fun _ => ?_) fun _ => ?_ | refine Ite.bool (fun _ => ?_) fun _ => ?_ | refine And.intro ?_ ?_) | omega | simp (maxSteps := 1000000) only [go_sem, reduceCtorEq, Nat.reduceLT, Nat.reduceLeDiff, reduceIte, ↓reduceIte, Nat.reduceEqDiff, Nat.reduceAdd, Nat.reduceMul, Nat.reduceSub, Int.reduceLE, Int.reduceLT, Int.reduceNeg, Int.reduceToNat, List.length_map, minmax, hmin, Int.toNat_natCast, hsub])
  refine VcCall.ro (.tup [.ro (.objs 1 (P.map gAv)), .int .i64 3]) (FnFr.of_ok k1 rfl (by rw [hPm]; rfl)) (by simp only [noIdR_ok, argOkL, argOk, allOk, argOkN, List.drop_zero, lk, reduceIte, reduceCtorEq, Nat.reduceEqDiff, Option.some.injEq, Item.row.injEq, Item.box.injEq, AV.ro.injEq, exists_eq_left, exists_and_left, exists_eq_left', exists_eq_right, and_assoc, and_true, true_and, List.cons.injEq, exists_eq', exists_eq]) (by simp [outOk, argOkL, allOk, argOk, argOkN, lk, noIdR_ok]) rfl ?_
  (repeat' first | with_reducible (first | refine Asm.intro fun _ => ?_ | refine Chk.g ?_ | refine AnyI.i64 fun _ _ => ?_ | refine LetW.g ?_ | refine LetW.h ?_ | refine Ite.t fun _ => ?_ | refine Ite.f fun _ => ?_ | refine Ite.decide (fun _ => ?_) fun _ => ?_ | refine Ite.bool (fun _ => ?_) fun _ => ?_ | refine And.intro ?_ ?_) | omega | simp (maxSteps := 1000000) only [go_sem, reduceCtorEq, Nat.reduceLT, Nat.reduceLeDiff, reduceIte, ↓reduceIte, Nat.reduceEqDiff, Nat.reduceAdd, Nat.reduceMul, Nat.reduceSub, Int.reduceLE, Int.reduceLT, Int.reduceNeg, Int.reduceToNat])
  refine VcCall.ro (.tup [.ro (.objs 1 (P.map gAv)), .int .i64 3]) (FnFr.of_ok k2 rfl (by rw [hPm]; rfl)) (by simp only [noIdR_ok, argOkL, argOk, allOk, argOkN, List.drop_zero, lk, reduceIte, reduceCtorEq, Nat.reduceEqDiff, Option.some.injEq, Item.row.injEq, Item.box.injEq, AV.ro.injEq, exists_eq_left, exists_and_left, exists_eq_left', exists_eq_right, and_assoc, and_true, true_and, List.cons.injEq, exists_eq', exists_eq]) (by simp [outOk, argOkL, allOk, argOk, argOkN, lk, noIdR_ok]) rfl ?_
  (repeat' first | with_reducible (first | refine Asm.intro fun _ => ?_ | refine Chk.g ?_ | refine AnyI.i64 fun _ _ => ?_ | refine LetW.g ?_ | refine LetW.h ?_ | refine Ite.t fun _ => ?_ | refine Ite.f fun _ => ?_ | refine Ite.decide (fun _ => ?_) fun _ => ?_ | refine Ite.bool (fun _ => ?_) fun _ => ?_ | refine And.intro ?_ ?_) | omega | simp (maxSteps := 1000000) only [go_sem, reduceCtorEq, Nat.reduceLT, Nat.reduceLeDiff, reduceIte, ↓reduceIte, Nat.reduceEqDiff, Nat.reduceAdd, Nat.reduceMul, Nat.reduceSub, Int.reduceLE, Int.reduceLT, Int.reduceNeg, Int.reduceToNat, List.length_map])
  refine VcLoop.intro (fun i : Nat => ⟨64, [(37, .int .i64 i), (36, .int .i64 P.length), (35, .ro (.objs 1 (P.map gAv))), (11, .int .i64 (sumLen (P.take i))), (7, .ro (.objs 1 (P.map gAv))), (8, .int .i64 3), (9, .ro (.objs 1 (P.map gAv))), (10, .int .i64 3), (0, .ro (bxs l))], [], 0⟩) (fun i => i ≤ P.length) (fun i => P.length - i) 0 ?_ (Nat.zero_le _) fun i hi => ?_
  · refine Ent.auto0 rfl ?_ ?_ <;> simp only [go_sem, reduceCtorEq, reduceIte, Nat.reduceEqDiff, Nat.reduceLT, Nat.reduceLeDiff, Int.natCast_succ, List.take_zero]
    all_goals first | rfl | simp [sumLen] | skip
  by_cases hlt : i < P.length
  · exact absurd hlt (by omega)
  have ei : i = P.length := by omega
  subst ei
  rw [List.take_length]
  (repeat' first | with_reducible (first | refine Asm.intro fun _ => ?_ | refine Chk.g ?_ | refine AnyI.i64 fun _ _ => ?_ | refine LetW.g ?_ | refine LetW.h ?_ | refine Ite.t fun _ => ?_ | refine Ite.f fun _ => ?_ | refine Ite.decide (fun _ => ?_) fun _ => ?_ | refine Ite.bool (fun _ => ?_) fun _ => ?_ | refine And.intro ?_ ?_) | omega | simp (maxSteps := 1000000) only [go_sem, reduceCtorEq, Nat.reduceLT, Nat.reduceLeDiff, reduceIte, ↓reduceIte, Nat.reduceEqDiff, Nat.reduceAdd, Nat.reduceMul, Nat.reduceSub, Int.reduceLE, Int.reduceLT, Int.reduceNeg, Int.reduceToNat, List.length_map])
  refine VcCall.fr (FnFr.of_ok (kq) rfl rfl) (by simp only [noIdR_ok, argOkL, argOk, allOk, argOkN, List.drop_zero, lk, reduceIte, reduceCtorEq, Nat.reduceEqDiff, Option.some.injEq, Item.row.injEq, Item.box.injEq, AV.ro.injEq, exists_eq_left, exists_and_left, exists_eq_left', exists_eq_right, and_assoc, and_true, true_and, List.cons.injEq, exists_eq', exists_eq]) 0 rfl (by simp [rowsB]) ?_
  (repeat' first | with_reducible (first | refine Asm.intro fun _ => ?_ | refine Chk.g ?_ | refine AnyI.i64 fun _ _ => ?_ | refine LetW.g ?_ | refine LetW.h ?_ | refine Ite.t fun _ => ?_ | refine Ite.f fun _ => ?_ | refine Ite.decide (fun _ => ?_) fun _ => ?_ | refine Ite.bool (fun _ => ?_) fun _ => ?_ | refine And.intro ?_ ?_) | omega | simp (maxSteps := 1000000) only [go_sem, reduceCtorEq, Nat.reduceLT, Nat.reduceLeDiff, reduceIte, ↓reduceIte, Nat.reduceEqDiff, Nat.reduceAdd, Nat.reduceMul, Nat.reduceSub, Int.reduceLE, Int.reduceLT, Int.reduceNeg, Int.reduceToNat, List.length_map])
  all_goals refine Ret.auto 0 ?_ rfl ?_ <;> simp only [go_sem, reduceCtorEq, reduceIte, Nat.reduceEqDiff, Nat.reduceLT, Nat.reduceLeDiff, Int.natCast_succ, Post]
  all_goals simp
set_option maxHeartbeats 8000000 in
theorem parasMatch_in (l0 l : List Bx) (ind gap : Int) (hl : l0.take 60 = l) (hok : ∀ b, b ∈ l → BxOk b) (hd : (0 ≤ ind ∧ ind ≤ 1048576) ∧ (0 ≤ gap ∧ gap ≤ 1048576)) : FnOk Tryd.prog 5 [.ro (bxs l0), .int .i64 ind, .int .i64 gap] (.bool true) [] := by
  have hmin : min (l0.length : Int) 60 = ((min l0.length 60 : Nat) : Int) := by omega
  have hsub := sub60 l0
  have hlen : l.length = min l0.length 60 := by rw [← hl]; simp [Nat.min_comm]
  rw [hl] at hsub
  have k1 := paras_ok l ind gap (by omega) hok hd
  have k2 := refParas_ok l ind gap (by omega) hok hd
  have hsum := paN_sum l ind gap l.length
  have hPl := (paN_len l ind gap l.length).1
  generalize (paN l ind gap l.length).all = P at *
  have kq := eqGroups_ok P
  refine FnOk.of_vc Tryd.func5 rfl (by decide) (by simp [Tryd.f5]) [.tmp 6] rfl fun w0 T0 _ => ?_
  simp only [Tryd.f5, argEnv]
  (repeat' first | with_reducible (first | refine Asm.intro fun _ => ?_ | refine Chk.g ?_ | refine AnyI.i64 fun _ _ => ?_ | refine LetW.g ?_ | refine LetW.h ?_ | refine Ite.t fun _ => ?_ | refine Ite.f fun _ => ?_ | refine Ite.decide (fun _ => ?_) fun _ => ?_ | refine Ite.bool (fun _ => ?_) fun _ => ?_ | refine And.intro ?_ ?_) | omega | simp (maxSteps := 1000000) only [go_sem, reduceCtorEq, Nat.reduceLT, Nat.reduceLeDiff, reduceIte, ↓reduceIte, Nat.reduceEqDiff, Nat.reduceAdd, Nat.reduceMul, Nat.reduceSub, Int.reduceLE, Int.reduceLT, Int.reduceNeg, Int.reduceToNat])
  refine VcCall.fr (FnFr.of_ok (landed_ok) rfl rfl) (by simp only [noIdR_ok, argOkL, argOk, allOk, argOkN, List.drop_zero, lk, reduceIte, reduceCtorEq, Nat.reduceEqDiff, Option.some.injEq, Item.row.injEq, Item.box.injEq, AV.ro.injEq, exists_eq_left, exists_and_left, exists_eq_left', exists_eq_right, and_assoc, and_true, true_and, List.cons.injEq, exists_eq', exists_eq]) 0 rfl (by simp [rowsB]) ?_
  (repeat' first | with_reducible (first | refine Asm.intro fun _ => ?_ | refine Chk.g ?_ | refine AnyI.i64 fun _ _ => ?_ | refine LetW.g ?_ | refine LetW.h ?_ | refine Ite.t fun _ => ?_ | refine Ite.f fun _ => ?_ | refine Ite.decide (fun _ => ?_) fun _ => ?_ | refine Ite.bool (fun _ => ?_) fun _ => ?_ | refine And.intro ?_ ?_) | omega | simp (maxSteps := 1000000) only [go_sem, reduceCtorEq, Nat.reduceLT, Nat.reduceLeDiff, reduceIte, ↓reduceIte, Nat.reduceEqDiff, Nat.reduceAdd, Nat.reduceMul, Nat.reduceSub, Int.reduceLE, Int.reduceLT, Int.reduceNeg, Int.reduceToNat, List.length_map, minmax, hmin, Int.toNat_natCast, hsub])
  refine VcCall.ros (.tup [.ro (.objs 1 (P.map gAv)), .int .i64 0]) k1 (by simp only [noIdR_ok, argOkL, argOk, allOk, argOkN, List.drop_zero, lk, reduceIte, reduceCtorEq, Nat.reduceEqDiff, Option.some.injEq, Item.row.injEq, Item.box.injEq, AV.ro.injEq, exists_eq_left, exists_and_left, exists_eq_left', exists_eq_right, and_assoc, and_true, true_and, List.cons.injEq, exists_eq', exists_eq]) (by simp [outOk, argOkL, allOk, argOk, argOkN, lk, noIdR_ok]) rfl ?_
  (repeat' first | with_reducible (first | refine Asm.intro fun _ => ?_ | refine Chk.g ?_ | refine AnyI.i64 fun _ _ => ?_ | refine LetW.g ?_ | refine LetW.h ?_ | refine Ite.t fun _ => ?_ | refine Ite.f fun _ => ?_ | refine Ite.decide (fun _ => ?_) fun _ => ?_ | refine Ite.bool (fun _ => ?_) fun _ => ?_ | refine And.intro ?_ ?_) | omega | simp (maxSteps := 1000000) only [go_sem, reduceCtorEq, Nat.reduceLT, Nat.reduceLeDiff, reduceIte, ↓reduceIte, Nat.reduceEqDiff, Nat.reduceAdd, Nat.reduceMul, Nat.reduceSub, Int.reduceLE, Int.reduceLT, Int.reduceNeg, Int.reduceToNat])
  refine VcCall.ros (.tup [.ro (.objs 1 (P.map gAv)), .int .i64 0]) k2 (by simp only [noIdR_ok, argOkL, argOk, allOk, argOkN, List.drop_zero, lk, reduceIte, reduceCtorEq, Nat.reduceEqDiff, Option.some.injEq, Item.row.injEq, Item.box.injEq, AV.ro.injEq, exists_eq_left, exists_and_left, exists_eq_left', exists_eq_right, and_assoc, and_true, true_and, List.cons.injEq, exists_eq', exists_eq]) (by simp [outOk, argOkL, allOk, argOk, argOkN, lk, noIdR_ok]) rfl ?_
  (repeat' first | with_reducible (first | refine Asm.intro fun _ => ?_ | refine Chk.g ?_ | refine AnyI.i64 fun _ _ => ?_ | refine LetW.g ?_ | refine LetW.h ?_ | refine Ite.t fun _ => ?_ | refine Ite.f fun _ => ?_ | refine Ite.decide (fun _ => ?_) fun _ => ?_ | refine Ite.bool (fun _ => ?_) fun _ => ?_ | refine And.intro ?_ ?_) | omega | simp (maxSteps := 1000000) only [go_sem, reduceCtorEq, Nat.reduceLT, Nat.reduceLeDiff, reduceIte, ↓reduceIte, Nat.reduceEqDiff, Nat.reduceAdd, Nat.reduceMul, Nat.reduceSub, Int.reduceLE, Int.reduceLT, Int.reduceNeg, Int.reduceToNat, List.length_map])
  refine VcLoop.intro (fun i : Nat => ⟨64, [(37, .int .i64 i), (36, .int .i64 P.length), (35, .ro (.objs 1 (P.map gAv))), (11, .int .i64 (sumLen (P.take i))), (7, .ro (.objs 1 (P.map gAv))), (8, .int .i64 0), (9, .ro (.objs 1 (P.map gAv))), (10, .int .i64 0), (0, .ro (bxs l))], [], 0⟩) (fun i => i ≤ P.length) (fun i => P.length - i) 0 ?_ (Nat.zero_le _) fun i hi => ?_
  · refine Ent.auto0 rfl ?_ ?_ <;> simp only [go_sem, reduceCtorEq, reduceIte, Nat.reduceEqDiff, Nat.reduceLT, Nat.reduceLeDiff, Int.natCast_succ, List.take_zero]
    all_goals first | rfl | simp [sumLen] | skip
  by_cases hlt : i < P.length
  · have hel := g_elem P hlt
    have hst := sumLen_take hlt
    have hle := sumLen_le P (i + 1)
    generalize P.getD i [] = g at *
    (repeat' first | with_reducible (first | refine Asm.intro fun _ => ?_ | refine Chk.g ?_ | refine AnyI.i64 fun _ _ => ?_ | refine LetW.g ?_ | refine LetW.h ?_ | refine Ite.t fun _ => ?_ | refine Ite.f fun _ => ?_ | refine Ite.decide (fun _ => ?_) fun _ => ?_ | refine Ite.bool (fun _ => ?_) fun _ => ?_ | refine And.intro ?_ ?_) | omega | simp (maxSteps := 1000000) only [go_sem, reduceCtorEq, Nat.reduceLT, Nat.reduceLeDiff, reduceIte, ↓reduceIte, Nat.reduceEqDiff, Nat.reduceAdd, Nat.reduceMul, Nat.reduceSub, Int.reduceLE, Int.reduceLT, Int.reduceNeg, Int.reduceToNat, elemA, hel, Int.toNat_natCast, List.length_map])
    refine ⟨i + 1, Ent.auto0 rfl ?_ ?_, by omega, by omega⟩ <;> simp only [go_sem, reduceCtorEq, reduceIte, Nat.reduceEqDiff, Nat.reduceLT, Nat.reduceLeDiff, Int.natCast_succ, hst]
    all_goals first | rfl | omega | skip
  have ei : i = P.length := by omega
  subst ei
  rw [List.take_length]
  rw [hsum]
  (repeat' first | with_reducible (first | refine Asm.intro fun _ => ?_ | refine Chk.g ?_ | refine AnyI.i64 fun _ _ => ?_ | refine LetW.g ?_ | refine LetW.h ?_ | refine Ite.t fun _ => ?_ | refine Ite.f fun _ => ?_ | refine Ite.decide (fun _ => ?_) fun _ => ?_ | refine Ite.bool (fun _ => ?_) fun _ => ?_ | refine And.intro ?_ ?_) | omega | simp (maxSteps := 1000000) only [go_sem, reduceCtorEq, Nat.reduceLT, Nat.reduceLeDiff, reduceIte, ↓reduceIte, Nat.reduceEqDiff, Nat.reduceAdd, Nat.reduceMul, Nat.reduceSub, Int.reduceLE, Int.reduceLT, Int.reduceNeg, Int.reduceToNat, List.length_map])
  refine VcCall.fr (FnFr.of_ok (kq) rfl rfl) (by simp only [noIdR_ok, argOkL, argOk, allOk, argOkN, List.drop_zero, lk, reduceIte, reduceCtorEq, Nat.reduceEqDiff, Option.some.injEq, Item.row.injEq, Item.box.injEq, AV.ro.injEq, exists_eq_left, exists_and_left, exists_eq_left', exists_eq_right, and_assoc, and_true, true_and, List.cons.injEq, exists_eq', exists_eq]) 0 rfl (by simp [rowsB]) ?_
  (repeat' first | with_reducible (first | refine Asm.intro fun _ => ?_ | refine Chk.g ?_ | refine AnyI.i64 fun _ _ => ?_ | refine LetW.g ?_ | refine LetW.h ?_ | refine Ite.t fun _ => ?_ | refine Ite.f fun _ => ?_ | refine Ite.decide (fun _ => ?_) fun _ => ?_ | refine Ite.bool (fun _ => ?_) fun _ => ?_ | refine And.intro ?_ ?_) | omega | simp (maxSteps := 1000000) only [go_sem, reduceCtorEq, Nat.reduceLT, Nat.reduceLeDiff, reduceIte, ↓reduceIte, Nat.reduceEqDiff, Nat.reduceAdd, Nat.reduceMul, Nat.reduceSub, Int.reduceLE, Int.reduceLT, Int.reduceNeg, Int.reduceToNat, List.length_map])
  all_goals refine Ret.auto 0 ?_ rfl ?_ <;> simp only [go_sem, reduceCtorEq, reduceIte, Nat.reduceEqDiff, Nat.reduceLT, Nat.reduceLeDiff, Int.natCast_succ, Post]
  all_goals trace_state
theorem paragraphsMatch_ok (l : List Bx) (ind gap : Int) : FnOk Tryd.prog 5 [.ro (bxs l), .int .i64 ind, .int .i64 gap] (.bool true) [] := by
  by_cases hok : ∀ b, b ∈ l.take 60 → BxOk b
  · by_cases hd : (0 ≤ ind ∧ ind ≤ 1048576) ∧ (0 ≤ gap ∧ gap ≤ 1048576)
    · exact parasMatch_in l _ ind gap rfl hok hd
    · exact parasMatch_range l _ ind gap rfl hok hd
  · exact parasMatch_bad l _ ind gap rfl ((firstBad_cases _).resolve_left fun e => hok (firstBad_zero.1 e))
end Go.Fv.M
