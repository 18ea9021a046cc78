/-
  A part of the proof of the claim: walks over the program's functions and the plain laws that these need. No condition of its own.
-/
import Derived.Test.YtmfhpdfebmhclaaDoorTTopCopiesCardPart1
import Derived.Test.YtmfhpdfebmhclaaDoorFvPart9
import Derived.Shelf.Strings.Shaped
import Derived.Test.YtmfhpdfebmhclaaDoorFvPart4
namespace Go.Fv.T
open Go Go.Proofs
set_option linter.unusedSimpArgs false
set_option linter.unusedVariables false
set_option maxRecDepth 8000
theorem drop_bools {tab : List Bool} {n : Nat} (h : n < tab.length) : (tab.map AV.bool).drop n = .bool (tab.getD n false) :: (tab.map AV.bool).drop (n + 1) := by
  rw [List.drop_eq_getElem_cons (by simpa using h)]
  simp [List.getD, h]

set_option maxHeartbeats 1000000 in
theorem contains_ok (tab : List Bool) (b : Int) (hl : tab.length = 256) (h0 : 0 ≤ b) (h1 : b < 256) : FnOk Tryd.prog 60 [.cell (tab.map .bool), .int .u8 b] (.bool (tab.getD b.toNat false)) [] := by
  refine FnOk.of_vc Tryd.func60 rfl (by decide) (by simp [Tryd.f60]) [.tmp 4] rfl fun w0 T0 _ => ?_
  simp only [Tryd.f60, argEnv]
  have hd := drop_bools (tab := tab) (n := b.toNat) (by omega)
  simp (maxSteps := 1000000) only [go_sem, reduceCtorEq, Nat.reduceLT, Nat.reduceLeDiff, reduceIte, ↓reduceIte, Nat.reduceEqDiff, Nat.reduceAdd, Nat.reduceMul, Nat.reduceSub, Int.reduceLE, Int.reduceLT, Int.reduceNeg, Int.reduceToNat, Nat.mul_one, hd]
  (repeat' first | (with_reducible refine Asm.intro fun _ => ?_) | ((with_reducible refine Chk.intro ?_ ?_); (· first | omega | (with_reducible refine Chk.intro ?_ ?_ <;> omega) | (simp; done) | (simp; omega))) | ((with_reducible refine LetW.i64 ?_ ?_ ?_); (· omega); (· omega)) | ((with_reducible refine Ite.decide (fun _ => ?_) (fun _ => ?_)) <;> first | (exfalso; omega) | simp (maxSteps := 1000000) only [go_sem, reduceCtorEq, Nat.reduceLT, Nat.reduceLeDiff, reduceIte, ↓reduceIte, Nat.reduceEqDiff, Nat.reduceAdd, Nat.reduceMul, Nat.reduceSub, Int.reduceLE, Int.reduceLT, Int.reduceNeg, Int.reduceToNat]) | ((with_reducible refine Ite.bool (fun _ => ?_) (fun _ => ?_)) <;> simp (maxSteps := 1000000) only [go_sem, reduceCtorEq, Nat.reduceLT, Nat.reduceLeDiff, reduceIte, ↓reduceIte, Nat.reduceEqDiff, Nat.reduceAdd, Nat.reduceMul, Nat.reduceSub, Int.reduceLE, Int.reduceLT, Int.reduceNeg, Int.reduceToNat]) | (with_reducible refine And.intro ?_ ?_))
  refine Ret.auto 0 ?_ rfl ?_ <;> simp only [go_sem, reduceCtorEq, reduceIte, Nat.reduceEqDiff, Nat.reduceLT, Nat.reduceLeDiff, Int.natCast_succ, Post]

set_option maxHeartbeats 1000000 in
theorem trimRight_a (tab : List Bool) (hl : tab.length = 256) (ha : tab.getD 97 false = true) : FnOk Tryd.prog 49 [.str [97], .cell (tab.map .bool)] (.str []) [] := by
  refine FnOk.of_vc Tryd.func49 rfl (by decide) (by simp [Tryd.f49]) [.tmp 4] rfl fun w0 T0 _ => ?_
  simp only [Tryd.f49, argEnv]
  simp (maxSteps := 1000000) only [go_sem, reduceCtorEq, Nat.reduceLT, Nat.reduceLeDiff, reduceIte, ↓reduceIte, Nat.reduceEqDiff, Nat.reduceAdd, Nat.reduceMul, Nat.reduceSub, Int.reduceLE, Int.reduceLT, Int.reduceNeg, Int.reduceToNat]
  refine VcLoop.intro (fun k : Bool => ⟨22, [(0, .str (cond k [97] [])), (1, .cell (tab.map .bool))], [], 0⟩) (fun _ => True) (fun k => cond k 1 0) true ?_ trivial fun k _ => ?_
  · refine Ent.auto0 rfl ?_ ?_ <;> simp only [go_sem, reduceCtorEq, reduceIte, Nat.reduceEqDiff, Nat.reduceLT, Nat.reduceLeDiff, Int.natCast_succ, cond_true]
  cases k with
  | true =>
    simp (maxSteps := 1000000) only [go_sem, reduceCtorEq, Nat.reduceLT, Nat.reduceLeDiff, reduceIte, ↓reduceIte, Nat.reduceEqDiff, Nat.reduceAdd, Nat.reduceMul, Nat.reduceSub, Int.reduceLE, Int.reduceLT, Int.reduceNeg, Int.reduceToNat]
    (repeat' first | (with_reducible refine Asm.intro fun _ => ?_) | ((with_reducible refine Chk.intro ?_ ?_); (· first | omega | (with_reducible refine Chk.intro ?_ ?_ <;> omega) | (simp; done) | (simp; omega))) | ((with_reducible refine LetW.i64 ?_ ?_ ?_); (· omega); (· omega)) | ((with_reducible refine Ite.decide (fun _ => ?_) (fun _ => ?_)) <;> first | (exfalso; omega) | simp (maxSteps := 1000000) only [go_sem, reduceCtorEq, Nat.reduceLT, Nat.reduceLeDiff, reduceIte, ↓reduceIte, Nat.reduceEqDiff, Nat.reduceAdd, Nat.reduceMul, Nat.reduceSub, Int.reduceLE, Int.reduceLT, Int.reduceNeg, Int.reduceToNat]) | ((with_reducible refine Ite.bool (fun _ => ?_) (fun _ => ?_)) <;> simp (maxSteps := 1000000) only [go_sem, reduceCtorEq, Nat.reduceLT, Nat.reduceLeDiff, reduceIte, ↓reduceIte, Nat.reduceEqDiff, Nat.reduceAdd, Nat.reduceMul, Nat.reduceSub, Int.reduceLE, Int.reduceLT, Int.reduceNeg, Int.reduceToNat]) | (with_reducible refine And.intro ?_ ?_))
    have e : ((([97] : List UInt8).getD (((1 : Nat) : Int) - 1).toNat 0).toNat : Int) = 97 := rfl
    rw [e]
    refine VcCall.fr (args' := [.cell (tab.map .bool), .int .u8 97]) (FnFr.of_ok (contains_ok tab 97 hl (by omega) (by omega)) rfl rfl) (by simp [argOkL, allOk, argOkN]) 0 rfl (by simp [rowsB]) ?_
    simp (maxSteps := 1000000) only [go_sem, reduceCtorEq, Nat.reduceLT, Nat.reduceLeDiff, reduceIte, ↓reduceIte, Nat.reduceEqDiff, Nat.reduceAdd, Nat.reduceMul, Nat.reduceSub, Int.reduceLE, Int.reduceLT, Int.reduceNeg, Int.reduceToNat, ha]
    (repeat' first | (with_reducible refine Asm.intro fun _ => ?_) | ((with_reducible refine Chk.intro ?_ ?_); (· first | omega | (with_reducible refine Chk.intro ?_ ?_ <;> omega) | (simp; done) | (simp; omega))) | ((with_reducible refine LetW.i64 ?_ ?_ ?_); (· omega); (· omega)) | ((with_reducible refine Ite.decide (fun _ => ?_) (fun _ => ?_)) <;> first | (exfalso; omega) | simp (maxSteps := 1000000) only [go_sem, reduceCtorEq, Nat.reduceLT, Nat.reduceLeDiff, reduceIte, ↓reduceIte, Nat.reduceEqDiff, Nat.reduceAdd, Nat.reduceMul, Nat.reduceSub, Int.reduceLE, Int.reduceLT, Int.reduceNeg, Int.reduceToNat]) | ((with_reducible refine Ite.bool (fun _ => ?_) (fun _ => ?_)) <;> simp (maxSteps := 1000000) only [go_sem, reduceCtorEq, Nat.reduceLT, Nat.reduceLeDiff, reduceIte, ↓reduceIte, Nat.reduceEqDiff, Nat.reduceAdd, Nat.reduceMul, Nat.reduceSub, Int.reduceLE, Int.reduceLT, Int.reduceNeg, Int.reduceToNat]) | (with_reducible refine And.intro ?_ ?_))
    refine ⟨false, Ent.auto0 rfl ?_ ?_, Nat.zero_lt_one⟩ <;> simp only [go_sem, reduceCtorEq, reduceIte, Nat.reduceEqDiff, Nat.reduceLT, Nat.reduceLeDiff, Int.natCast_succ, cond_false]
    simp
  | false =>
    simp (maxSteps := 1000000) only [go_sem, reduceCtorEq, Nat.reduceLT, Nat.reduceLeDiff, reduceIte, ↓reduceIte, Nat.reduceEqDiff, Nat.reduceAdd, Nat.reduceMul, Nat.reduceSub, Int.reduceLE, Int.reduceLT, Int.reduceNeg, Int.reduceToNat]
    (repeat' first | (with_reducible refine Asm.intro fun _ => ?_) | ((with_reducible refine Chk.intro ?_ ?_); (· first | omega | (with_reducible refine Chk.intro ?_ ?_ <;> omega) | (simp; done) | (simp; omega))) | ((with_reducible refine LetW.i64 ?_ ?_ ?_); (· omega); (· omega)) | ((with_reducible refine Ite.decide (fun _ => ?_) (fun _ => ?_)) <;> first | (exfalso; omega) | simp (maxSteps := 1000000) only [go_sem, reduceCtorEq, Nat.reduceLT, Nat.reduceLeDiff, reduceIte, ↓reduceIte, Nat.reduceEqDiff, Nat.reduceAdd, Nat.reduceMul, Nat.reduceSub, Int.reduceLE, Int.reduceLT, Int.reduceNeg, Int.reduceToNat]) | ((with_reducible refine Ite.bool (fun _ => ?_) (fun _ => ?_)) <;> simp (maxSteps := 1000000) only [go_sem, reduceCtorEq, Nat.reduceLT, Nat.reduceLeDiff, reduceIte, ↓reduceIte, Nat.reduceEqDiff, Nat.reduceAdd, Nat.reduceMul, Nat.reduceSub, Int.reduceLE, Int.reduceLT, Int.reduceNeg, Int.reduceToNat]) | (with_reducible refine And.intro ?_ ?_))
    refine Ret.auto 0 ?_ rfl ?_ <;> simp only [go_sem, reduceCtorEq, reduceIte, Nat.reduceEqDiff, Nat.reduceLT, Nat.reduceLeDiff, Int.natCast_succ, Post]

set_option maxHeartbeats 1000000 in
theorem trimLeft_nil (tab : List Bool) : FnOk Tryd.prog 48 [.str [], .cell (tab.map .bool)] (.str []) [] := by
  refine FnOk.of_vc Tryd.func48 rfl (by decide) (by simp [Tryd.f48]) [.tmp 4] rfl fun w0 T0 _ => ?_
  simp only [Tryd.f48, argEnv]
  simp (maxSteps := 1000000) only [go_sem, reduceCtorEq, Nat.reduceLT, Nat.reduceLeDiff, reduceIte, ↓reduceIte, Nat.reduceEqDiff, Nat.reduceAdd, Nat.reduceMul, Nat.reduceSub, Int.reduceLE, Int.reduceLT, Int.reduceNeg, Int.reduceToNat]
  refine VcLoop.intro (fun k : Unit => ⟨16, [(0, .str [])], [], 0⟩) (fun _ => True) (fun k => 0) () ?_ trivial fun k _ => ?_
  · refine Ent.auto0 rfl ?_ ?_ <;> simp only [go_sem, reduceCtorEq, reduceIte, Nat.reduceEqDiff, Nat.reduceLT, Nat.reduceLeDiff, Int.natCast_succ]
  simp (maxSteps := 1000000) only [go_sem, reduceCtorEq, Nat.reduceLT, Nat.reduceLeDiff, reduceIte, ↓reduceIte, Nat.reduceEqDiff, Nat.reduceAdd, Nat.reduceMul, Nat.reduceSub, Int.reduceLE, Int.reduceLT, Int.reduceNeg, Int.reduceToNat]
  (repeat' first | (with_reducible refine Asm.intro fun _ => ?_) | ((with_reducible refine Chk.intro ?_ ?_); (· first | omega | (with_reducible refine Chk.intro ?_ ?_ <;> omega) | (simp; done) | (simp; omega))) | ((with_reducible refine LetW.i64 ?_ ?_ ?_); (· omega); (· omega)) | ((with_reducible refine Ite.decide (fun _ => ?_) (fun _ => ?_)) <;> first | (exfalso; omega) | simp (maxSteps := 1000000) only [go_sem, reduceCtorEq, Nat.reduceLT, Nat.reduceLeDiff, reduceIte, ↓reduceIte, Nat.reduceEqDiff, Nat.reduceAdd, Nat.reduceMul, Nat.reduceSub, Int.reduceLE, Int.reduceLT, Int.reduceNeg, Int.reduceToNat]) | ((with_reducible refine Ite.bool (fun _ => ?_) (fun _ => ?_)) <;> simp (maxSteps := 1000000) only [go_sem, reduceCtorEq, Nat.reduceLT, Nat.reduceLeDiff, reduceIte, ↓reduceIte, Nat.reduceEqDiff, Nat.reduceAdd, Nat.reduceMul, Nat.reduceSub, Int.reduceLE, Int.reduceLT, Int.reduceNeg, Int.reduceToNat]) | (with_reducible refine And.intro ?_ ?_))
  refine Ret.auto 0 ?_ rfl ?_ <;> simp only [go_sem, reduceCtorEq, reduceIte, Nat.reduceEqDiff, Nat.reduceLT, Nat.reduceLeDiff, Int.natCast_succ, Post]

theorem z88 : zeroOf Tryd.prog 88 = some (.agg (Array.replicate 256 (.bool false))) := by kernel_rfl
theorem c88 : Tryd.prog.cellsOf 88 = 256 := by kernel_rfl

attribute [go_sem] z88 c88
def asciiAt (s : List UInt8) : Nat → List Bool
  | 0 => List.replicate 256 false
  | i + 1 => (asciiAt s i).set (s.getD i 0).toNat true
theorem asciiAt_len (s : List UInt8) : ∀ i, (asciiAt s i).length = 256
  | 0 => by simp [asciiAt]
  | i + 1 => by simp [asciiAt, asciiAt_len s i]

set_option maxHeartbeats 1000000 in
theorem makeAscii_ok (s : List UInt8) (hs : ∀ i, i < s.length → (s.getD i 0).toNat < 128) : FnOk Tryd.prog 47 [.str s] (.tup [.agg ((asciiAt s s.length).map .bool), .bool true]) [] := by
  refine FnOk.of_vc Tryd.func47 rfl (by decide) (by simp [Tryd.f47]) [.cell 2 88, .tmp 3] rfl fun w0 T0 _ => ?_
  simp only [Tryd.f47, argEnv]
  simp (maxSteps := 1000000) only [go_sem, reduceCtorEq, Nat.reduceLT, Nat.reduceLeDiff, reduceIte, ↓reduceIte, Nat.reduceEqDiff, Nat.reduceAdd, Nat.reduceMul, Nat.reduceSub, Int.reduceLE, Int.reduceLT, Int.reduceNeg, Int.reduceToNat]
  refine VcLoop.intro (fun i : Nat => ⟨21, [(0, .str s), (2, .ptr 0 0), (4, .int .i64 i)], [(0, .box 88 ((asciiAt s i).map .bool))], 1⟩) (fun i => i ≤ s.length) (fun i => s.length - i) 0 ?_ (Nat.zero_le _) fun i hi => ?_
  · refine Ent.auto0 rfl ?_ ?_ <;> simp only [go_sem, reduceCtorEq, reduceIte, Nat.reduceEqDiff, Nat.reduceLT, Nat.reduceLeDiff, Int.natCast_succ, asciiAt]
  have hlen := asciiAt_len s i
  simp (maxSteps := 1000000) only [go_sem, reduceCtorEq, Nat.reduceLT, Nat.reduceLeDiff, reduceIte, ↓reduceIte, Nat.reduceEqDiff, Nat.reduceAdd, Nat.reduceMul, Nat.reduceSub, Int.reduceLE, Int.reduceLT, Int.reduceNeg, Int.reduceToNat]
  (repeat' first | (with_reducible refine Asm.intro fun _ => ?_) | ((with_reducible refine Chk.intro ?_ ?_); (· first | omega | (with_reducible refine Chk.intro ?_ ?_ <;> omega) | (simp; done) | (simp; omega))) | ((with_reducible refine LetW.i64 ?_ ?_ ?_); (· omega); (· omega)) | ((with_reducible refine Ite.decide (fun _ => ?_) (fun _ => ?_)) <;> first | (exfalso; omega) | simp (maxSteps := 1000000) only [go_sem, reduceCtorEq, Nat.reduceLT, Nat.reduceLeDiff, reduceIte, ↓reduceIte, Nat.reduceEqDiff, Nat.reduceAdd, Nat.reduceMul, Nat.reduceSub, Int.reduceLE, Int.reduceLT, Int.reduceNeg, Int.reduceToNat]) | ((with_reducible refine Ite.bool (fun _ => ?_) (fun _ => ?_)) <;> simp (maxSteps := 1000000) only [go_sem, reduceCtorEq, Nat.reduceLT, Nat.reduceLeDiff, reduceIte, ↓reduceIte, Nat.reduceEqDiff, Nat.reduceAdd, Nat.reduceMul, Nat.reduceSub, Int.reduceLE, Int.reduceLT, Int.reduceNeg, Int.reduceToNat]) | (with_reducible refine And.intro ?_ ?_))
  · have := hs i (by omega)
    omega
  · refine ⟨i + 1, Ent.auto0 rfl ?_ ?_, by omega, by omega⟩
    · simp only [go_sem, reduceCtorEq, reduceIte, Nat.reduceEqDiff, Nat.reduceLT, Nat.reduceLeDiff, Int.natCast_succ]
    · simp only [go_sem, reduceCtorEq, reduceIte, Nat.reduceEqDiff, Nat.reduceLT, Nat.reduceLeDiff, Int.natCast_succ, asciiAt]
  · have e : i = s.length := by omega
    subst e
    have e2 : ((asciiAt s s.length).map AV.bool).take 256 = (asciiAt s s.length).map AV.bool := List.take_of_length_le (by simp [hlen])
    have e3 : spl ((asciiAt s s.length).map AV.bool) 0 ((asciiAt s s.length).map AV.bool) = (asciiAt s s.length).map AV.bool := spl_all rfl
    refine Ret.auto 0 ?_ ?_ ?_ <;> simp only [go_sem, reduceCtorEq, reduceIte, Nat.reduceEqDiff, Nat.reduceLT, Nat.reduceLeDiff, Int.natCast_succ, Post, e2, e3, List.drop_zero]
    simp (maxSteps := 1000000) only [go_sem, reduceCtorEq, Nat.reduceLT, Nat.reduceLeDiff, reduceIte, ↓reduceIte, Nat.reduceEqDiff, Nat.reduceAdd, Nat.reduceMul, Nat.reduceSub, Int.reduceLE, Int.reduceLT, Int.reduceNeg, Int.reduceToNat, e2, hlen, List.length_map]

def cutset : List UInt8 := [97, 98, 99, 100, 101, 102, 103, 104, 105, 106, 107, 108, 109, 110, 111, 112, 113, 114, 115, 116, 117, 118, 119, 120, 121, 122, 48, 49, 50, 51, 52, 53, 54, 55, 56, 57, 45]
theorem cut_small : ∀ i, i < cutset.length → (cutset.getD i 0).toNat < 128 := by decide
theorem cut_a : (asciiAt cutset cutset.length).getD 97 false = true := by decide

set_option maxHeartbeats 1000000 in
theorem trim_a : FnOk Tryd.prog 32 [.str [97], .str cutset] (.str []) [] := by
  refine FnOk.of_vc Tryd.func32 rfl (by decide) (by simp [Tryd.f32]) [.tmp 4] rfl fun w0 T0 _ => ?_
  simp only [Tryd.f32, argEnv]
  have hc : ¬ cutset = [] := by decide
  have hl : cutset.length = 37 := rfl
  simp (maxSteps := 1000000) only [go_sem, reduceCtorEq, Nat.reduceLT, Nat.reduceLeDiff, reduceIte, ↓reduceIte, Nat.reduceEqDiff, Nat.reduceAdd, Nat.reduceMul, Nat.reduceSub, Int.reduceLE, Int.reduceLT, Int.reduceNeg, Int.reduceToNat, hc, hl]
  (repeat' first | (with_reducible refine Asm.intro fun _ => ?_) | ((with_reducible refine Chk.intro ?_ ?_); (· first | omega | (with_reducible refine Chk.intro ?_ ?_ <;> omega) | (simp; done) | (simp; omega))) | ((with_reducible refine LetW.i64 ?_ ?_ ?_); (· omega); (· omega)) | ((with_reducible refine Ite.decide (fun _ => ?_) (fun _ => ?_)) <;> first | (exfalso; omega) | simp (maxSteps := 1000000) only [go_sem, reduceCtorEq, Nat.reduceLT, Nat.reduceLeDiff, reduceIte, ↓reduceIte, Nat.reduceEqDiff, Nat.reduceAdd, Nat.reduceMul, Nat.reduceSub, Int.reduceLE, Int.reduceLT, Int.reduceNeg, Int.reduceToNat]) | ((with_reducible refine Ite.bool (fun _ => ?_) (fun _ => ?_)) <;> simp (maxSteps := 1000000) only [go_sem, reduceCtorEq, Nat.reduceLT, Nat.reduceLeDiff, reduceIte, ↓reduceIte, Nat.reduceEqDiff, Nat.reduceAdd, Nat.reduceMul, Nat.reduceSub, Int.reduceLE, Int.reduceLT, Int.reduceNeg, Int.reduceToNat]) | (with_reducible refine And.intro ?_ ?_))
  have hlen := asciiAt_len cutset cutset.length
  refine VcCall.fr (args' := [.str cutset]) (FnFr.of_ok (makeAscii_ok cutset cut_small) (by simp [noRo, noRoL, noRoL_bools]) rfl) (by simp [argOkL, allOk, argOkN]) 0 (by simp [Fv.below, belowL, belowL_bools]) (by simp [rowsB]) ?_
  have ha := cut_a
  generalize asciiAt cutset cutset.length = tab at hlen ha ⊢
  simp (maxSteps := 1000000) only [go_sem, reduceCtorEq, Nat.reduceLT, Nat.reduceLeDiff, reduceIte, ↓reduceIte, Nat.reduceEqDiff, Nat.reduceAdd, Nat.reduceMul, Nat.reduceSub, Int.reduceLE, Int.reduceLT, Int.reduceNeg, Int.reduceToNat]
  have e1 : spl (List.replicate 256 (AV.bool false)) 0 (tab.map .bool) = tab.map .bool := spl_all (by simp [hlen])
  refine Chk.intro (by simp [hlen]) ?_
  rw [e1]
  refine Chk.intro (by omega) ?_
  refine VcCall.fr (args' := [.str [97], .cell (tab.map .bool)]) (FnFr.of_ok (trimRight_a tab hlen ha) rfl rfl) ?_ 0 rfl (by simp [rowsB]) ?_
  · exact ⟨_, _, rfl, ⟨_, _, ⟨_, _, _, rfl, allOk_bools _ 4 _, rfl⟩, rfl, rfl⟩, rfl⟩
  simp (maxSteps := 1000000) only [go_sem, reduceCtorEq, Nat.reduceLT, Nat.reduceLeDiff, reduceIte, ↓reduceIte, Nat.reduceEqDiff, Nat.reduceAdd, Nat.reduceMul, Nat.reduceSub, Int.reduceLE, Int.reduceLT, Int.reduceNeg, Int.reduceToNat]
  refine VcCall.fr (args' := [.str [], .cell (tab.map .bool)]) (FnFr.of_ok (trimLeft_nil tab) rfl rfl) ?_ 0 rfl (by simp [rowsB]) ?_
  · exact ⟨_, _, rfl, ⟨_, _, ⟨_, _, _, rfl, allOk_bools _ 4 _, rfl⟩, rfl, rfl⟩, rfl⟩
  simp (maxSteps := 1000000) only [go_sem, reduceCtorEq, Nat.reduceLT, Nat.reduceLeDiff, reduceIte, ↓reduceIte, Nat.reduceEqDiff, Nat.reduceAdd, Nat.reduceMul, Nat.reduceSub, Int.reduceLE, Int.reduceLT, Int.reduceNeg, Int.reduceToNat]
  refine Ret.auto 0 ?_ rfl ?_ <;> simp only [go_sem, reduceCtorEq, reduceIte, Nat.reduceEqDiff, Nat.reduceLT, Nat.reduceLeDiff, Int.natCast_succ, Post]

set_option maxHeartbeats 1000000 in
theorem isName_a : FnOk Tryd.prog 15 [.str [97]] (.bool true) [] := by
  refine FnOk.of_vc Tryd.func15 rfl (by decide) (by simp [Tryd.f15]) [.tmp 2] rfl fun w0 T0 _ => ?_
  simp only [Tryd.f15, argEnv]
  simp (maxSteps := 1000000) only [go_sem, reduceCtorEq, Nat.reduceLT, Nat.reduceLeDiff, reduceIte, ↓reduceIte, Nat.reduceEqDiff, Nat.reduceAdd, Nat.reduceMul, Nat.reduceSub, Int.reduceLE, Int.reduceLT, Int.reduceNeg, Int.reduceToNat]
  (repeat' first | (with_reducible refine Asm.intro fun _ => ?_) | ((with_reducible refine Chk.intro ?_ ?_); (· first | omega | (with_reducible refine Chk.intro ?_ ?_ <;> omega) | (simp; done) | (simp; omega))) | ((with_reducible refine LetW.i64 ?_ ?_ ?_); (· omega); (· omega)) | ((with_reducible refine Ite.decide (fun _ => ?_) (fun _ => ?_)) <;> first | (exfalso; omega) | simp (maxSteps := 1000000) only [go_sem, reduceCtorEq, Nat.reduceLT, Nat.reduceLeDiff, reduceIte, ↓reduceIte, Nat.reduceEqDiff, Nat.reduceAdd, Nat.reduceMul, Nat.reduceSub, Int.reduceLE, Int.reduceLT, Int.reduceNeg, Int.reduceToNat]) | ((with_reducible refine Ite.bool (fun _ => ?_) (fun _ => ?_)) <;> simp (maxSteps := 1000000) only [go_sem, reduceCtorEq, Nat.reduceLT, Nat.reduceLeDiff, reduceIte, ↓reduceIte, Nat.reduceEqDiff, Nat.reduceAdd, Nat.reduceMul, Nat.reduceSub, Int.reduceLE, Int.reduceLT, Int.reduceNeg, Int.reduceToNat]) | (with_reducible refine And.intro ?_ ?_))
  · refine VcCall.fr (args' := [.str [97], .str cutset]) (FnFr.of_ok trim_a rfl rfl) (by simp [argOkL, allOk, argOkN, cutset]) 0 rfl (by simp [rowsB]) ?_
    simp (maxSteps := 1000000) only [go_sem, reduceCtorEq, Nat.reduceLT, Nat.reduceLeDiff, reduceIte, ↓reduceIte, Nat.reduceEqDiff, Nat.reduceAdd, Nat.reduceMul, Nat.reduceSub, Int.reduceLE, Int.reduceLT, Int.reduceNeg, Int.reduceToNat]
    (repeat' first | (with_reducible refine Asm.intro fun _ => ?_) | ((with_reducible refine Chk.intro ?_ ?_); (· first | omega | (with_reducible refine Chk.intro ?_ ?_ <;> omega) | (simp; done) | (simp; omega))) | ((with_reducible refine LetW.i64 ?_ ?_ ?_); (· omega); (· omega)) | ((with_reducible refine Ite.decide (fun _ => ?_) (fun _ => ?_)) <;> first | (exfalso; omega) | simp (maxSteps := 1000000) only [go_sem, reduceCtorEq, Nat.reduceLT, Nat.reduceLeDiff, reduceIte, ↓reduceIte, Nat.reduceEqDiff, Nat.reduceAdd, Nat.reduceMul, Nat.reduceSub, Int.reduceLE, Int.reduceLT, Int.reduceNeg, Int.reduceToNat]) | ((with_reducible refine Ite.bool (fun _ => ?_) (fun _ => ?_)) <;> simp (maxSteps := 1000000) only [go_sem, reduceCtorEq, Nat.reduceLT, Nat.reduceLeDiff, reduceIte, ↓reduceIte, Nat.reduceEqDiff, Nat.reduceAdd, Nat.reduceMul, Nat.reduceSub, Int.reduceLE, Int.reduceLT, Int.reduceNeg, Int.reduceToNat]) | (with_reducible refine And.intro ?_ ?_))
    refine Ret.auto 0 ?_ rfl ?_ <;> simp only [go_sem, reduceCtorEq, reduceIte, Nat.reduceEqDiff, Nat.reduceLT, Nat.reduceLeDiff, Int.natCast_succ, Post]
  · rename_i h
    exact (h (by decide)).elim

end Go.Fv.T

/- strings.Trim at any set of small letters; IsName. -/
namespace Go.Fv.T
open Go Go.Proofs
set_option linter.unusedSimpArgs false
set_option linter.unusedVariables false
set_option linter.unnecessarySimpa false
set_option maxRecDepth 8000

def endOff (p : UInt8 → Bool) (s : List UInt8) : List UInt8 := (s.reverse.dropWhile p).reverse
def inCut (cut : List UInt8) (c : UInt8) : Bool := decide (c ∈ cut)
theorem asciiAt_get (s : List UInt8) (c : UInt8) : ∀ i, i ≤ s.length → (asciiAt s i).getD c.toNat false = decide (c ∈ s.take i)
  | 0, _ => by
    have h : c.toNat < 256 := c.toNat_lt
    rw [List.take_zero]
    show (List.replicate 256 false).getD c.toNat false = _
    rw [List.getD_eq_getElem?_getD, List.getElem?_replicate, if_pos h]
    simp
  | i + 1, h => by
    have ih := asciiAt_get s c i (by omega)
    have hlen := asciiAt_len s i
    have hlt : i < s.length := by omega
    have hc := c.toNat_lt
    have htk := List.take_succ_eq_append_getElem hlt
    rw [htk]
    simp only [asciiAt, List.getD_eq_getElem?_getD] at ih ⊢
    rw [List.getElem?_set]
    have e : s[i]?.getD 0 = s[i] := by simp [hlt]
    rw [e]
    by_cases hq : s[i].toNat = c.toNat
    · have hq2 : s[i] = c := UInt8.toNat_inj.1 hq
      rw [if_pos hq, if_pos (by rw [hlen]; omega)]
      simp [hq2]
    · rw [if_neg hq, ih]
      have hq2 : ¬ c = s[i] := fun h => hq (by rw [h])
      rw [Bool.eq_iff_iff, decide_eq_true_eq, decide_eq_true_eq, List.mem_append, List.mem_singleton]
      exact ⟨.inl, fun h => h.elim id fun h => absurd h hq2⟩
theorem last_of2 {s : List UInt8} (h0 : 0 < s.length) : s = s.take (s.length - 1) ++ [s.getD (s.length - 1) 0] := by
  rw [getD_lt (by omega), List.take_append_getElem (by omega), List.take_of_length_le (by omega)]
theorem endOff_snoc (p : UInt8 → Bool) (t : List UInt8) (c : UInt8) : endOff p (t ++ [c]) = if p c = true then endOff p t else t ++ [c] := by
  unfold endOff
  rw [List.reverse_append, List.reverse_singleton, List.singleton_append, List.dropWhile_cons]
  split <;> simp_all
theorem endOff_y {p : UInt8 → Bool} {s : List UInt8} (h0 : 0 < s.length) (h : p (s.getD (s.length - 1) 0) = true) : endOff p (s.take (s.length - 1)) = endOff p s := by
  conv => rhs; rw [last_of2 h0, endOff_snoc, if_pos h]
theorem endOff_n {p : UInt8 → Bool} {s : List UInt8} (h : 0 < s.length → p (s.getD (s.length - 1) 0) = false) : endOff p s = s := by
  by_cases h0 : 0 < s.length
  · conv => lhs; rw [last_of2 h0, endOff_snoc, if_neg (by rw [h h0]; decide)]
    exact (last_of2 h0).symm
  · have : s = [] := List.eq_nil_of_length_eq_zero (by omega)
    subst this; rfl
theorem dropW_y {p : UInt8 → Bool} {s : List UInt8} (h0 : 0 < s.length) (h : p (s.getD 0 0) = true) : (s.drop 1).dropWhile p = s.dropWhile p := by
  cases s with
  | nil => simp at h0
  | cons c t =>
    have h' : p c = true := h
    rw [List.dropWhile_cons, if_pos h']; rfl
theorem dropW_n {p : UInt8 → Bool} {s : List UInt8} (h : 0 < s.length → p (s.getD 0 0) = false) : s.dropWhile p = s := by
  cases s with
  | nil => rfl
  | cons c t => rw [List.dropWhile_cons, if_neg (by have := h (by simp); rw [show (c :: t).getD 0 0 = c from rfl] at this; rw [this]; decide)]
theorem dropW_nil {p : UInt8 → Bool} : ∀ {s : List UInt8}, s.dropWhile p = [] ↔ s.all p = true
  | [] => by simp
  | c :: t => by
    rw [List.dropWhile_cons, List.all_cons]
    cases h : p c with
    | true => simpa using dropW_nil
    | false => simp
theorem trim_nil (p : UInt8 → Bool) (s : List UInt8) : (endOff p s).dropWhile p = [] ↔ s.all p = true := by
  rw [dropW_nil]
  unfold endOff
  rw [List.all_reverse, ← dropW_nil]
  have hd : (s.reverse.dropWhile p).dropWhile p = s.reverse.dropWhile p := by
    generalize s.reverse = t
    induction t with
    | nil => rfl
    | cons c t ih =>
      rw [List.dropWhile_cons]
      cases h : p c with
      | true => simpa using ih
      | false => simp [List.dropWhile_cons, h]
  rw [hd, dropW_nil, List.all_reverse]
theorem containsU_ok (tab : List Bool) (hl : tab.length = 256) (c : UInt8) : FnOk Tryd.prog 60 [.cell (tab.map .bool), .int .u8 c.toNat] (.bool (tab.getD c.toNat false)) [] := by
  have h := contains_ok tab c.toNat hl (by omega) (by have := c.toNat_lt; omega)
  rwa [Int.toNat_natCast] at h

set_option maxHeartbeats 1000000 in
theorem trimLeftA_ok (tab : List Bool) (hl : tab.length = 256) (p : UInt8 → Bool) (hp : ∀ c : UInt8, tab.getD c.toNat false = p c) (s : List UInt8) :
    FnOk Tryd.prog 48 [.str s, .cell (tab.map .bool)] (.str (s.dropWhile p)) [] := by
  refine FnOk.of_vc Tryd.func48 rfl (by decide) (by simp [Tryd.f48]) [.tmp 4] rfl fun w0 T0 _ => ?_
  simp only [Tryd.f48, argEnv]
  (repeat' first | with_reducible (first | refine Asm.intro fun _ => ?_ | refine Chk.g ?_ | refine AnyI.i64 fun _ _ => ?_ | refine LetW.g ?_ | refine LetW.h ?_ | refine Ite.t fun _ => ?_ | refine Ite.f fun _ => ?_ | refine Ite.decide (fun _ => ?_) fun _ => ?_ | refine Ite.bool (fun _ => ?_) fun _ => ?_ | refine And.intro ?_ ?_) | omega | simp (maxSteps := 1000000) only [go_sem, reduceCtorEq, Nat.reduceLT, Nat.reduceLeDiff, reduceIte, ↓reduceIte, Nat.reduceEqDiff, Nat.reduceAdd, Nat.reduceMul, Nat.reduceSub, Int.reduceLE, Int.reduceLT, Int.reduceNeg, Int.reduceToNat])
  refine VcLoop.intro (fun t : List UInt8 => ⟨16, [(0, .str t), (1, .cell (tab.map .bool))], [], 0⟩) (fun t => t.dropWhile p = s.dropWhile p) (fun t => t.length) s ?_ rfl fun t he => ?_
  · refine Ent.auto0 rfl ?_ ?_ <;> simp only [go_sem, reduceCtorEq, reduceIte, Nat.reduceEqDiff, Nat.reduceLT, Nat.reduceLeDiff, Int.natCast_succ]
  (repeat' first | with_reducible (first | refine Asm.intro fun _ => ?_ | refine Chk.g ?_ | refine AnyI.i64 fun _ _ => ?_ | refine LetW.g ?_ | refine LetW.h ?_ | refine Ite.t fun _ => ?_ | refine Ite.f fun _ => ?_ | refine Ite.decide (fun _ => ?_) fun _ => ?_ | refine Ite.bool (fun _ => ?_) fun _ => ?_ | refine And.intro ?_ ?_) | omega | simp (maxSteps := 1000000) only [go_sem, reduceCtorEq, Nat.reduceLT, Nat.reduceLeDiff, reduceIte, ↓reduceIte, Nat.reduceEqDiff, Nat.reduceAdd, Nat.reduceMul, Nat.reduceSub, Int.reduceLE, Int.reduceLT, Int.reduceNeg, Int.reduceToNat])
  · have k := containsU_ok tab hl (t.getD 0 0)
    rw [hp] at k
    refine VcCall.fr (args' := [.cell (tab.map .bool), .int .u8 (t.getD 0 0).toNat]) (FnFr.of_ok k rfl rfl) (by simp [argOkL, allOk, argOkN]) 0 rfl (by simp [rowsB]) ?_
    cases hq : p (t.getD 0 0) with
    | true =>
      (repeat' first | with_reducible (first | refine Asm.intro fun _ => ?_ | refine Chk.g ?_ | refine AnyI.i64 fun _ _ => ?_ | refine LetW.g ?_ | refine LetW.h ?_ | refine Ite.t fun _ => ?_ | refine Ite.f fun _ => ?_ | refine Ite.decide (fun _ => ?_) fun _ => ?_ | refine Ite.bool (fun _ => ?_) fun _ => ?_ | refine And.intro ?_ ?_) | omega | simp (maxSteps := 1000000) only [go_sem, reduceCtorEq, Nat.reduceLT, Nat.reduceLeDiff, reduceIte, ↓reduceIte, Nat.reduceEqDiff, Nat.reduceAdd, Nat.reduceMul, Nat.reduceSub, Int.reduceLE, Int.reduceLT, Int.reduceNeg, Int.reduceToNat])
      refine ⟨t.drop 1, Ent.auto0 rfl ?_ ?_, ?_, ?_⟩
      · simp only [go_sem, reduceCtorEq, reduceIte, Nat.reduceEqDiff, Nat.reduceLT, Nat.reduceLeDiff, Int.natCast_succ]
        all_goals first | rfl | exact List.take_of_length_le (by simp)
      · simp only [go_sem, reduceCtorEq, reduceIte, Nat.reduceEqDiff, Nat.reduceLT, Nat.reduceLeDiff, Int.natCast_succ]
      · rw [dropW_y (by omega) hq]; exact he
      · simp; omega
    | false =>
      have e : t = s.dropWhile p := by rw [← he, dropW_n (fun _ => hq)]
      (repeat' first | with_reducible (first | refine Asm.intro fun _ => ?_ | refine Chk.g ?_ | refine AnyI.i64 fun _ _ => ?_ | refine LetW.g ?_ | refine LetW.h ?_ | refine Ite.t fun _ => ?_ | refine Ite.f fun _ => ?_ | refine Ite.decide (fun _ => ?_) fun _ => ?_ | refine Ite.bool (fun _ => ?_) fun _ => ?_ | refine And.intro ?_ ?_) | omega | simp (maxSteps := 1000000) only [go_sem, reduceCtorEq, Nat.reduceLT, Nat.reduceLeDiff, reduceIte, ↓reduceIte, Nat.reduceEqDiff, Nat.reduceAdd, Nat.reduceMul, Nat.reduceSub, Int.reduceLE, Int.reduceLT, Int.reduceNeg, Int.reduceToNat])
      refine Ret.auto 0 ?_ rfl ?_ <;> simp only [go_sem, reduceCtorEq, reduceIte, Nat.reduceEqDiff, Nat.reduceLT, Nat.reduceLeDiff, Int.natCast_succ, Post, e]
  · have e : t = s.dropWhile p := by rw [← he, dropW_n (fun h => by omega)]
    refine Ret.auto 0 ?_ rfl ?_ <;> simp only [go_sem, reduceCtorEq, reduceIte, Nat.reduceEqDiff, Nat.reduceLT, Nat.reduceLeDiff, Int.natCast_succ, Post, e]
set_option maxHeartbeats 1000000 in
theorem trimRightA_ok (tab : List Bool) (hl : tab.length = 256) (p : UInt8 → Bool) (hp : ∀ c : UInt8, tab.getD c.toNat false = p c) (s : List UInt8) :
    FnOk Tryd.prog 49 [.str s, .cell (tab.map .bool)] (.str (endOff p s)) [] := by
  refine FnOk.of_vc Tryd.func49 rfl (by decide) (by simp [Tryd.f49]) [.tmp 4] rfl fun w0 T0 _ => ?_
  simp only [Tryd.f49, argEnv]
  (repeat' first | with_reducible (first | refine Asm.intro fun _ => ?_ | refine Chk.g ?_ | refine AnyI.i64 fun _ _ => ?_ | refine LetW.g ?_ | refine LetW.h ?_ | refine Ite.t fun _ => ?_ | refine Ite.f fun _ => ?_ | refine Ite.decide (fun _ => ?_) fun _ => ?_ | refine Ite.bool (fun _ => ?_) fun _ => ?_ | refine And.intro ?_ ?_) | omega | simp (maxSteps := 1000000) only [go_sem, reduceCtorEq, Nat.reduceLT, Nat.reduceLeDiff, reduceIte, ↓reduceIte, Nat.reduceEqDiff, Nat.reduceAdd, Nat.reduceMul, Nat.reduceSub, Int.reduceLE, Int.reduceLT, Int.reduceNeg, Int.reduceToNat])
  refine VcLoop.intro (fun t : List UInt8 => ⟨22, [(0, .str t), (1, .cell (tab.map .bool))], [], 0⟩) (fun t => endOff p t = endOff p s) (fun t => t.length) s ?_ rfl fun t he => ?_
  · refine Ent.auto0 rfl ?_ ?_ <;> simp only [go_sem, reduceCtorEq, reduceIte, Nat.reduceEqDiff, Nat.reduceLT, Nat.reduceLeDiff, Int.natCast_succ]
  have et : ((t.length : Int) - 1).toNat = t.length - 1 := by omega
  (repeat' first | with_reducible (first | refine Asm.intro fun _ => ?_ | refine Chk.g ?_ | refine AnyI.i64 fun _ _ => ?_ | refine LetW.g ?_ | refine LetW.h ?_ | refine Ite.t fun _ => ?_ | refine Ite.f fun _ => ?_ | refine Ite.decide (fun _ => ?_) fun _ => ?_ | refine Ite.bool (fun _ => ?_) fun _ => ?_ | refine And.intro ?_ ?_) | omega | simp (maxSteps := 1000000) only [go_sem, reduceCtorEq, Nat.reduceLT, Nat.reduceLeDiff, reduceIte, ↓reduceIte, Nat.reduceEqDiff, Nat.reduceAdd, Nat.reduceMul, Nat.reduceSub, Int.reduceLE, Int.reduceLT, Int.reduceNeg, Int.reduceToNat, et])
  · have k := containsU_ok tab hl (t.getD (t.length - 1) 0)
    rw [hp] at k
    refine VcCall.fr (args' := [.cell (tab.map .bool), .int .u8 (t.getD (t.length - 1) 0).toNat]) (FnFr.of_ok k rfl rfl) (by simp [argOkL, allOk, argOkN]) 0 rfl (by simp [rowsB]) ?_
    cases hq : p (t.getD (t.length - 1) 0) with
    | true =>
      (repeat' first | with_reducible (first | refine Asm.intro fun _ => ?_ | refine Chk.g ?_ | refine AnyI.i64 fun _ _ => ?_ | refine LetW.g ?_ | refine LetW.h ?_ | refine Ite.t fun _ => ?_ | refine Ite.f fun _ => ?_ | refine Ite.decide (fun _ => ?_) fun _ => ?_ | refine Ite.bool (fun _ => ?_) fun _ => ?_ | refine And.intro ?_ ?_) | omega | simp (maxSteps := 1000000) only [go_sem, reduceCtorEq, Nat.reduceLT, Nat.reduceLeDiff, reduceIte, ↓reduceIte, Nat.reduceEqDiff, Nat.reduceAdd, Nat.reduceMul, Nat.reduceSub, Int.reduceLE, Int.reduceLT, Int.reduceNeg, Int.reduceToNat, et])
      refine ⟨t.take (t.length - 1), Ent.auto0 rfl ?_ ?_, ?_, ?_⟩
      · simp only [go_sem, reduceCtorEq, reduceIte, Nat.reduceEqDiff, Nat.reduceLT, Nat.reduceLeDiff, Int.natCast_succ, et]
        all_goals rfl
      · simp only [go_sem, reduceCtorEq, reduceIte, Nat.reduceEqDiff, Nat.reduceLT, Nat.reduceLeDiff, Int.natCast_succ]
      · rw [endOff_y (by omega) hq]; exact he
      · simp; omega
    | false =>
      have e : t = endOff p s := by rw [← he, endOff_n (fun _ => hq)]
      (repeat' first | with_reducible (first | refine Asm.intro fun _ => ?_ | refine Chk.g ?_ | refine AnyI.i64 fun _ _ => ?_ | refine LetW.g ?_ | refine LetW.h ?_ | refine Ite.t fun _ => ?_ | refine Ite.f fun _ => ?_ | refine Ite.decide (fun _ => ?_) fun _ => ?_ | refine Ite.bool (fun _ => ?_) fun _ => ?_ | refine And.intro ?_ ?_) | omega | simp (maxSteps := 1000000) only [go_sem, reduceCtorEq, Nat.reduceLT, Nat.reduceLeDiff, reduceIte, ↓reduceIte, Nat.reduceEqDiff, Nat.reduceAdd, Nat.reduceMul, Nat.reduceSub, Int.reduceLE, Int.reduceLT, Int.reduceNeg, Int.reduceToNat])
      refine Ret.auto 0 ?_ rfl ?_ <;> simp only [go_sem, reduceCtorEq, reduceIte, Nat.reduceEqDiff, Nat.reduceLT, Nat.reduceLeDiff, Int.natCast_succ, Post, e]
  · have e : t = endOff p s := by rw [← he, endOff_n (fun h => by omega)]
    refine Ret.auto 0 ?_ rfl ?_ <;> simp only [go_sem, reduceCtorEq, reduceIte, Nat.reduceEqDiff, Nat.reduceLT, Nat.reduceLeDiff, Int.natCast_succ, Post, e]

set_option maxHeartbeats 1000000 in
theorem trimA_ok (s cut : List UInt8) (hc : ∀ i, i < cut.length → (cut.getD i 0).toNat < 128) (h2 : 2 ≤ cut.length) :
    FnOk Tryd.prog 32 [.str s, .str cut] (.str ((endOff (inCut cut) s).dropWhile (inCut cut))) [] := by
  have hlen := asciiAt_len cut cut.length
  have km := makeAscii_ok cut hc
  have hg : ∀ c : UInt8, (asciiAt cut cut.length).getD c.toNat false = inCut cut c := fun c => by
    rw [asciiAt_get cut c _ (Nat.le_refl _), List.take_length]; rfl
  have hne : ¬ cut = [] := fun e => by subst e; simp at h2
  refine FnOk.of_vc Tryd.func32 rfl (by decide) (by simp [Tryd.f32]) [.tmp 4] rfl fun w0 T0 _ => ?_
  simp only [Tryd.f32, argEnv]
  by_cases h0 : s = []
  · have e : (endOff (inCut cut) []).dropWhile (inCut cut) = [] := rfl
    (repeat' first | with_reducible (first | refine Asm.intro fun _ => ?_ | refine Chk.g ?_ | refine AnyI.i64 fun _ _ => ?_ | refine LetW.g ?_ | refine LetW.h ?_ | refine Ite.t fun _ => ?_ | refine Ite.f fun _ => ?_ | refine Ite.decide (fun _ => ?_) fun _ => ?_ | refine Ite.bool (fun _ => ?_) fun _ => ?_ | refine And.intro ?_ ?_) | omega | simp (maxSteps := 1000000) only [go_sem, reduceCtorEq, Nat.reduceLT, Nat.reduceLeDiff, reduceIte, ↓reduceIte, Nat.reduceEqDiff, Nat.reduceAdd, Nat.reduceMul, Nat.reduceSub, Int.reduceLE, Int.reduceLT, Int.reduceNeg, Int.reduceToNat, h0])
    refine Ret.auto 0 ?_ rfl ?_ <;> simp only [go_sem, reduceCtorEq, reduceIte, Nat.reduceEqDiff, Nat.reduceLT, Nat.reduceLeDiff, Int.natCast_succ, Post, e]
  generalize inCut cut = p at *
  (repeat' first | with_reducible (first | refine Asm.intro fun _ => ?_ | refine Chk.g ?_ | refine AnyI.i64 fun _ _ => ?_ | refine LetW.g ?_ | refine LetW.h ?_ | refine Ite.t fun _ => ?_ | refine Ite.f fun _ => ?_ | refine Ite.decide (fun _ => ?_) fun _ => ?_ | refine Ite.bool (fun _ => ?_) fun _ => ?_ | refine And.intro ?_ ?_) | omega | simp (maxSteps := 1000000) only [go_sem, reduceCtorEq, Nat.reduceLT, Nat.reduceLeDiff, reduceIte, ↓reduceIte, Nat.reduceEqDiff, Nat.reduceAdd, Nat.reduceMul, Nat.reduceSub, Int.reduceLE, Int.reduceLT, Int.reduceNeg, Int.reduceToNat, h0, hne])
  refine VcCall.fr (args' := [.str cut]) (FnFr.of_ok km (by simp [noRo, noRoL, noRoL_bools]) rfl) (by simp [argOkL, allOk, argOkN]) 0 (by simp [Fv.below, belowL, belowL_bools]) (by simp [rowsB]) ?_
  generalize asciiAt cut cut.length = tab at hlen hg ⊢
  simp (maxSteps := 1000000) only [go_sem, reduceCtorEq, Nat.reduceLT, Nat.reduceLeDiff, reduceIte, ↓reduceIte, Nat.reduceEqDiff, Nat.reduceAdd, Nat.reduceMul, Nat.reduceSub, Int.reduceLE, Int.reduceLT, Int.reduceNeg, Int.reduceToNat]
  have e1 : spl (List.replicate 256 (AV.bool false)) 0 (tab.map .bool) = tab.map .bool := spl_all (by simp [hlen])
  refine Chk.intro (by simp [hlen]) ?_
  rw [e1]
  refine Chk.intro (by omega) ?_
  refine VcCall.fr (args' := [.str s, .cell (tab.map .bool)]) (FnFr.of_ok (trimRightA_ok tab hlen p hg s) rfl rfl) ?_ 0 rfl (by simp [rowsB]) ?_
  · exact ⟨_, _, rfl, ⟨_, _, ⟨_, _, _, rfl, allOk_bools _ 4 _, rfl⟩, rfl, rfl⟩, rfl⟩
  simp (maxSteps := 1000000) only [go_sem, reduceCtorEq, Nat.reduceLT, Nat.reduceLeDiff, reduceIte, ↓reduceIte, Nat.reduceEqDiff, Nat.reduceAdd, Nat.reduceMul, Nat.reduceSub, Int.reduceLE, Int.reduceLT, Int.reduceNeg, Int.reduceToNat]
  refine VcCall.fr (args' := [.str (endOff p s), .cell (tab.map .bool)]) (FnFr.of_ok (trimLeftA_ok tab hlen p hg (endOff p s)) rfl rfl) ?_ 0 rfl (by simp [rowsB]) ?_
  · exact ⟨_, _, rfl, ⟨_, _, ⟨_, _, _, rfl, allOk_bools _ 4 _, rfl⟩, rfl, rfl⟩, rfl⟩
  simp (maxSteps := 1000000) only [go_sem, reduceCtorEq, Nat.reduceLT, Nat.reduceLeDiff, reduceIte, ↓reduceIte, Nat.reduceEqDiff, Nat.reduceAdd, Nat.reduceMul, Nat.reduceSub, Int.reduceLE, Int.reduceLT, Int.reduceNeg, Int.reduceToNat]
  refine Ret.auto 0 ?_ rfl ?_ <;> simp only [go_sem, reduceCtorEq, reduceIte, Nat.reduceEqDiff, Nat.reduceLT, Nat.reduceLeDiff, Int.natCast_succ, Post]

end Go.Fv.T

/- Tokens of a text: what Split and its reference compute, in plain words. -/
namespace Go.Fv.T
open Go
set_option linter.unusedSimpArgs false
set_option linter.unusedVariables false
set_option linter.unnecessarySimpa false

abbrev Bytes := List UInt8
end Go.Fv.T

/- Letters, words, and the trims at one byte. -/
namespace Go.Fv.T
open Go Go.Proofs
set_option linter.unusedSimpArgs false
set_option linter.unusedVariables false
set_option linter.unnecessarySimpa false
set_option maxRecDepth 8000

end Go.Fv.T

/- The trims at the quote. -/
namespace Go.Fv.T
open Go Go.Proofs
set_option linter.unusedSimpArgs false
set_option linter.unusedVariables false
set_option linter.unnecessarySimpa false
set_option maxRecDepth 8000

end Go.Fv.T

/- strings.Index, strings.Count, by the contracts of the shelf. -/
namespace Go.Proofs
open Go.Shelf
end Go.Proofs

namespace Go.Fv.T
open Go Go.Proofs
set_option linter.unusedSimpArgs false
set_option linter.unusedVariables false
set_option linter.unnecessarySimpa false
set_option maxRecDepth 8000

end Go.Fv.T

/- A text is one word just where its tokens are that word alone; small letters. -/
namespace Go.Fv.T
open Go
set_option linter.unusedSimpArgs false
set_option linter.unusedVariables false
set_option linter.unnecessarySimpa false

end Go.Fv.T

/- Small letters: the bytes on the way. -/
namespace Go.Fv.T
open Go Go.Proofs
set_option linter.unusedSimpArgs false
set_option linter.unusedVariables false
set_option linter.unnecessarySimpa false
set_option maxRecDepth 8000

theorem bytesOf_byteInts (l : List UInt8) : bytesOf (byteInts l) = l := by
  unfold bytesOf byteInts
  rw [List.map_map]
  conv => rhs; rw [← List.map_id l]
  refine List.map_congr_left fun b _ => ?_
  simp
end Go.Fv.T

/- Prints of pages, and how far they are apart. -/
namespace Go.Fv.T
open Go Go.Proofs
set_option linter.unusedSimpArgs false
set_option linter.unusedVariables false
set_option linter.unnecessarySimpa false
set_option maxRecDepth 8000

def prB (n s : Int) : UInt8 := if s < n then 49 else 48
def prL (g : List Int) : List UInt8 := g.map fun n => prB n (g.sum.tdiv 64)
theorem prL_len (g : List Int) : (prL g).length = g.length := by simp [prL]
theorem prL_get (g : List Int) {i : Nat} (h : i < g.length) : (prL g).getD i 0 = prB (g.getD i 0) (g.sum.tdiv 64) := by
  simp [prL, List.getD_eq_getElem?_getD, h]
theorem sumI_take (g : List Int) {i : Nat} (h : i < g.length) : (g.take (i + 1)).sum = (g.take i).sum + g.getD i 0 := by
  rw [List.take_succ_eq_append_getElem h, List.sum_append, getD_lt h]; simp
theorem sumI_bd (B : Int) : ∀ (g : List Int), (∀ x, x ∈ g → 0 ≤ x ∧ x ≤ B) → 0 ≤ g.sum ∧ g.sum ≤ (g.length : Int) * B
  | [], _ => by simp
  | x :: g, h => by
    have ih := sumI_bd B g fun y hy => h y (.tail _ hy)
    have hx := h x (.head _)
    rw [List.sum_cons, List.length_cons]
    have e : (((g.length + 1 : Nat)) : Int) * B = (g.length : Int) * B + B := by rw [Int.natCast_add, Int.add_mul]; simp
    rw [e]; omega
def prAt (g : List Int) (i : Nat) : List Int := byteInts ((prL g).take i) ++ List.replicate (g.length - i) 0
theorem prAt_len (g : List Int) {i : Nat} (h : i ≤ g.length) : (prAt g i).length = g.length := by simp [prAt, byteInts, prL_len]; omega
theorem prAt_step (g : List Int) {i : Nat} (h : i < g.length) : (prAt g i).set i ((prB (g.getD i 0) (g.sum.tdiv 64)).toNat : Int) = prAt g (i + 1) := by
  have hl : (byteInts ((prL g).take i)).length = i := by simp [byteInts, prL_len]; omega
  have hk : g.length - i = (g.length - (i + 1)) + 1 := by omega
  unfold prAt
  rw [List.set_append_right (h := by omega), hl, Nat.sub_self, hk, List.replicate_succ, List.set_cons_zero]
  rw [List.take_succ_eq_append_getElem (by rw [prL_len]; exact h)]
  have e := prL_get g h
  rw [getD_lt (by rw [prL_len]; exact h)] at e
  rw [← e]
  simp only [byteInts, List.map_append, List.map_cons, List.map_nil, List.append_assoc, List.cons_append, List.nil_append]
theorem prAt_end (g : List Int) : bytesOf (prAt g g.length) = prL g := by
  unfold prAt
  rw [Nat.sub_self, List.replicate_zero, List.append_nil, bytesOf_byteInts, ← prL_len g, List.take_length]
theorem grid_bd (p : List Bool) (w h : Nat) (hw : w ≤ 32) (hh : h ≤ 32) : ∀ x, x ∈ rowsOf 8 (gridV p w h 8) (8 * 8) → 0 ≤ x ∧ x ≤ 1024000 := by
  intro x hx
  unfold rowsOf at hx
  obtain ⟨k, hk, rfl⟩ := List.mem_map.1 hx
  have hk := List.mem_range.1 hk
  unfold gridV
  refine ⟨by omega, ?_⟩
  have : gridN p w h 8 (k % 8) (k / 8) ≤ 1024000 := by
    unfold gridN
    have l1 := gx_le (w := w) (side := 8) (i := k % 8 + 1) (by omega)
    have l2 := gx_le (w := h) (side := 8) (i := k / 8 + 1) (by omega)
    have hle := inkN_le p w (gx w 8 (k % 8)) (gx h 8 (k / 8)) (gx w 8 (k % 8 + 1) - gx w 8 (k % 8)) (gx h 8 (k / 8 + 1) - gx h 8 (k / 8))
    have hWH : (gx h 8 (k / 8 + 1) - gx h 8 (k / 8)) * (gx w 8 (k % 8 + 1) - gx w 8 (k % 8)) ≤ 32 * 32 := Nat.mul_le_mul (by omega) (by omega)
    split
    · refine Nat.le_trans (Nat.div_le_self _ _) ?_
      omega
    · omega
  omega
def prOf (p : List Bool) (w h : Nat) : List UInt8 := prL (rowsOf 8 (gridV p w h 8) (8 * 8))
set_option maxHeartbeats 4000000 in
theorem print_ok (w h : Nat) (hw1 : 1 ≤ w) (hw : w ≤ 32) (hh1 : 1 ≤ h) (hh : h ≤ 32) (p : List Bool) (hp : p.length = w * h) :
    FnOk Tryd.prog 7 [.agg [.int .i64 w, .int .i64 h, .ro (.bools p)]] (.tup [.str (prOf p w h), .int .i64 0]) [] := by
  have k1 := grid_ok w h hw1 hw hh1 hh p hp 8 (by decide) (by decide)
  rw [show ((8 : Nat) : Int) = 8 from rfl] at k1
  have hb := grid_bd p w h hw hh
  have hl : (rowsOf 8 (gridV p w h 8) (8 * 8)).length = 64 := by simp [rowsOf]
  unfold prOf
  generalize rowsOf 8 (gridV p w h 8) (8 * 8) = g at *
  have hgd : ∀ i, i < g.length → 0 ≤ g.getD i 0 ∧ g.getD i 0 ≤ 1024000 := fun i hi => hb _ (by rw [getD_lt hi]; exact List.getElem_mem hi)
  have hsb : ∀ i, 0 ≤ (g.take i).sum ∧ (g.take i).sum ≤ 65536000 := fun i => by
    have := sumI_bd 1024000 (g.take i) fun x hx => hb x (List.mem_of_mem_take hx)
    have h2 : (g.take i).length ≤ 64 := by simp; omega
    refine ⟨this.1, Int.le_trans this.2 ?_⟩
    omega
  refine FnOk.of_vc Tryd.func7 rfl (by decide) (by simp [Tryd.f7]) [.tmp 2, .tmp 3] rfl fun w0 T0 _ => ?_
  simp only [Tryd.f7, argEnv]
  (repeat' first | with_reducible (first | refine Asm.intro fun _ => ?_ | refine Chk.g ?_ | refine AnyI.i64 fun _ _ => ?_ | refine LetW.g ?_ | refine LetW.h ?_ | refine Ite.t fun _ => ?_ | refine Ite.f fun _ => ?_ | refine Ite.decide (fun _ => ?_) fun _ => ?_ | refine Ite.bool (fun _ => ?_) fun _ => ?_ | refine And.intro ?_ ?_) | omega | simp (maxSteps := 1000000) only [go_sem, reduceCtorEq, Nat.reduceLT, Nat.reduceLeDiff, reduceIte, ↓reduceIte, Nat.reduceEqDiff, Nat.reduceAdd, Nat.reduceMul, Nat.reduceSub, Int.reduceLE, Int.reduceLT, Int.reduceNeg, Int.reduceToNat])
  refine VcCall.ro (.tup [.ro (.ints .i64 g), .int .i64 0]) (FnFr.of_ok k1 rfl (by simp [noRoRows, noRoItem, noRoRow, noRoL, noRo])) (by simp only [noIdR_ok, argOkL, argOk, allOk, argOkN, List.drop_zero, lk, reduceIte, reduceCtorEq, Nat.reduceEqDiff, Option.some.injEq, Item.row.injEq, Item.box.injEq, AV.ro.injEq, exists_eq_left, exists_and_left, exists_eq_left', exists_eq_right, and_assoc, and_true, true_and, List.cons.injEq, exists_eq', exists_eq]) (by simp [outOk, argOkL, allOk, argOk, argOkN, lk, noIdR_ok]) rfl ?_
  clear k1
  (repeat' first | with_reducible (first | refine Asm.intro fun _ => ?_ | refine Chk.g ?_ | refine AnyI.i64 fun _ _ => ?_ | refine LetW.g ?_ | refine LetW.h ?_ | refine Ite.t fun _ => ?_ | refine Ite.f fun _ => ?_ | refine Ite.decide (fun _ => ?_) fun _ => ?_ | refine Ite.bool (fun _ => ?_) fun _ => ?_ | refine And.intro ?_ ?_) | omega | simp (maxSteps := 1000000) only [go_sem, reduceCtorEq, Nat.reduceLT, Nat.reduceLeDiff, reduceIte, ↓reduceIte, Nat.reduceEqDiff, Nat.reduceAdd, Nat.reduceMul, Nat.reduceSub, Int.reduceLE, Int.reduceLT, Int.reduceNeg, Int.reduceToNat])
  refine VcLoop.intro (fun i : Nat => ⟨55, [(22, .int .i64 i), (21, .int .i64 g.length), (20, .ro (.ints .i64 g)), (6, .int .i64 (g.take i).sum), (4, .ro (.ints .i64 g))], [], 0⟩) (fun i => i ≤ g.length) (fun i => g.length - i) 0 ?_ (Nat.zero_le _) fun i hi => ?_
  · refine Ent.auto0 rfl ?_ ?_ <;> simp only [go_sem, reduceCtorEq, reduceIte, Nat.reduceEqDiff, Nat.reduceLT, Nat.reduceLeDiff, Int.natCast_succ, List.take_zero, List.sum_nil]
  by_cases hlt : i < g.length
  · have h1 := hgd i hlt
    have h2 := hsb i
    have h3 := sumI_take g hlt
    (repeat' first | with_reducible (first | refine Asm.intro fun _ => ?_ | refine Chk.g ?_ | refine AnyI.i64 fun _ _ => ?_ | refine LetW.g ?_ | refine LetW.h ?_ | refine Ite.t fun _ => ?_ | refine Ite.f fun _ => ?_ | refine Ite.decide (fun _ => ?_) fun _ => ?_ | refine Ite.bool (fun _ => ?_) fun _ => ?_ | refine And.intro ?_ ?_) | omega | simp (maxSteps := 1000000) only [go_sem, reduceCtorEq, Nat.reduceLT, Nat.reduceLeDiff, reduceIte, ↓reduceIte, Nat.reduceEqDiff, Nat.reduceAdd, Nat.reduceMul, Nat.reduceSub, Int.reduceLE, Int.reduceLT, Int.reduceNeg, Int.reduceToNat])
    refine ⟨i + 1, Ent.auto0 rfl ?_ ?_, by omega, by omega⟩ <;> simp only [go_sem, reduceCtorEq, reduceIte, Nat.reduceEqDiff, Nat.reduceLT, Nat.reduceLeDiff, Int.natCast_succ, h3]
  · have e : i = g.length := by omega
    subst e
    have h2 := hsb g.length
    rw [List.take_length] at *
    have hpe := prAt_end g
    have hstep := fun i hi => prAt_step g (i := i) hi
    have hpl := fun i hi => prAt_len g (i := i) hi
    have hp0 : prAt g 0 = List.replicate g.length 0 := by simp [prAt, byteInts]
    generalize hs : g.sum = s at *
    (repeat' first | with_reducible (first | refine Asm.intro fun _ => ?_ | refine Chk.g ?_ | refine AnyI.i64 fun _ _ => ?_ | refine LetW.g ?_ | refine LetW.h ?_ | refine Ite.t fun _ => ?_ | refine Ite.f fun _ => ?_ | refine Ite.decide (fun _ => ?_) fun _ => ?_ | refine Ite.bool (fun _ => ?_) fun _ => ?_ | refine And.intro ?_ ?_) | omega | simp (maxSteps := 1000000) only [go_sem, reduceCtorEq, Nat.reduceLT, Nat.reduceLeDiff, reduceIte, ↓reduceIte, Nat.reduceEqDiff, Nat.reduceAdd, Nat.reduceMul, Nat.reduceSub, Int.reduceLE, Int.reduceLT, Int.reduceNeg, Int.reduceToNat])
    refine VcLoop.intro (fun i : Nat => ⟨55, [(35, .int .i64 i), (34, .int .i64 g.length), (33, .ro (.ints .i64 g)), (9, .own 0), (6, .int .i64 s), (4, .ro (.ints .i64 g))], [(0, .row 5 (.ints .u8 (prAt g i)))], 1⟩) (fun i => i ≤ g.length) (fun i => g.length - i) 0 ?_ (Nat.zero_le _) fun i hi => ?_
    · refine Ent.auto0 rfl ?_ ?_ <;> simp only [go_sem, reduceCtorEq, reduceIte, Nat.reduceEqDiff, Nat.reduceLT, Nat.reduceLeDiff, Int.natCast_succ, hp0, zrow, Int.toNat_natCast]
    by_cases hlt : i < g.length
    · have h1 := hgd i hlt
      have h3 := hstep i hlt
      have h4 := hpl i (by omega)
      have hg64 : (g.length : Int) = 64 := by omega
      have hd : -9223372036854775808 ≤ s.tdiv 64 ∧ s.tdiv 64 ≤ 9223372036854775807 := by
        have := Int.tdiv_nonneg (a := s) (b := 64) (by omega) (by omega)
        have h6 : s.tdiv 64 ≤ s := Int.tdiv_le_self _ (by omega)
        omega
      by_cases hc : s.tdiv 64 < g.getD i 0
      · rw [show prB (g.getD i 0) (s.tdiv 64) = 49 from if_pos hc] at h3
        (repeat' first | with_reducible (first | refine Asm.intro fun _ => ?_ | refine Chk.g ?_ | refine AnyI.i64 fun _ _ => ?_ | refine LetW.g ?_ | refine LetW.h ?_ | refine Ite.t fun _ => ?_ | refine Ite.f fun _ => ?_ | refine Ite.decide (fun _ => ?_) fun _ => ?_ | refine Ite.bool (fun _ => ?_) fun _ => ?_ | refine And.intro ?_ ?_) | omega | simp (maxSteps := 1000000) only [go_sem, reduceCtorEq, Nat.reduceLT, Nat.reduceLeDiff, reduceIte, ↓reduceIte, Nat.reduceEqDiff, Nat.reduceAdd, Nat.reduceMul, Nat.reduceSub, Int.reduceLE, Int.reduceLT, Int.reduceNeg, Int.reduceToNat, h4, hg64, hc, List.length_set, List.set_set])
        refine ⟨i + 1, Ent.auto0 rfl ?_ ?_, by omega, by omega⟩ <;> simp only [go_sem, reduceCtorEq, reduceIte, Nat.reduceEqDiff, Nat.reduceLT, Nat.reduceLeDiff, Int.natCast_succ, hg64, ← h3]
        all_goals rfl
      · rw [show prB (g.getD i 0) (s.tdiv 64) = 48 from if_neg hc] at h3
        (repeat' first | with_reducible (first | refine Asm.intro fun _ => ?_ | refine Chk.g ?_ | refine AnyI.i64 fun _ _ => ?_ | refine LetW.g ?_ | refine LetW.h ?_ | refine Ite.t fun _ => ?_ | refine Ite.f fun _ => ?_ | refine Ite.decide (fun _ => ?_) fun _ => ?_ | refine Ite.bool (fun _ => ?_) fun _ => ?_ | refine And.intro ?_ ?_) | omega | simp (maxSteps := 1000000) only [go_sem, reduceCtorEq, Nat.reduceLT, Nat.reduceLeDiff, reduceIte, ↓reduceIte, Nat.reduceEqDiff, Nat.reduceAdd, Nat.reduceMul, Nat.reduceSub, Int.reduceLE, Int.reduceLT, Int.reduceNeg, Int.reduceToNat, h4, hg64, hc, List.length_set, List.set_set])
        refine ⟨i + 1, Ent.auto0 rfl ?_ ?_, by omega, by omega⟩ <;> simp only [go_sem, reduceCtorEq, reduceIte, Nat.reduceEqDiff, Nat.reduceLT, Nat.reduceLeDiff, Int.natCast_succ, hg64, ← h3]
        all_goals rfl
    · have e : i = g.length := by omega
      subst e
      (repeat' first | with_reducible (first | refine Asm.intro fun _ => ?_ | refine Chk.g ?_ | refine AnyI.i64 fun _ _ => ?_ | refine LetW.g ?_ | refine LetW.h ?_ | refine Ite.t fun _ => ?_ | refine Ite.f fun _ => ?_ | refine Ite.decide (fun _ => ?_) fun _ => ?_ | refine Ite.bool (fun _ => ?_) fun _ => ?_ | refine And.intro ?_ ?_) | omega | simp (maxSteps := 1000000) only [go_sem, reduceCtorEq, Nat.reduceLT, Nat.reduceLeDiff, reduceIte, ↓reduceIte, Nat.reduceEqDiff, Nat.reduceAdd, Nat.reduceMul, Nat.reduceSub, Int.reduceLE, Int.reduceLT, Int.reduceNeg, Int.reduceToNat])
      refine Ret.auto 0 ?_ rfl ?_ <;> simp only [go_sem, reduceCtorEq, reduceIte, Nat.reduceEqDiff, Nat.reduceLT, Nat.reduceLeDiff, Int.natCast_succ, Post]
      all_goals exact hpe
/-! ### What a print is -/
def prOk (s : List UInt8) : Bool := decide (s.length = 64) && s.all (inCut [48, 49])
theorem isPrint_ok (s : List UInt8) : FnOk Tryd.prog 19 [.str s] (.bool (prOk s)) [] := by
  have k := trimA_ok s [48, 49] (by decide) (by decide)
  have hn := trim_nil (inCut [48, 49]) s
  unfold prOk
  generalize (endOff (inCut [48, 49]) s).dropWhile (inCut [48, 49]) = q at *
  have e : decide (q = []) = s.all (inCut [48, 49]) := by rw [Bool.eq_iff_iff, decide_eq_true_eq, hn]
  rw [← e]
  refine FnOk.of_vc Tryd.func19 rfl (by decide) (by simp [Tryd.f19]) [.tmp 2] rfl fun w0 T0 _ => ?_
  simp only [Tryd.f19, argEnv]
  by_cases h : s.length = 64
  · have h1 : (s.length : Int) = 64 := by omega
    (repeat' first | with_reducible (first | refine Asm.intro fun _ => ?_ | refine Chk.g ?_ | refine AnyI.i64 fun _ _ => ?_ | refine LetW.g ?_ | refine LetW.h ?_ | refine Ite.t fun _ => ?_ | refine Ite.f fun _ => ?_ | refine Ite.decide (fun _ => ?_) fun _ => ?_ | refine Ite.bool (fun _ => ?_) fun _ => ?_ | refine And.intro ?_ ?_) | omega | simp (maxSteps := 1000000) only [go_sem, reduceCtorEq, Nat.reduceLT, Nat.reduceLeDiff, reduceIte, ↓reduceIte, Nat.reduceEqDiff, Nat.reduceAdd, Nat.reduceMul, Nat.reduceSub, Int.reduceLE, Int.reduceLT, Int.reduceNeg, Int.reduceToNat, h1])
    refine VcCall.fr (FnFr.of_ok (k) rfl rfl) (by simp only [noIdR_ok, argOkL, argOk, allOk, argOkN, List.drop_zero, lk, reduceIte, reduceCtorEq, Nat.reduceEqDiff, Option.some.injEq, Item.row.injEq, Item.box.injEq, AV.ro.injEq, exists_eq_left, exists_and_left, exists_eq_left', exists_eq_right, and_assoc, and_true, true_and, List.cons.injEq, exists_eq', exists_eq]) 0 rfl (by simp [rowsB]) ?_
    (repeat' first | with_reducible (first | refine Asm.intro fun _ => ?_ | refine Chk.g ?_ | refine AnyI.i64 fun _ _ => ?_ | refine LetW.g ?_ | refine LetW.h ?_ | refine Ite.t fun _ => ?_ | refine Ite.f fun _ => ?_ | refine Ite.decide (fun _ => ?_) fun _ => ?_ | refine Ite.bool (fun _ => ?_) fun _ => ?_ | refine And.intro ?_ ?_) | omega | simp (maxSteps := 1000000) only [go_sem, reduceCtorEq, Nat.reduceLT, Nat.reduceLeDiff, reduceIte, ↓reduceIte, Nat.reduceEqDiff, Nat.reduceAdd, Nat.reduceMul, Nat.reduceSub, Int.reduceLE, Int.reduceLT, Int.reduceNeg, Int.reduceToNat])
    refine Ret.auto 0 ?_ rfl ?_ <;> simp only [go_sem, reduceCtorEq, reduceIte, Nat.reduceEqDiff, Nat.reduceLT, Nat.reduceLeDiff, Int.natCast_succ, Post, h, decide_true, Bool.true_and]
  · have h1 : ¬ (s.length : Int) = 64 := by omega
    (repeat' first | with_reducible (first | refine Asm.intro fun _ => ?_ | refine Chk.g ?_ | refine AnyI.i64 fun _ _ => ?_ | refine LetW.g ?_ | refine LetW.h ?_ | refine Ite.t fun _ => ?_ | refine Ite.f fun _ => ?_ | refine Ite.decide (fun _ => ?_) fun _ => ?_ | refine Ite.bool (fun _ => ?_) fun _ => ?_ | refine And.intro ?_ ?_) | omega | simp (maxSteps := 1000000) only [go_sem, reduceCtorEq, Nat.reduceLT, Nat.reduceLeDiff, reduceIte, ↓reduceIte, Nat.reduceEqDiff, Nat.reduceAdd, Nat.reduceMul, Nat.reduceSub, Int.reduceLE, Int.reduceLT, Int.reduceNeg, Int.reduceToNat, h1])
    refine Ret.auto 0 ?_ rfl ?_ <;> simp only [go_sem, reduceCtorEq, reduceIte, Nat.reduceEqDiff, Nat.reduceLT, Nat.reduceLeDiff, Int.natCast_succ, Post, h, decide_false, Bool.false_and]
def apAt (a b : List UInt8) (i : Nat) : Nat := ((List.range i).filter fun j => decide (a.getD j 0 ≠ b.getD j 0)).length
def apN (a b : List UInt8) : Nat := apAt a b a.length
theorem apAt_succ (a b : List UInt8) (i : Nat) : apAt a b (i + 1) = if a.getD i 0 = b.getD i 0 then apAt a b i else apAt a b i + 1 := by
  unfold apAt
  rw [List.range_succ, List.filter_append, List.length_append]
  by_cases h : a.getD i 0 = b.getD i 0
  · rw [if_pos h, List.filter_cons_of_neg (by rw [h]; simp)]; rfl
  · rw [if_neg h, List.filter_cons_of_pos (p := fun j => decide (a.getD j 0 ≠ b.getD j 0)) (decide_eq_true h)]; rfl
theorem apAt_le (a b : List UInt8) (i : Nat) : apAt a b i ≤ i := by
  unfold apAt
  refine Nat.le_trans (List.length_filter_le _ _) ?_
  simp
set_option maxHeartbeats 1000000 in
theorem apart_ok (a b : List UInt8) (h : a.length ≤ b.length) : FnOk Tryd.prog 21 [.str a, .str b] (.int .i64 (apN a b)) [] := by
  unfold apN
  refine FnOk.of_vc Tryd.func21 rfl (by decide) (by simp [Tryd.f21]) [.tmp 4] rfl fun w0 T0 _ => ?_
  simp only [Tryd.f21, argEnv]
  (repeat' first | with_reducible (first | refine Asm.intro fun _ => ?_ | refine Chk.g ?_ | refine AnyI.i64 fun _ _ => ?_ | refine LetW.g ?_ | refine LetW.h ?_ | refine Ite.t fun _ => ?_ | refine Ite.f fun _ => ?_ | refine Ite.decide (fun _ => ?_) fun _ => ?_ | refine Ite.bool (fun _ => ?_) fun _ => ?_ | refine And.intro ?_ ?_) | omega | simp (maxSteps := 1000000) only [go_sem, reduceCtorEq, Nat.reduceLT, Nat.reduceLeDiff, reduceIte, ↓reduceIte, Nat.reduceEqDiff, Nat.reduceAdd, Nat.reduceMul, Nat.reduceSub, Int.reduceLE, Int.reduceLT, Int.reduceNeg, Int.reduceToNat])
  refine VcLoop.intro (fun i : Nat => ⟨23, [(9, .int .i64 i), (8, .int .i64 a.length), (5, .int .i64 (apAt a b i)), (1, .str b), (0, .str a)], [], 0⟩) (fun i => i ≤ a.length) (fun i => a.length - i) 0 ?_ (Nat.zero_le _) fun i hi => ?_
  · refine Ent.auto0 rfl ?_ ?_ <;> simp only [go_sem, reduceCtorEq, reduceIte, Nat.reduceEqDiff, Nat.reduceLT, Nat.reduceLeDiff, Int.natCast_succ, show apAt a b 0 = 0 from rfl]
    all_goals rfl
  by_cases hlt : i < a.length
  · have hs := apAt_succ a b i
    have hle := apAt_le a b i
    have hu : (a.getD i 0 = b.getD i 0) ↔ ((a.getD i 0).toNat : Int) = ((b.getD i 0).toNat : Int) := by
      constructor
      · intro e; rw [e]
      · intro e; exact UInt8.toNat.inj (by omega)
    have b1 := (a.getD i 0).toNat_lt
    have b2 := (b.getD i 0).toNat_lt
    (repeat' first | with_reducible (first | refine Asm.intro fun _ => ?_ | refine Chk.g ?_ | refine AnyI.i64 fun _ _ => ?_ | refine LetW.g ?_ | refine LetW.h ?_ | refine Ite.t fun _ => ?_ | refine Ite.f fun _ => ?_ | refine Ite.decide (fun _ => ?_) fun _ => ?_ | refine Ite.bool (fun _ => ?_) fun _ => ?_ | refine And.intro ?_ ?_) | omega | simp (maxSteps := 1000000) only [go_sem, reduceCtorEq, Nat.reduceLT, Nat.reduceLeDiff, reduceIte, ↓reduceIte, Nat.reduceEqDiff, Nat.reduceAdd, Nat.reduceMul, Nat.reduceSub, Int.reduceLE, Int.reduceLT, Int.reduceNeg, Int.reduceToNat, Int.toNat_natCast])
    refine VcDraw.lex [] [] (by kernel_rfl) (by kernel_rfl) ?_
    by_cases he : a.getD i 0 = b.getD i 0
    · rw [if_pos he] at hs
      (repeat' first | with_reducible (first | refine Asm.intro fun _ => ?_ | refine Chk.g ?_ | refine AnyI.i64 fun _ _ => ?_ | refine LetW.g ?_ | refine LetW.h ?_ | refine Ite.t fun _ => ?_ | refine Ite.f fun _ => ?_ | refine Ite.decide (fun _ => ?_) fun _ => ?_ | refine Ite.bool (fun _ => ?_) fun _ => ?_ | refine And.intro ?_ ?_) | omega | simp (maxSteps := 1000000) only [go_sem, reduceCtorEq, Nat.reduceLT, Nat.reduceLeDiff, reduceIte, ↓reduceIte, Nat.reduceEqDiff, Nat.reduceAdd, Nat.reduceMul, Nat.reduceSub, Int.reduceLE, Int.reduceLT, Int.reduceNeg, Int.reduceToNat, Int.toNat_natCast, he])
      refine ⟨i + 1, Ent.auto0 rfl ?_ ?_, by omega, by omega⟩ <;> simp only [go_sem, reduceCtorEq, reduceIte, Nat.reduceEqDiff, Nat.reduceLT, Nat.reduceLeDiff, Int.natCast_succ, hs]
    · rw [if_neg he] at hs
      have he2 : ¬ ((a.getD i 0).toNat : Int) = ((b.getD i 0).toNat : Int) := fun e => he (hu.2 e)
      (repeat' first | with_reducible (first | refine Asm.intro fun _ => ?_ | refine Chk.g ?_ | refine AnyI.i64 fun _ _ => ?_ | refine LetW.g ?_ | refine LetW.h ?_ | refine Ite.t fun _ => ?_ | refine Ite.f fun _ => ?_ | refine Ite.decide (fun _ => ?_) fun _ => ?_ | refine Ite.bool (fun _ => ?_) fun _ => ?_ | refine And.intro ?_ ?_) | omega | simp (maxSteps := 1000000) only [go_sem, reduceCtorEq, Nat.reduceLT, Nat.reduceLeDiff, reduceIte, ↓reduceIte, Nat.reduceEqDiff, Nat.reduceAdd, Nat.reduceMul, Nat.reduceSub, Int.reduceLE, Int.reduceLT, Int.reduceNeg, Int.reduceToNat, Int.toNat_natCast, he2])
      refine ⟨i + 1, Ent.auto0 rfl ?_ ?_, by omega, by omega⟩ <;> simp only [go_sem, reduceCtorEq, reduceIte, Nat.reduceEqDiff, Nat.reduceLT, Nat.reduceLeDiff, Int.natCast_succ, hs]
  · have e : i = a.length := by omega
    subst e
    (repeat' first | with_reducible (first | refine Asm.intro fun _ => ?_ | refine Chk.g ?_ | refine AnyI.i64 fun _ _ => ?_ | refine LetW.g ?_ | refine LetW.h ?_ | refine Ite.t fun _ => ?_ | refine Ite.f fun _ => ?_ | refine Ite.decide (fun _ => ?_) fun _ => ?_ | refine Ite.bool (fun _ => ?_) fun _ => ?_ | refine And.intro ?_ ?_) | omega | simp (maxSteps := 1000000) only [go_sem, reduceCtorEq, Nat.reduceLT, Nat.reduceLeDiff, reduceIte, ↓reduceIte, Nat.reduceEqDiff, Nat.reduceAdd, Nat.reduceMul, Nat.reduceSub, Int.reduceLE, Int.reduceLT, Int.reduceNeg, Int.reduceToNat])
    refine Ret.auto 0 ?_ rfl ?_ <;> simp only [go_sem, reduceCtorEq, reduceIte, Nat.reduceEqDiff, Nat.reduceLT, Nat.reduceLeDiff, Int.natCast_succ, Post]
end Go.Fv.T

namespace Go.Fv.T
open Go Go.Proofs
set_option linter.unusedSimpArgs false
set_option linter.unusedVariables false
set_option maxRecDepth 8000
/-- The first place where something holds, or -1. -/
def firstAt {α : Type} (q : α → Bool) : List α → Nat → Int
  | [], _ => -1
  | x :: l, i => if q x = true then i else firstAt q l (i + 1)
theorem firstAt_any {α : Type} (q : α → Bool) : ∀ (l : List α) (i : Nat), (0 ≤ firstAt q l i) ↔ l.any q = true
  | [], i => by simp [firstAt]
  | x :: l, i => by
    simp only [firstAt, List.any_cons]
    split
    · rename_i h; simp [h]
    · rename_i h; simp [h, firstAt_any q l (i + 1)]
theorem drop_at {α : Type} (l : List α) (d : α) {i : Nat} (h : i < l.length) : l.drop i = l.getD i d :: l.drop (i + 1) := by
  rw [List.drop_eq_getElem_cons h, getD_lt h]
set_option maxHeartbeats 1000000 in
theorem indexFuncS_ok (l : List (List UInt8)) (f : Nat) (caps : List AV) [CapsOk caps] (q : List UInt8 → Bool) (hq : ∀ s : List UInt8, s ∈ l → FnFr Tryd.prog f ([.str s] ++ caps) (.bool (q s)) []) :
    FnOk Tryd.prog 36 [.ro (.strs l), .fn f caps] (.int .i64 (firstAt q l 0)) [] := by
  refine FnOk.of_vc Tryd.func36 rfl (by decide) (by simp [Tryd.f36]) [.tmp 4] rfl fun w0 T0 _ => ?_
  simp only [Tryd.f36, argEnv]
  (repeat' first | with_reducible (first | refine Asm.intro fun _ => ?_ | refine Chk.g ?_ | refine AnyI.i64 fun _ _ => ?_ | refine LetW.g ?_ | refine LetW.h ?_ | refine Ite.t fun _ => ?_ | refine Ite.f fun _ => ?_ | refine Ite.decide (fun _ => ?_) fun _ => ?_ | refine Ite.bool (fun _ => ?_) fun _ => ?_ | refine And.intro ?_ ?_) | omega | simp (maxSteps := 1000000) only [go_sem, reduceCtorEq, Nat.reduceLT, Nat.reduceLeDiff, reduceIte, ↓reduceIte, Nat.reduceEqDiff, Nat.reduceAdd, Nat.reduceMul, Nat.reduceSub, Int.reduceLE, Int.reduceLT, Int.reduceNeg, Int.reduceToNat])
  refine VcLoop.intro (fun i : Nat => ⟨19, [(0, .ro (.strs l)), (1, .fn f caps), (7, .int .i64 l.length), (8, .int .i64 i)], [], 0⟩) (fun i => i ≤ l.length ∧ firstAt q (l.drop i) i = firstAt q l 0) (fun i => l.length - i) 0 ?_ ⟨Nat.zero_le _, rfl⟩ fun i hI => ?_
  · refine Ent.auto0 rfl ?_ ?_ <;> simp only [go_sem, reduceCtorEq, reduceIte, Nat.reduceEqDiff, Nat.reduceLT, Nat.reduceLeDiff, Int.natCast_succ]
  obtain ⟨hl, hI⟩ := hI
  (repeat' first | with_reducible (first | refine Asm.intro fun _ => ?_ | refine Chk.g ?_ | refine AnyI.i64 fun _ _ => ?_ | refine LetW.g ?_ | refine LetW.h ?_ | refine Ite.t fun _ => ?_ | refine Ite.f fun _ => ?_ | refine Ite.decide (fun _ => ?_) fun _ => ?_ | refine Ite.bool (fun _ => ?_) fun _ => ?_ | refine And.intro ?_ ?_) | omega | simp (maxSteps := 1000000) only [go_sem, reduceCtorEq, Nat.reduceLT, Nat.reduceLeDiff, reduceIte, ↓reduceIte, Nat.reduceEqDiff, Nat.reduceAdd, Nat.reduceMul, Nat.reduceSub, Int.reduceLE, Int.reduceLT, Int.reduceNeg, Int.reduceToNat])
  · have hlt : i < l.length := by omega
    have hd := drop_at l [] hlt
    rw [hd, firstAt] at hI
    refine VcCall.fr (args' := [.str (l.getD i [])] ++ caps) (hq _ (by rw [getD_lt hlt]; exact List.getElem_mem hlt)) (by simp [argOkL, allOk, argOkN, allOk_caps]) 0 rfl (by simp [rowsB]) ?_
    (repeat' first | with_reducible (first | refine Asm.intro fun _ => ?_ | refine Chk.g ?_ | refine AnyI.i64 fun _ _ => ?_ | refine LetW.g ?_ | refine LetW.h ?_ | refine Ite.t fun _ => ?_ | refine Ite.f fun _ => ?_ | refine Ite.decide (fun _ => ?_) fun _ => ?_ | refine Ite.bool (fun _ => ?_) fun _ => ?_ | refine And.intro ?_ ?_) | omega | simp (maxSteps := 1000000) only [go_sem, reduceCtorEq, Nat.reduceLT, Nat.reduceLeDiff, reduceIte, ↓reduceIte, Nat.reduceEqDiff, Nat.reduceAdd, Nat.reduceMul, Nat.reduceSub, Int.reduceLE, Int.reduceLT, Int.reduceNeg, Int.reduceToNat])
    · rename_i h2
      rw [if_pos h2] at hI
      refine Ret.auto 0 ?_ rfl ?_ <;> simp only [go_sem, reduceCtorEq, reduceIte, Nat.reduceEqDiff, Nat.reduceLT, Nat.reduceLeDiff, Int.natCast_succ, Post]
      rw [← hI]
    · rename_i h2
      rw [if_neg (by rw [h2]; exact Bool.false_ne_true)] at hI
      refine ⟨i + 1, Ent.auto0 rfl ?_ ?_, ⟨by omega, hI⟩, by omega⟩ <;> simp only [go_sem, reduceCtorEq, reduceIte, Nat.reduceEqDiff, Nat.reduceLT, Nat.reduceLeDiff, Int.natCast_succ]
      all_goals rfl
  · have e : i = l.length := by omega
    subst e
    rw [List.drop_length] at hI
    refine Ret.auto 0 ?_ rfl ?_ <;> simp only [go_sem, reduceCtorEq, reduceIte, Nat.reduceEqDiff, Nat.reduceLT, Nat.reduceLeDiff, Int.natCast_succ, Post]
    rw [← hI]; rfl
theorem contFuncS_ok (l : List (List UInt8)) (f : Nat) (caps : List AV) [CapsOk caps] (q : List UInt8 → Bool) (hq : ∀ s : List UInt8, s ∈ l → FnFr Tryd.prog f ([.str s] ++ caps) (.bool (q s)) []) :
    FnOk Tryd.prog 17 [.ro (.strs l), .fn f caps] (.bool (l.any q)) [] := by
  have k := indexFuncS_ok l f caps q hq
  have e : l.any q = decide (0 ≤ firstAt q l 0) := by rw [Bool.eq_iff_iff, decide_eq_true_eq, firstAt_any]
  rw [e]
  refine FnOk.of_vc Tryd.func17 rfl (by decide) (by simp [Tryd.f17]) [.tmp 4] rfl fun w0 T0 _ => ?_
  simp only [Tryd.f17, argEnv]
  (repeat' first | with_reducible (first | refine Asm.intro fun _ => ?_ | refine Chk.g ?_ | refine AnyI.i64 fun _ _ => ?_ | refine LetW.g ?_ | refine LetW.h ?_ | refine Ite.t fun _ => ?_ | refine Ite.f fun _ => ?_ | refine Ite.decide (fun _ => ?_) fun _ => ?_ | refine Ite.bool (fun _ => ?_) fun _ => ?_ | refine And.intro ?_ ?_) | omega | simp (maxSteps := 1000000) only [go_sem, reduceCtorEq, Nat.reduceLT, Nat.reduceLeDiff, reduceIte, ↓reduceIte, Nat.reduceEqDiff, Nat.reduceAdd, Nat.reduceMul, Nat.reduceSub, Int.reduceLE, Int.reduceLT, Int.reduceNeg, Int.reduceToNat])
  refine VcCall.fr (args' := [.ro (.strs l), .fn f caps]) (FnFr.of_ok k rfl rfl) (by simp [argOkL, allOk, argOkN, allOk_caps5]) 0 rfl (by simp [rowsB]) ?_
  (repeat' first | with_reducible (first | refine Asm.intro fun _ => ?_ | refine Chk.g ?_ | refine AnyI.i64 fun _ _ => ?_ | refine LetW.g ?_ | refine LetW.h ?_ | refine Ite.t fun _ => ?_ | refine Ite.f fun _ => ?_ | refine Ite.decide (fun _ => ?_) fun _ => ?_ | refine Ite.bool (fun _ => ?_) fun _ => ?_ | refine And.intro ?_ ?_) | omega | simp (maxSteps := 1000000) only [go_sem, reduceCtorEq, Nat.reduceLT, Nat.reduceLeDiff, reduceIte, ↓reduceIte, Nat.reduceEqDiff, Nat.reduceAdd, Nat.reduceMul, Nat.reduceSub, Int.reduceLE, Int.reduceLT, Int.reduceNeg, Int.reduceToNat])
  refine Ret.auto 0 ?_ rfl ?_ <;> simp only [go_sem, reduceCtorEq, reduceIte, Nat.reduceEqDiff, Nat.reduceLT, Nat.reduceLeDiff, Int.natCast_succ, Post]
end Go.Fv.T

/- slices.IndexFunc and ContainsFunc of integers. -/
namespace Go.Fv.T
open Go Go.Proofs
set_option linter.unusedSimpArgs false
set_option linter.unusedVariables false
set_option maxRecDepth 8000
end Go.Fv.T
