/-
  A part of the proof of the claim: walks over the program's functions and the plain laws that these need. No condition of its own.
-/
import Derived.Test.YtpnlkjeedfmhfaaDoorSCopiesCardPart1
import Derived.Test.YtpnlkjeedfmhfaaDoorFvPart9
import Derived.Shelf.Strings.Shaped
import Derived.Test.YtpnlkjeedfmhfaaDoorFvPart4
namespace Go.Fv.S
open Go Go.Proofs
set_option linter.unusedSimpArgs false
set_option linter.unusedVariables false
set_option maxRecDepth 8000
theorem drop_bools {tab : List Bool} {n : Nat} (h : n < tab.length) : (tab.map AV.bool).drop n = .bool (tab.getD n false) :: (tab.map AV.bool).drop (n + 1) := by
  rw [List.drop_eq_getElem_cons (by simpa using h)]
  simp [List.getD, h]

set_option maxHeartbeats 1000000 in
theorem contains_ok (tab : List Bool) (b : Int) (hl : tab.length = 256) (h0 : 0 ≤ b) (h1 : b < 256) : FnOk Tryd.prog 167 [.cell (tab.map .bool), .int .u8 b] (.bool (tab.getD b.toNat false)) [] := by
  refine FnOk.of_vc Tryd.func167 rfl (by decide) (by simp [Tryd.f167]) [.tmp 4] rfl fun w0 T0 _ => ?_
  simp only [Tryd.f167, argEnv]
  have hd := drop_bools (tab := tab) (n := b.toNat) (by omega)
  simp (maxSteps := 1000000) only [go_sem, reduceCtorEq, Nat.reduceLT, Nat.reduceLeDiff, reduceIte, ↓reduceIte, Nat.reduceEqDiff, Nat.reduceAdd, Nat.reduceMul, Nat.reduceSub, Int.reduceLE, Int.reduceLT, Int.reduceNeg, Int.reduceToNat, Nat.mul_one, hd]
  (repeat' first | (with_reducible refine Asm.intro fun _ => ?_) | ((with_reducible refine Chk.intro ?_ ?_); (· first | omega | (with_reducible refine Chk.intro ?_ ?_ <;> omega) | (simp; done) | (simp; omega))) | ((with_reducible refine LetW.i64 ?_ ?_ ?_); (· omega); (· omega)) | ((with_reducible refine Ite.decide (fun _ => ?_) (fun _ => ?_)) <;> first | (exfalso; omega) | simp (maxSteps := 1000000) only [go_sem, reduceCtorEq, Nat.reduceLT, Nat.reduceLeDiff, reduceIte, ↓reduceIte, Nat.reduceEqDiff, Nat.reduceAdd, Nat.reduceMul, Nat.reduceSub, Int.reduceLE, Int.reduceLT, Int.reduceNeg, Int.reduceToNat]) | ((with_reducible refine Ite.bool (fun _ => ?_) (fun _ => ?_)) <;> simp (maxSteps := 1000000) only [go_sem, reduceCtorEq, Nat.reduceLT, Nat.reduceLeDiff, reduceIte, ↓reduceIte, Nat.reduceEqDiff, Nat.reduceAdd, Nat.reduceMul, Nat.reduceSub, Int.reduceLE, Int.reduceLT, Int.reduceNeg, Int.reduceToNat]) | (with_reducible refine And.intro ?_ ?_))
  refine Ret.auto 0 ?_ rfl ?_ <;> simp only [go_sem, reduceCtorEq, reduceIte, Nat.reduceEqDiff, Nat.reduceLT, Nat.reduceLeDiff, Int.natCast_succ, Post]

set_option maxHeartbeats 1000000 in
theorem trimRight_a (tab : List Bool) (hl : tab.length = 256) (ha : tab.getD 97 false = true) : FnOk Tryd.prog 171 [.str [97], .cell (tab.map .bool)] (.str []) [] := by
  refine FnOk.of_vc Tryd.func171 rfl (by decide) (by simp [Tryd.f171]) [.tmp 4] rfl fun w0 T0 _ => ?_
  simp only [Tryd.f171, argEnv]
  simp (maxSteps := 1000000) only [go_sem, reduceCtorEq, Nat.reduceLT, Nat.reduceLeDiff, reduceIte, ↓reduceIte, Nat.reduceEqDiff, Nat.reduceAdd, Nat.reduceMul, Nat.reduceSub, Int.reduceLE, Int.reduceLT, Int.reduceNeg, Int.reduceToNat]
  refine VcLoop.intro (fun k : Bool => ⟨22, [(0, .str (cond k [97] [])), (1, .cell (tab.map .bool))], [], 0⟩) (fun _ => True) (fun k => cond k 1 0) true ?_ trivial fun k _ => ?_
  · refine Ent.auto0 rfl ?_ ?_ <;> simp only [go_sem, reduceCtorEq, reduceIte, Nat.reduceEqDiff, Nat.reduceLT, Nat.reduceLeDiff, Int.natCast_succ, cond_true]
  cases k with
  | true =>
    simp (maxSteps := 1000000) only [go_sem, reduceCtorEq, Nat.reduceLT, Nat.reduceLeDiff, reduceIte, ↓reduceIte, Nat.reduceEqDiff, Nat.reduceAdd, Nat.reduceMul, Nat.reduceSub, Int.reduceLE, Int.reduceLT, Int.reduceNeg, Int.reduceToNat]
    (repeat' first | (with_reducible refine Asm.intro fun _ => ?_) | ((with_reducible refine Chk.intro ?_ ?_); (· first | omega | (with_reducible refine Chk.intro ?_ ?_ <;> omega) | (simp; done) | (simp; omega))) | ((with_reducible refine LetW.i64 ?_ ?_ ?_); (· omega); (· omega)) | ((with_reducible refine Ite.decide (fun _ => ?_) (fun _ => ?_)) <;> first | (exfalso; omega) | simp (maxSteps := 1000000) only [go_sem, reduceCtorEq, Nat.reduceLT, Nat.reduceLeDiff, reduceIte, ↓reduceIte, Nat.reduceEqDiff, Nat.reduceAdd, Nat.reduceMul, Nat.reduceSub, Int.reduceLE, Int.reduceLT, Int.reduceNeg, Int.reduceToNat]) | ((with_reducible refine Ite.bool (fun _ => ?_) (fun _ => ?_)) <;> simp (maxSteps := 1000000) only [go_sem, reduceCtorEq, Nat.reduceLT, Nat.reduceLeDiff, reduceIte, ↓reduceIte, Nat.reduceEqDiff, Nat.reduceAdd, Nat.reduceMul, Nat.reduceSub, Int.reduceLE, Int.reduceLT, Int.reduceNeg, Int.reduceToNat]) | (with_reducible refine And.intro ?_ ?_))
    have e : ((([97] : List UInt8).getD (((1 : Nat) : Int) - 1).toNat 0).toNat : Int) = 97 := rfl
    rw [e]
    refine VcCall.fr (args' := [.cell (tab.map .bool), .int .u8 97]) (FnFr.of_ok (contains_ok tab 97 hl (by omega) (by omega)) rfl rfl) (by simp [argOkL, allOk, argOkN]) 0 rfl (by simp [rowsB]) ?_
    simp (maxSteps := 1000000) only [go_sem, reduceCtorEq, Nat.reduceLT, Nat.reduceLeDiff, reduceIte, ↓reduceIte, Nat.reduceEqDiff, Nat.reduceAdd, Nat.reduceMul, Nat.reduceSub, Int.reduceLE, Int.reduceLT, Int.reduceNeg, Int.reduceToNat, ha]
    (repeat' first | (with_reducible refine Asm.intro fun _ => ?_) | ((with_reducible refine Chk.intro ?_ ?_); (· first | omega | (with_reducible refine Chk.intro ?_ ?_ <;> omega) | (simp; done) | (simp; omega))) | ((with_reducible refine LetW.i64 ?_ ?_ ?_); (· omega); (· omega)) | ((with_reducible refine Ite.decide (fun _ => ?_) (fun _ => ?_)) <;> first | (exfalso; omega) | simp (maxSteps := 1000000) only [go_sem, reduceCtorEq, Nat.reduceLT, Nat.reduceLeDiff, reduceIte, ↓reduceIte, Nat.reduceEqDiff, Nat.reduceAdd, Nat.reduceMul, Nat.reduceSub, Int.reduceLE, Int.reduceLT, Int.reduceNeg, Int.reduceToNat]) | ((with_reducible refine Ite.bool (fun _ => ?_) (fun _ => ?_)) <;> simp (maxSteps := 1000000) only [go_sem, reduceCtorEq, Nat.reduceLT, Nat.reduceLeDiff, reduceIte, ↓reduceIte, Nat.reduceEqDiff, Nat.reduceAdd, Nat.reduceMul, Nat.reduceSub, Int.reduceLE, Int.reduceLT, Int.reduceNeg, Int.reduceToNat]) | (with_reducible refine And.intro ?_ ?_))
    refine ⟨false, Ent.auto0 rfl ?_ ?_, Nat.zero_lt_one⟩ <;> simp only [go_sem, reduceCtorEq, reduceIte, Nat.reduceEqDiff, Nat.reduceLT, Nat.reduceLeDiff, Int.natCast_succ, cond_false]
    simp
  | false =>
    simp (maxSteps := 1000000) only [go_sem, reduceCtorEq, Nat.reduceLT, Nat.reduceLeDiff, reduceIte, ↓reduceIte, Nat.reduceEqDiff, Nat.reduceAdd, Nat.reduceMul, Nat.reduceSub, Int.reduceLE, Int.reduceLT, Int.reduceNeg, Int.reduceToNat]
    (repeat' first | (with_reducible refine Asm.intro fun _ => ?_) | ((with_reducible refine Chk.intro ?_ ?_); (· first | omega | (with_reducible refine Chk.intro ?_ ?_ <;> omega) | (simp; done) | (simp; omega))) | ((with_reducible refine LetW.i64 ?_ ?_ ?_); (· omega); (· omega)) | ((with_reducible refine Ite.decide (fun _ => ?_) (fun _ => ?_)) <;> first | (exfalso; omega) | simp (maxSteps := 1000000) only [go_sem, reduceCtorEq, Nat.reduceLT, Nat.reduceLeDiff, reduceIte, ↓reduceIte, Nat.reduceEqDiff, Nat.reduceAdd, Nat.reduceMul, Nat.reduceSub, Int.reduceLE, Int.reduceLT, Int.reduceNeg, Int.reduceToNat]) | ((with_reducible refine Ite.bool (fun _ => ?_) (fun _ => ?_)) <;> simp (maxSteps := 1000000) only [go_sem, reduceCtorEq, Nat.reduceLT, Nat.reduceLeDiff, reduceIte, ↓reduceIte, Nat.reduceEqDiff, Nat.reduceAdd, Nat.reduceMul, Nat.reduceSub, Int.reduceLE, Int.reduceLT, Int.reduceNeg, Int.reduceToNat]) | (with_reducible refine And.intro ?_ ?_))
    refine Ret.auto 0 ?_ rfl ?_ <;> simp only [go_sem, reduceCtorEq, reduceIte, Nat.reduceEqDiff, Nat.reduceLT, Nat.reduceLeDiff, Int.natCast_succ, Post]

set_option maxHeartbeats 1000000 in
theorem trimLeft_nil (tab : List Bool) : FnOk Tryd.prog 174 [.str [], .cell (tab.map .bool)] (.str []) [] := by
  refine FnOk.of_vc Tryd.func174 rfl (by decide) (by simp [Tryd.f174]) [.tmp 4] rfl fun w0 T0 _ => ?_
  simp only [Tryd.f174, argEnv]
  simp (maxSteps := 1000000) only [go_sem, reduceCtorEq, Nat.reduceLT, Nat.reduceLeDiff, reduceIte, ↓reduceIte, Nat.reduceEqDiff, Nat.reduceAdd, Nat.reduceMul, Nat.reduceSub, Int.reduceLE, Int.reduceLT, Int.reduceNeg, Int.reduceToNat]
  refine VcLoop.intro (fun k : Unit => ⟨16, [(0, .str [])], [], 0⟩) (fun _ => True) (fun k => 0) () ?_ trivial fun k _ => ?_
  · refine Ent.auto0 rfl ?_ ?_ <;> simp only [go_sem, reduceCtorEq, reduceIte, Nat.reduceEqDiff, Nat.reduceLT, Nat.reduceLeDiff, Int.natCast_succ]
  simp (maxSteps := 1000000) only [go_sem, reduceCtorEq, Nat.reduceLT, Nat.reduceLeDiff, reduceIte, ↓reduceIte, Nat.reduceEqDiff, Nat.reduceAdd, Nat.reduceMul, Nat.reduceSub, Int.reduceLE, Int.reduceLT, Int.reduceNeg, Int.reduceToNat]
  (repeat' first | (with_reducible refine Asm.intro fun _ => ?_) | ((with_reducible refine Chk.intro ?_ ?_); (· first | omega | (with_reducible refine Chk.intro ?_ ?_ <;> omega) | (simp; done) | (simp; omega))) | ((with_reducible refine LetW.i64 ?_ ?_ ?_); (· omega); (· omega)) | ((with_reducible refine Ite.decide (fun _ => ?_) (fun _ => ?_)) <;> first | (exfalso; omega) | simp (maxSteps := 1000000) only [go_sem, reduceCtorEq, Nat.reduceLT, Nat.reduceLeDiff, reduceIte, ↓reduceIte, Nat.reduceEqDiff, Nat.reduceAdd, Nat.reduceMul, Nat.reduceSub, Int.reduceLE, Int.reduceLT, Int.reduceNeg, Int.reduceToNat]) | ((with_reducible refine Ite.bool (fun _ => ?_) (fun _ => ?_)) <;> simp (maxSteps := 1000000) only [go_sem, reduceCtorEq, Nat.reduceLT, Nat.reduceLeDiff, reduceIte, ↓reduceIte, Nat.reduceEqDiff, Nat.reduceAdd, Nat.reduceMul, Nat.reduceSub, Int.reduceLE, Int.reduceLT, Int.reduceNeg, Int.reduceToNat]) | (with_reducible refine And.intro ?_ ?_))
  refine Ret.auto 0 ?_ rfl ?_ <;> simp only [go_sem, reduceCtorEq, reduceIte, Nat.reduceEqDiff, Nat.reduceLT, Nat.reduceLeDiff, Int.natCast_succ, Post]

theorem z193 : zeroOf Tryd.prog 193 = some (.agg (Array.replicate 256 (.bool false))) := by kernel_rfl
theorem c193 : Tryd.prog.cellsOf 193 = 256 := by kernel_rfl

attribute [go_sem] z193 c193
def asciiAt (s : List UInt8) : Nat → List Bool
  | 0 => List.replicate 256 false
  | i + 1 => (asciiAt s i).set (s.getD i 0).toNat true
theorem asciiAt_len (s : List UInt8) : ∀ i, (asciiAt s i).length = 256
  | 0 => by simp [asciiAt]
  | i + 1 => by simp [asciiAt, asciiAt_len s i]

set_option maxHeartbeats 1000000 in
theorem makeAscii_ok (s : List UInt8) (hs : ∀ i, i < s.length → (s.getD i 0).toNat < 128) : FnOk Tryd.prog 166 [.str s] (.tup [.agg ((asciiAt s s.length).map .bool), .bool true]) [] := by
  refine FnOk.of_vc Tryd.func166 rfl (by decide) (by simp [Tryd.f166]) [.cell 2 193, .tmp 3] rfl fun w0 T0 _ => ?_
  simp only [Tryd.f166, argEnv]
  simp (maxSteps := 1000000) only [go_sem, reduceCtorEq, Nat.reduceLT, Nat.reduceLeDiff, reduceIte, ↓reduceIte, Nat.reduceEqDiff, Nat.reduceAdd, Nat.reduceMul, Nat.reduceSub, Int.reduceLE, Int.reduceLT, Int.reduceNeg, Int.reduceToNat]
  refine VcLoop.intro (fun i : Nat => ⟨21, [(0, .str s), (2, .ptr 0 0), (4, .int .i64 i)], [(0, .box 193 ((asciiAt s i).map .bool))], 1⟩) (fun i => i ≤ s.length) (fun i => s.length - i) 0 ?_ (Nat.zero_le _) fun i hi => ?_
  · refine Ent.auto0 rfl ?_ ?_ <;> simp only [go_sem, reduceCtorEq, reduceIte, Nat.reduceEqDiff, Nat.reduceLT, Nat.reduceLeDiff, Int.natCast_succ, asciiAt]
  have hlen := asciiAt_len s i
  simp (maxSteps := 1000000) only [go_sem, reduceCtorEq, Nat.reduceLT, Nat.reduceLeDiff, reduceIte, ↓reduceIte, Nat.reduceEqDiff, Nat.reduceAdd, Nat.reduceMul, Nat.reduceSub, Int.reduceLE, Int.reduceLT, Int.reduceNeg, Int.reduceToNat]
  (repeat' first | (with_reducible refine Asm.intro fun _ => ?_) | ((with_reducible refine Chk.intro ?_ ?_); (· first | omega | (with_reducible refine Chk.intro ?_ ?_ <;> omega) | (simp; done) | (simp; omega))) | ((with_reducible refine LetW.i64 ?_ ?_ ?_); (· omega); (· omega)) | ((with_reducible refine Ite.decide (fun _ => ?_) (fun _ => ?_)) <;> first | (exfalso; omega) | simp (maxSteps := 1000000) only [go_sem, reduceCtorEq, Nat.reduceLT, Nat.reduceLeDiff, reduceIte, ↓reduceIte, Nat.reduceEqDiff, Nat.reduceAdd, Nat.reduceMul, Nat.reduceSub, Int.reduceLE, Int.reduceLT, Int.reduceNeg, Int.reduceToNat]) | ((with_reducible refine Ite.bool (fun _ => ?_) (fun _ => ?_)) <;> simp (maxSteps := 1000000) only [go_sem, reduceCtorEq, Nat.reduceLT, Nat.reduceLeDiff, reduceIte, ↓reduceIte, Nat.reduceEqDiff, Nat.reduceAdd, Nat.reduceMul, Nat.reduceSub, Int.reduceLE, Int.reduceLT, Int.reduceNeg, Int.reduceToNat]) | (with_reducible refine And.intro ?_ ?_))
  · have := hs i (by omega)
    omega
  · refine ⟨i + 1, Ent.auto0 rfl ?_ ?_, by omega, by omega⟩
    · simp only [go_sem, reduceCtorEq, reduceIte, Nat.reduceEqDiff, Nat.reduceLT, Nat.reduceLeDiff, Int.natCast_succ]
    · simp only [go_sem, reduceCtorEq, reduceIte, Nat.reduceEqDiff, Nat.reduceLT, Nat.reduceLeDiff, Int.natCast_succ, asciiAt]
  · have e : i = s.length := by omega
    subst e
    have e2 : ((asciiAt s s.length).map AV.bool).take 256 = (asciiAt s s.length).map AV.bool := List.take_of_length_le (by simp [hlen])
    have e3 : spl ((asciiAt s s.length).map AV.bool) 0 ((asciiAt s s.length).map AV.bool) = (asciiAt s s.length).map AV.bool := spl_all rfl
    refine Ret.auto 0 ?_ ?_ ?_ <;> simp only [go_sem, reduceCtorEq, reduceIte, Nat.reduceEqDiff, Nat.reduceLT, Nat.reduceLeDiff, Int.natCast_succ, Post, e2, e3, List.drop_zero]
    simp (maxSteps := 1000000) only [go_sem, reduceCtorEq, Nat.reduceLT, Nat.reduceLeDiff, reduceIte, ↓reduceIte, Nat.reduceEqDiff, Nat.reduceAdd, Nat.reduceMul, Nat.reduceSub, Int.reduceLE, Int.reduceLT, Int.reduceNeg, Int.reduceToNat, e2, hlen, List.length_map]

def cutset : List UInt8 := [97, 98, 99, 100, 101, 102, 103, 104, 105, 106, 107, 108, 109, 110, 111, 112, 113, 114, 115, 116, 117, 118, 119, 120, 121, 122, 48, 49, 50, 51, 52, 53, 54, 55, 56, 57, 45]
theorem cut_small : ∀ i, i < cutset.length → (cutset.getD i 0).toNat < 128 := by decide
theorem cut_a : (asciiAt cutset cutset.length).getD 97 false = true := by decide

set_option maxHeartbeats 1000000 in
theorem trim_a : FnOk Tryd.prog 125 [.str [97], .str cutset] (.str []) [] := by
  refine FnOk.of_vc Tryd.func125 rfl (by decide) (by simp [Tryd.f125]) [.tmp 4] rfl fun w0 T0 _ => ?_
  simp only [Tryd.f125, argEnv]
  have hc : ¬ cutset = [] := by decide
  have hl : cutset.length = 37 := rfl
  simp (maxSteps := 1000000) only [go_sem, reduceCtorEq, Nat.reduceLT, Nat.reduceLeDiff, reduceIte, ↓reduceIte, Nat.reduceEqDiff, Nat.reduceAdd, Nat.reduceMul, Nat.reduceSub, Int.reduceLE, Int.reduceLT, Int.reduceNeg, Int.reduceToNat, hc, hl]
  (repeat' first | (with_reducible refine Asm.intro fun _ => ?_) | ((with_reducible refine Chk.intro ?_ ?_); (· first | omega | (with_reducible refine Chk.intro ?_ ?_ <;> omega) | (simp; done) | (simp; omega))) | ((with_reducible refine LetW.i64 ?_ ?_ ?_); (· omega); (· omega)) | ((with_reducible refine Ite.decide (fun _ => ?_) (fun _ => ?_)) <;> first | (exfalso; omega) | simp (maxSteps := 1000000) only [go_sem, reduceCtorEq, Nat.reduceLT, Nat.reduceLeDiff, reduceIte, ↓reduceIte, Nat.reduceEqDiff, Nat.reduceAdd, Nat.reduceMul, Nat.reduceSub, Int.reduceLE, Int.reduceLT, Int.reduceNeg, Int.reduceToNat]) | ((with_reducible refine Ite.bool (fun _ => ?_) (fun _ => ?_)) <;> simp (maxSteps := 1000000) only [go_sem, reduceCtorEq, Nat.reduceLT, Nat.reduceLeDiff, reduceIte, ↓reduceIte, Nat.reduceEqDiff, Nat.reduceAdd, Nat.reduceMul, Nat.reduceSub, Int.reduceLE, Int.reduceLT, Int.reduceNeg, Int.reduceToNat]) | (with_reducible refine And.intro ?_ ?_))
  have hlen := asciiAt_len cutset cutset.length
  refine VcCall.fr (args' := [.str cutset]) (FnFr.of_ok (makeAscii_ok cutset cut_small) (by simp [noRo, noRoL, noRoL_bools]) rfl) (by simp [argOkL, allOk, argOkN]) 0 (by simp [Fv.below, belowL, belowL_bools]) (by simp [rowsB]) ?_
  have ha := cut_a
  generalize asciiAt cutset cutset.length = tab at hlen ha ⊢
  simp (maxSteps := 1000000) only [go_sem, reduceCtorEq, Nat.reduceLT, Nat.reduceLeDiff, reduceIte, ↓reduceIte, Nat.reduceEqDiff, Nat.reduceAdd, Nat.reduceMul, Nat.reduceSub, Int.reduceLE, Int.reduceLT, Int.reduceNeg, Int.reduceToNat]
  have e1 : spl (List.replicate 256 (AV.bool false)) 0 (tab.map .bool) = tab.map .bool := spl_all (by simp [hlen])
  refine Chk.intro (by simp [hlen]) ?_
  rw [e1]
  refine Chk.intro (by omega) ?_
  refine VcCall.fr (args' := [.str [97], .cell (tab.map .bool)]) (FnFr.of_ok (trimRight_a tab hlen ha) rfl rfl) ?_ 0 rfl (by simp [rowsB]) ?_
  · exact ⟨_, _, rfl, ⟨_, _, ⟨_, _, _, rfl, allOk_bools _ 4 _, rfl⟩, rfl, rfl⟩, rfl⟩
  simp (maxSteps := 1000000) only [go_sem, reduceCtorEq, Nat.reduceLT, Nat.reduceLeDiff, reduceIte, ↓reduceIte, Nat.reduceEqDiff, Nat.reduceAdd, Nat.reduceMul, Nat.reduceSub, Int.reduceLE, Int.reduceLT, Int.reduceNeg, Int.reduceToNat]
  refine VcCall.fr (args' := [.str [], .cell (tab.map .bool)]) (FnFr.of_ok (trimLeft_nil tab) rfl rfl) ?_ 0 rfl (by simp [rowsB]) ?_
  · exact ⟨_, _, rfl, ⟨_, _, ⟨_, _, _, rfl, allOk_bools _ 4 _, rfl⟩, rfl, rfl⟩, rfl⟩
  simp (maxSteps := 1000000) only [go_sem, reduceCtorEq, Nat.reduceLT, Nat.reduceLeDiff, reduceIte, ↓reduceIte, Nat.reduceEqDiff, Nat.reduceAdd, Nat.reduceMul, Nat.reduceSub, Int.reduceLE, Int.reduceLT, Int.reduceNeg, Int.reduceToNat]
  refine Ret.auto 0 ?_ rfl ?_ <;> simp only [go_sem, reduceCtorEq, reduceIte, Nat.reduceEqDiff, Nat.reduceLT, Nat.reduceLeDiff, Int.natCast_succ, Post]

set_option maxHeartbeats 1000000 in
theorem isName_a : FnOk Tryd.prog 67 [.str [97]] (.bool true) [] := by
  refine FnOk.of_vc Tryd.func67 rfl (by decide) (by simp [Tryd.f67]) [.tmp 2] rfl fun w0 T0 _ => ?_
  simp only [Tryd.f67, argEnv]
  simp (maxSteps := 1000000) only [go_sem, reduceCtorEq, Nat.reduceLT, Nat.reduceLeDiff, reduceIte, ↓reduceIte, Nat.reduceEqDiff, Nat.reduceAdd, Nat.reduceMul, Nat.reduceSub, Int.reduceLE, Int.reduceLT, Int.reduceNeg, Int.reduceToNat]
  (repeat' first | (with_reducible refine Asm.intro fun _ => ?_) | ((with_reducible refine Chk.intro ?_ ?_); (· first | omega | (with_reducible refine Chk.intro ?_ ?_ <;> omega) | (simp; done) | (simp; omega))) | ((with_reducible refine LetW.i64 ?_ ?_ ?_); (· omega); (· omega)) | ((with_reducible refine Ite.decide (fun _ => ?_) (fun _ => ?_)) <;> first | (exfalso; omega) | simp (maxSteps := 1000000) only [go_sem, reduceCtorEq, Nat.reduceLT, Nat.reduceLeDiff, reduceIte, ↓reduceIte, Nat.reduceEqDiff, Nat.reduceAdd, Nat.reduceMul, Nat.reduceSub, Int.reduceLE, Int.reduceLT, Int.reduceNeg, Int.reduceToNat]) | ((with_reducible refine Ite.bool (fun _ => ?_) (fun _ => ?_)) <;> simp (maxSteps := 1000000) only [go_sem, reduceCtorEq, Nat.reduceLT, Nat.reduceLeDiff, reduceIte, ↓reduceIte, Nat.reduceEqDiff, Nat.reduceAdd, Nat.reduceMul, Nat.reduceSub, Int.reduceLE, Int.reduceLT, Int.reduceNeg, Int.reduceToNat]) | (with_reducible refine And.intro ?_ ?_))
  · refine VcCall.fr (args' := [.str [97], .str cutset]) (FnFr.of_ok trim_a rfl rfl) (by simp [argOkL, allOk, argOkN, cutset]) 0 rfl (by simp [rowsB]) ?_
    simp (maxSteps := 1000000) only [go_sem, reduceCtorEq, Nat.reduceLT, Nat.reduceLeDiff, reduceIte, ↓reduceIte, Nat.reduceEqDiff, Nat.reduceAdd, Nat.reduceMul, Nat.reduceSub, Int.reduceLE, Int.reduceLT, Int.reduceNeg, Int.reduceToNat]
    (repeat' first | (with_reducible refine Asm.intro fun _ => ?_) | ((with_reducible refine Chk.intro ?_ ?_); (· first | omega | (with_reducible refine Chk.intro ?_ ?_ <;> omega) | (simp; done) | (simp; omega))) | ((with_reducible refine LetW.i64 ?_ ?_ ?_); (· omega); (· omega)) | ((with_reducible refine Ite.decide (fun _ => ?_) (fun _ => ?_)) <;> first | (exfalso; omega) | simp (maxSteps := 1000000) only [go_sem, reduceCtorEq, Nat.reduceLT, Nat.reduceLeDiff, reduceIte, ↓reduceIte, Nat.reduceEqDiff, Nat.reduceAdd, Nat.reduceMul, Nat.reduceSub, Int.reduceLE, Int.reduceLT, Int.reduceNeg, Int.reduceToNat]) | ((with_reducible refine Ite.bool (fun _ => ?_) (fun _ => ?_)) <;> simp (maxSteps := 1000000) only [go_sem, reduceCtorEq, Nat.reduceLT, Nat.reduceLeDiff, reduceIte, ↓reduceIte, Nat.reduceEqDiff, Nat.reduceAdd, Nat.reduceMul, Nat.reduceSub, Int.reduceLE, Int.reduceLT, Int.reduceNeg, Int.reduceToNat]) | (with_reducible refine And.intro ?_ ?_))
    refine Ret.auto 0 ?_ rfl ?_ <;> simp only [go_sem, reduceCtorEq, reduceIte, Nat.reduceEqDiff, Nat.reduceLT, Nat.reduceLeDiff, Int.natCast_succ, Post]
  · rename_i h
    exact (h (by decide)).elim

theorem landed_ok : FnOk Tryd.prog 11 [] (.bool true) [] := by
  refine FnOk.of_vc Tryd.func11 rfl (by decide) (by simp [Tryd.f11]) [.tmp 0] rfl fun w0 T0 _ => ?_
  simp only [Tryd.f11, argEnv]
  simp (maxSteps := 1000000) only [go_sem, reduceCtorEq, Nat.reduceLT, Nat.reduceLeDiff, reduceIte, ↓reduceIte, Nat.reduceEqDiff, Nat.reduceAdd, Nat.reduceMul, Nat.reduceSub, Int.reduceLE, Int.reduceLT, Int.reduceNeg, Int.reduceToNat]
  refine VcCall.fr (args' := [.str [97]]) (FnFr.of_ok isName_a rfl rfl) (by simp [argOkL, allOk, argOkN]) 0 rfl (by simp [rowsB]) ?_
  simp (maxSteps := 1000000) only [go_sem, reduceCtorEq, Nat.reduceLT, Nat.reduceLeDiff, reduceIte, ↓reduceIte, Nat.reduceEqDiff, Nat.reduceAdd, Nat.reduceMul, Nat.reduceSub, Int.reduceLE, Int.reduceLT, Int.reduceNeg, Int.reduceToNat]
  refine Ret.auto 0 ?_ rfl ?_ <;> simp only [go_sem, reduceCtorEq, reduceIte, Nat.reduceEqDiff, Nat.reduceLT, Nat.reduceLeDiff, Int.natCast_succ, Post]

end Go.Fv.S

/- strings.Trim at any set of small letters; IsName. -/
namespace Go.Fv.S
open Go Go.Proofs
set_option linter.unusedSimpArgs false
set_option linter.unusedVariables false
set_option linter.unnecessarySimpa false
set_option maxRecDepth 8000

def endOff (p : UInt8 → Bool) (s : List UInt8) : List UInt8 := (s.reverse.dropWhile p).reverse
def inCut (cut : List UInt8) (c : UInt8) : Bool := decide (c ∈ cut)
theorem asciiAt_get (s : List UInt8) (c : UInt8) : ∀ i, i ≤ s.length → (asciiAt s i).getD c.toNat false = decide (c ∈ s.take i)
  | 0, _ => by
    have h : c.toNat < 256 := c.toNat_lt
    rw [List.take_zero]
    show (List.replicate 256 false).getD c.toNat false = _
    rw [List.getD_eq_getElem?_getD, List.getElem?_replicate, if_pos h]
    simp
  | i + 1, h => by
    have ih := asciiAt_get s c i (by omega)
    have hlen := asciiAt_len s i
    have hlt : i < s.length := by omega
    have hc := c.toNat_lt
    have htk := List.take_succ_eq_append_getElem hlt
    rw [htk]
    simp only [asciiAt, List.getD_eq_getElem?_getD] at ih ⊢
    rw [List.getElem?_set]
    have e : s[i]?.getD 0 = s[i] := by simp [hlt]
    rw [e]
    by_cases hq : s[i].toNat = c.toNat
    · have hq2 : s[i] = c := UInt8.toNat_inj.1 hq
      rw [if_pos hq, if_pos (by rw [hlen]; omega)]
      simp [hq2]
    · rw [if_neg hq, ih]
      have hq2 : ¬ c = s[i] := fun h => hq (by rw [h])
      rw [Bool.eq_iff_iff, decide_eq_true_eq, decide_eq_true_eq, List.mem_append, List.mem_singleton]
      exact ⟨.inl, fun h => h.elim id fun h => absurd h hq2⟩
theorem last_of2 {s : List UInt8} (h0 : 0 < s.length) : s = s.take (s.length - 1) ++ [s.getD (s.length - 1) 0] := by
  rw [getD_lt (by omega), List.take_append_getElem (by omega), List.take_of_length_le (by omega)]
theorem endOff_snoc (p : UInt8 → Bool) (t : List UInt8) (c : UInt8) : endOff p (t ++ [c]) = if p c = true then endOff p t else t ++ [c] := by
  unfold endOff
  rw [List.reverse_append, List.reverse_singleton, List.singleton_append, List.dropWhile_cons]
  split <;> simp_all
theorem endOff_y {p : UInt8 → Bool} {s : List UInt8} (h0 : 0 < s.length) (h : p (s.getD (s.length - 1) 0) = true) : endOff p (s.take (s.length - 1)) = endOff p s := by
  conv => rhs; rw [last_of2 h0, endOff_snoc, if_pos h]
theorem endOff_n {p : UInt8 → Bool} {s : List UInt8} (h : 0 < s.length → p (s.getD (s.length - 1) 0) = false) : endOff p s = s := by
  by_cases h0 : 0 < s.length
  · conv => lhs; rw [last_of2 h0, endOff_snoc, if_neg (by rw [h h0]; decide)]
    exact (last_of2 h0).symm
  · have : s = [] := List.eq_nil_of_length_eq_zero (by omega)
    subst this; rfl
theorem dropW_y {p : UInt8 → Bool} {s : List UInt8} (h0 : 0 < s.length) (h : p (s.getD 0 0) = true) : (s.drop 1).dropWhile p = s.dropWhile p := by
  cases s with
  | nil => simp at h0
  | cons c t =>
    have h' : p c = true := h
    rw [List.dropWhile_cons, if_pos h']; rfl
theorem dropW_n {p : UInt8 → Bool} {s : List UInt8} (h : 0 < s.length → p (s.getD 0 0) = false) : s.dropWhile p = s := by
  cases s with
  | nil => rfl
  | cons c t => rw [List.dropWhile_cons, if_neg (by have := h (by simp); rw [show (c :: t).getD 0 0 = c from rfl] at this; rw [this]; decide)]
theorem dropW_nil {p : UInt8 → Bool} : ∀ {s : List UInt8}, s.dropWhile p = [] ↔ s.all p = true
  | [] => by simp
  | c :: t => by
    rw [List.dropWhile_cons, List.all_cons]
    cases h : p c with
    | true => simpa using dropW_nil
    | false => simp
theorem trim_nil (p : UInt8 → Bool) (s : List UInt8) : (endOff p s).dropWhile p = [] ↔ s.all p = true := by
  rw [dropW_nil]
  unfold endOff
  rw [List.all_reverse, ← dropW_nil]
  have hd : (s.reverse.dropWhile p).dropWhile p = s.reverse.dropWhile p := by
    generalize s.reverse = t
    induction t with
    | nil => rfl
    | cons c t ih =>
      rw [List.dropWhile_cons]
      cases h : p c with
      | true => simpa using ih
      | false => simp [List.dropWhile_cons, h]
  rw [hd, dropW_nil, List.all_reverse]
theorem containsU_ok (tab : List Bool) (hl : tab.length = 256) (c : UInt8) : FnOk Tryd.prog 167 [.cell (tab.map .bool), .int .u8 c.toNat] (.bool (tab.getD c.toNat false)) [] := by
  have h := contains_ok tab c.toNat hl (by omega) (by have := c.toNat_lt; omega)
  rwa [Int.toNat_natCast] at h

set_option maxHeartbeats 1000000 in
theorem trimLeftA_ok (tab : List Bool) (hl : tab.length = 256) (p : UInt8 → Bool) (hp : ∀ c : UInt8, tab.getD c.toNat false = p c) (s : List UInt8) :
    FnOk Tryd.prog 174 [.str s, .cell (tab.map .bool)] (.str (s.dropWhile p)) [] := by
  refine FnOk.of_vc Tryd.func174 rfl (by decide) (by simp [Tryd.f174]) [.tmp 4] rfl fun w0 T0 _ => ?_
  simp only [Tryd.f174, argEnv]
  (repeat' first | with_reducible (first | refine Asm.intro fun _ => ?_ | refine Chk.g ?_ | refine AnyI.i64 fun _ _ => ?_ | refine LetW.g ?_ | refine LetW.h ?_ | refine Ite.t fun _ => ?_ | refine Ite.f fun _ => ?_ | refine Ite.decide (fun _ => ?_) fun _ => ?_ | refine Ite.bool (fun _ => ?_) fun _ => ?_ | refine And.intro ?_ ?_) | omega | simp (maxSteps := 1000000) only [go_sem, reduceCtorEq, Nat.reduceLT, Nat.reduceLeDiff, reduceIte, ↓reduceIte, Nat.reduceEqDiff, Nat.reduceAdd, Nat.reduceMul, Nat.reduceSub, Int.reduceLE, Int.reduceLT, Int.reduceNeg, Int.reduceToNat])
  refine VcLoop.intro (fun t : List UInt8 => ⟨16, [(0, .str t), (1, .cell (tab.map .bool))], [], 0⟩) (fun t => t.dropWhile p = s.dropWhile p) (fun t => t.length) s ?_ rfl fun t he => ?_
  · refine Ent.auto0 rfl ?_ ?_ <;> simp only [go_sem, reduceCtorEq, reduceIte, Nat.reduceEqDiff, Nat.reduceLT, Nat.reduceLeDiff, Int.natCast_succ]
  (repeat' first | with_reducible (first | refine Asm.intro fun _ => ?_ | refine Chk.g ?_ | refine AnyI.i64 fun _ _ => ?_ | refine LetW.g ?_ | refine LetW.h ?_ | refine Ite.t fun _ => ?_ | refine Ite.f fun _ => ?_ | refine Ite.decide (fun _ => ?_) fun _ => ?_ | refine Ite.bool (fun _ => ?_) fun _ => ?_ | refine And.intro ?_ ?_) | omega | simp (maxSteps := 1000000) only [go_sem, reduceCtorEq, Nat.reduceLT, Nat.reduceLeDiff, reduceIte, ↓reduceIte, Nat.reduceEqDiff, Nat.reduceAdd, Nat.reduceMul, Nat.reduceSub, Int.reduceLE, Int.reduceLT, Int.reduceNeg, Int.reduceToNat])
  · have k := containsU_ok tab hl (t.getD 0 0)
    rw [hp] at k
    refine VcCall.fr (args' := [.cell (tab.map .bool), .int .u8 (t.getD 0 0).toNat]) (FnFr.of_ok k rfl rfl) (by simp [argOkL, allOk, argOkN]) 0 rfl (by simp [rowsB]) ?_
    cases hq : p (t.getD 0 0) with
    | true =>
      (repeat' first | with_reducible (first | refine Asm.intro fun _ => ?_ | refine Chk.g ?_ | refine AnyI.i64 fun _ _ => ?_ | refine LetW.g ?_ | refine LetW.h ?_ | refine Ite.t fun _ => ?_ | refine Ite.f fun _ => ?_ | refine Ite.decide (fun _ => ?_) fun _ => ?_ | refine Ite.bool (fun _ => ?_) fun _ => ?_ | refine And.intro ?_ ?_) | omega | simp (maxSteps := 1000000) only [go_sem, reduceCtorEq, Nat.reduceLT, Nat.reduceLeDiff, reduceIte, ↓reduceIte, Nat.reduceEqDiff, Nat.reduceAdd, Nat.reduceMul, Nat.reduceSub, Int.reduceLE, Int.reduceLT, Int.reduceNeg, Int.reduceToNat])
      refine ⟨t.drop 1, Ent.auto0 rfl ?_ ?_, ?_, ?_⟩
      · simp only [go_sem, reduceCtorEq, reduceIte, Nat.reduceEqDiff, Nat.reduceLT, Nat.reduceLeDiff, Int.natCast_succ]
        all_goals first | rfl | exact List.take_of_length_le (by simp)
      · simp only [go_sem, reduceCtorEq, reduceIte, Nat.reduceEqDiff, Nat.reduceLT, Nat.reduceLeDiff, Int.natCast_succ]
      · rw [dropW_y (by omega) hq]; exact he
      · simp; omega
    | false =>
      have e : t = s.dropWhile p := by rw [← he, dropW_n (fun _ => hq)]
      (repeat' first | with_reducible (first | refine Asm.intro fun _ => ?_ | refine Chk.g ?_ | refine AnyI.i64 fun _ _ => ?_ | refine LetW.g ?_ | refine LetW.h ?_ | refine Ite.t fun _ => ?_ | refine Ite.f fun _ => ?_ | refine Ite.decide (fun _ => ?_) fun _ => ?_ | refine Ite.bool (fun _ => ?_) fun _ => ?_ | refine And.intro ?_ ?_) | omega | simp (maxSteps := 1000000) only [go_sem, reduceCtorEq, Nat.reduceLT, Nat.reduceLeDiff, reduceIte, ↓reduceIte, Nat.reduceEqDiff, Nat.reduceAdd, Nat.reduceMul, Nat.reduceSub, Int.reduceLE, Int.reduceLT, Int.reduceNeg, Int.reduceToNat])
      refine Ret.auto 0 ?_ rfl ?_ <;> simp only [go_sem, reduceCtorEq, reduceIte, Nat.reduceEqDiff, Nat.reduceLT, Nat.reduceLeDiff, Int.natCast_succ, Post, e]
  · have e : t = s.dropWhile p := by rw [← he, dropW_n (fun h => by omega)]
    refine Ret.auto 0 ?_ rfl ?_ <;> simp only [go_sem, reduceCtorEq, reduceIte, Nat.reduceEqDiff, Nat.reduceLT, Nat.reduceLeDiff, Int.natCast_succ, Post, e]
set_option maxHeartbeats 1000000 in
theorem trimRightA_ok (tab : List Bool) (hl : tab.length = 256) (p : UInt8 → Bool) (hp : ∀ c : UInt8, tab.getD c.toNat false = p c) (s : List UInt8) :
    FnOk Tryd.prog 171 [.str s, .cell (tab.map .bool)] (.str (endOff p s)) [] := by
  refine FnOk.of_vc Tryd.func171 rfl (by decide) (by simp [Tryd.f171]) [.tmp 4] rfl fun w0 T0 _ => ?_
  simp only [Tryd.f171, argEnv]
  (repeat' first | with_reducible (first | refine Asm.intro fun _ => ?_ | refine Chk.g ?_ | refine AnyI.i64 fun _ _ => ?_ | refine LetW.g ?_ | refine LetW.h ?_ | refine Ite.t fun _ => ?_ | refine Ite.f fun _ => ?_ | refine Ite.decide (fun _ => ?_) fun _ => ?_ | refine Ite.bool (fun _ => ?_) fun _ => ?_ | refine And.intro ?_ ?_) | omega | simp (maxSteps := 1000000) only [go_sem, reduceCtorEq, Nat.reduceLT, Nat.reduceLeDiff, reduceIte, ↓reduceIte, Nat.reduceEqDiff, Nat.reduceAdd, Nat.reduceMul, Nat.reduceSub, Int.reduceLE, Int.reduceLT, Int.reduceNeg, Int.reduceToNat])
  refine VcLoop.intro (fun t : List UInt8 => ⟨22, [(0, .str t), (1, .cell (tab.map .bool))], [], 0⟩) (fun t => endOff p t = endOff p s) (fun t => t.length) s ?_ rfl fun t he => ?_
  · refine Ent.auto0 rfl ?_ ?_ <;> simp only [go_sem, reduceCtorEq, reduceIte, Nat.reduceEqDiff, Nat.reduceLT, Nat.reduceLeDiff, Int.natCast_succ]
  have et : ((t.length : Int) - 1).toNat = t.length - 1 := by omega
  (repeat' first | with_reducible (first | refine Asm.intro fun _ => ?_ | refine Chk.g ?_ | refine AnyI.i64 fun _ _ => ?_ | refine LetW.g ?_ | refine LetW.h ?_ | refine Ite.t fun _ => ?_ | refine Ite.f fun _ => ?_ | refine Ite.decide (fun _ => ?_) fun _ => ?_ | refine Ite.bool (fun _ => ?_) fun _ => ?_ | refine And.intro ?_ ?_) | omega | simp (maxSteps := 1000000) only [go_sem, reduceCtorEq, Nat.reduceLT, Nat.reduceLeDiff, reduceIte, ↓reduceIte, Nat.reduceEqDiff, Nat.reduceAdd, Nat.reduceMul, Nat.reduceSub, Int.reduceLE, Int.reduceLT, Int.reduceNeg, Int.reduceToNat, et])
  · have k := containsU_ok tab hl (t.getD (t.length - 1) 0)
    rw [hp] at k
    refine VcCall.fr (args' := [.cell (tab.map .bool), .int .u8 (t.getD (t.length - 1) 0).toNat]) (FnFr.of_ok k rfl rfl) (by simp [argOkL, allOk, argOkN]) 0 rfl (by simp [rowsB]) ?_
    cases hq : p (t.getD (t.length - 1) 0) with
    | true =>
      (repeat' first | with_reducible (first | refine Asm.intro fun _ => ?_ | refine Chk.g ?_ | refine AnyI.i64 fun _ _ => ?_ | refine LetW.g ?_ | refine LetW.h ?_ | refine Ite.t fun _ => ?_ | refine Ite.f fun _ => ?_ | refine Ite.decide (fun _ => ?_) fun _ => ?_ | refine Ite.bool (fun _ => ?_) fun _ => ?_ | refine And.intro ?_ ?_) | omega | simp (maxSteps := 1000000) only [go_sem, reduceCtorEq, Nat.reduceLT, Nat.reduceLeDiff, reduceIte, ↓reduceIte, Nat.reduceEqDiff, Nat.reduceAdd, Nat.reduceMul, Nat.reduceSub, Int.reduceLE, Int.reduceLT, Int.reduceNeg, Int.reduceToNat, et])
      refine ⟨t.take (t.length - 1), Ent.auto0 rfl ?_ ?_, ?_, ?_⟩
      · simp only [go_sem, reduceCtorEq, reduceIte, Nat.reduceEqDiff, Nat.reduceLT, Nat.reduceLeDiff, Int.natCast_succ, et]
        all_goals rfl
      · simp only [go_sem, reduceCtorEq, reduceIte, Nat.reduceEqDiff, Nat.reduceLT, Nat.reduceLeDiff, Int.natCast_succ]
      · rw [endOff_y (by omega) hq]; exact he
      · simp; omega
    | false =>
      have e : t = endOff p s := by rw [← he, endOff_n (fun _ => hq)]
      (repeat' first | with_reducible (first | refine Asm.intro fun _ => ?_ | refine Chk.g ?_ | refine AnyI.i64 fun _ _ => ?_ | refine LetW.g ?_ | refine LetW.h ?_ | refine Ite.t fun _ => ?_ | refine Ite.f fun _ => ?_ | refine Ite.decide (fun _ => ?_) fun _ => ?_ | refine Ite.bool (fun _ => ?_) fun _ => ?_ | refine And.intro ?_ ?_) | omega | simp (maxSteps := 1000000) only [go_sem, reduceCtorEq, Nat.reduceLT, Nat.reduceLeDiff, reduceIte, ↓reduceIte, Nat.reduceEqDiff, Nat.reduceAdd, Nat.reduceMul, Nat.reduceSub, Int.reduceLE, Int.reduceLT, Int.reduceNeg, Int.reduceToNat])
      refine Ret.auto 0 ?_ rfl ?_ <;> simp only [go_sem, reduceCtorEq, reduceIte, Nat.reduceEqDiff, Nat.reduceLT, Nat.reduceLeDiff, Int.natCast_succ, Post, e]
  · have e : t = endOff p s := by rw [← he, endOff_n (fun h => by omega)]
    refine Ret.auto 0 ?_ rfl ?_ <;> simp only [go_sem, reduceCtorEq, reduceIte, Nat.reduceEqDiff, Nat.reduceLT, Nat.reduceLeDiff, Int.natCast_succ, Post, e]

set_option maxHeartbeats 1000000 in
theorem trimA_ok (s cut : List UInt8) (hc : ∀ i, i < cut.length → (cut.getD i 0).toNat < 128) (h2 : 2 ≤ cut.length) :
    FnOk Tryd.prog 125 [.str s, .str cut] (.str ((endOff (inCut cut) s).dropWhile (inCut cut))) [] := by
  have hlen := asciiAt_len cut cut.length
  have km := makeAscii_ok cut hc
  have hg : ∀ c : UInt8, (asciiAt cut cut.length).getD c.toNat false = inCut cut c := fun c => by
    rw [asciiAt_get cut c _ (Nat.le_refl _), List.take_length]; rfl
  have hne : ¬ cut = [] := fun e => by subst e; simp at h2
  refine FnOk.of_vc Tryd.func125 rfl (by decide) (by simp [Tryd.f125]) [.tmp 4] rfl fun w0 T0 _ => ?_
  simp only [Tryd.f125, argEnv]
  by_cases h0 : s = []
  · have e : (endOff (inCut cut) []).dropWhile (inCut cut) = [] := rfl
    (repeat' first | with_reducible (first | refine Asm.intro fun _ => ?_ | refine Chk.g ?_ | refine AnyI.i64 fun _ _ => ?_ | refine LetW.g ?_ | refine LetW.h ?_ | refine Ite.t fun _ => ?_ | refine Ite.f fun _ => ?_ | refine Ite.decide (fun _ => ?_) fun _ => ?_ | refine Ite.bool (fun _ => ?_) fun _ => ?_ | refine And.intro ?_ ?_) | omega | simp (maxSteps := 1000000) only [go_sem, reduceCtorEq, Nat.reduceLT, Nat.reduceLeDiff, reduceIte, ↓reduceIte, Nat.reduceEqDiff, Nat.reduceAdd, Nat.reduceMul, Nat.reduceSub, Int.reduceLE, Int.reduceLT, Int.reduceNeg, Int.reduceToNat, h0])
    refine Ret.auto 0 ?_ rfl ?_ <;> simp only [go_sem, reduceCtorEq, reduceIte, Nat.reduceEqDiff, Nat.reduceLT, Nat.reduceLeDiff, Int.natCast_succ, Post, e]
  generalize inCut cut = p at *
  (repeat' first | with_reducible (first | refine Asm.intro fun _ => ?_ | refine Chk.g ?_ | refine AnyI.i64 fun _ _ => ?_ | refine LetW.g ?_ | refine LetW.h ?_ | refine Ite.t fun _ => ?_ | refine Ite.f fun _ => ?_ | refine Ite.decide (fun _ => ?_) fun _ => ?_ | refine Ite.bool (fun _ => ?_) fun _ => ?_ | refine And.intro ?_ ?_) | omega | simp (maxSteps := 1000000) only [go_sem, reduceCtorEq, Nat.reduceLT, Nat.reduceLeDiff, reduceIte, ↓reduceIte, Nat.reduceEqDiff, Nat.reduceAdd, Nat.reduceMul, Nat.reduceSub, Int.reduceLE, Int.reduceLT, Int.reduceNeg, Int.reduceToNat, h0, hne])
  refine VcCall.fr (args' := [.str cut]) (FnFr.of_ok km (by simp [noRo, noRoL, noRoL_bools]) rfl) (by simp [argOkL, allOk, argOkN]) 0 (by simp [Fv.below, belowL, belowL_bools]) (by simp [rowsB]) ?_
  generalize asciiAt cut cut.length = tab at hlen hg ⊢
  simp (maxSteps := 1000000) only [go_sem, reduceCtorEq, Nat.reduceLT, Nat.reduceLeDiff, reduceIte, ↓reduceIte, Nat.reduceEqDiff, Nat.reduceAdd, Nat.reduceMul, Nat.reduceSub, Int.reduceLE, Int.reduceLT, Int.reduceNeg, Int.reduceToNat]
  have e1 : spl (List.replicate 256 (AV.bool false)) 0 (tab.map .bool) = tab.map .bool := spl_all (by simp [hlen])
  refine Chk.intro (by simp [hlen]) ?_
  rw [e1]
  refine Chk.intro (by omega) ?_
  refine VcCall.fr (args' := [.str s, .cell (tab.map .bool)]) (FnFr.of_ok (trimRightA_ok tab hlen p hg s) rfl rfl) ?_ 0 rfl (by simp [rowsB]) ?_
  · exact ⟨_, _, rfl, ⟨_, _, ⟨_, _, _, rfl, allOk_bools _ 4 _, rfl⟩, rfl, rfl⟩, rfl⟩
  simp (maxSteps := 1000000) only [go_sem, reduceCtorEq, Nat.reduceLT, Nat.reduceLeDiff, reduceIte, ↓reduceIte, Nat.reduceEqDiff, Nat.reduceAdd, Nat.reduceMul, Nat.reduceSub, Int.reduceLE, Int.reduceLT, Int.reduceNeg, Int.reduceToNat]
  refine VcCall.fr (args' := [.str (endOff p s), .cell (tab.map .bool)]) (FnFr.of_ok (trimLeftA_ok tab hlen p hg (endOff p s)) rfl rfl) ?_ 0 rfl (by simp [rowsB]) ?_
  · exact ⟨_, _, rfl, ⟨_, _, ⟨_, _, _, rfl, allOk_bools _ 4 _, rfl⟩, rfl, rfl⟩, rfl⟩
  simp (maxSteps := 1000000) only [go_sem, reduceCtorEq, Nat.reduceLT, Nat.reduceLeDiff, reduceIte, ↓reduceIte, Nat.reduceEqDiff, Nat.reduceAdd, Nat.reduceMul, Nat.reduceSub, Int.reduceLE, Int.reduceLT, Int.reduceNeg, Int.reduceToNat]
  refine Ret.auto 0 ?_ rfl ?_ <;> simp only [go_sem, reduceCtorEq, reduceIte, Nat.reduceEqDiff, Nat.reduceLT, Nat.reduceLeDiff, Int.natCast_succ, Post]

end Go.Fv.S

/- Tokens of a text: what Split and its reference compute, in plain words. -/
namespace Go.Fv.S
open Go
set_option linter.unusedSimpArgs false
set_option linter.unusedVariables false
set_option linter.unnecessarySimpa false

abbrev Bytes := List UInt8
end Go.Fv.S

/- Letters, words, and the trims at one byte. -/
namespace Go.Fv.S
open Go Go.Proofs
set_option linter.unusedSimpArgs false
set_option linter.unusedVariables false
set_option linter.unnecessarySimpa false
set_option maxRecDepth 8000

end Go.Fv.S

/- The trims at the quote. -/
namespace Go.Fv.S
open Go Go.Proofs
set_option linter.unusedSimpArgs false
set_option linter.unusedVariables false
set_option linter.unnecessarySimpa false
set_option maxRecDepth 8000

end Go.Fv.S

/- strings.Index, strings.Count, by the contracts of the shelf. -/
namespace Go.Proofs
open Go.Shelf
def Tryd.lays143_ren : Go.Shelf.Ren := ⟨fun | 143 => 149 | 219 => 185 | 217 => 168 | 225 => 194 | 224 => 193 | 267 => 207 | 266 => 195 | 314 => 218 | n => n, fun | 9 => 9 | 3 => 3 | 4 => 4 | 5 => 5 | 46 => 207 | 146 => 226 | 51 => 225 | n => n, fun | 1 => 0 | n => n⟩
end Go.Proofs
namespace Go.Proofs
open Go.Shelf
def Tryd.lays138_ren : Go.Shelf.Ren := ⟨fun | 138 => 86 | 195 => 147 | 218 => 148 | 143 => 149 | 219 => 185 | 217 => 168 | 225 => 194 | 224 => 193 | 267 => 207 | 266 => 195 | 314 => 218 | n => n, fun | 9 => 9 | 3 => 3 | 4 => 4 | 5 => 5 | 0 => 0 | 46 => 207 | 146 => 226 | 51 => 225 | n => n, fun | 1 => 0 | n => n⟩
theorem Tryd.lays138 : Go.Proofs.LaysM.n138 Tryd.prog Tryd.lays138_ren := {
  mixed := by kernel_rfl
  f138 := Tryd.func86.trans (congrArg some (by kernel_rfl))
  f143 := Tryd.func149.trans (congrArg some (by kernel_rfl))
  f195 := Tryd.func147.trans (congrArg some (by kernel_rfl))
  f217 := Tryd.func168.trans (congrArg some (by kernel_rfl))
  f218 := Tryd.func148.trans (congrArg some (by kernel_rfl))
  f219 := Tryd.func185.trans (congrArg some (by kernel_rfl))
  f224 := Tryd.func193.trans (congrArg some (by kernel_rfl))
  f225 := Tryd.func194.trans (congrArg some (by kernel_rfl))
  f266 := Tryd.func195.trans (congrArg some (by kernel_rfl))
  f267 := Tryd.func207.trans (congrArg some (by kernel_rfl))
  f314 := Tryd.func218.trans (congrArg some (by kernel_rfl))
  t0 := Tryd.underlying0
  a0 := Tryd.isAgg0
  z0 := Tryd.sizeOf0
  v0 := Tryd.zeroValue0
  t3 := Tryd.underlying3
  a3 := Tryd.isAgg3
  z3 := Tryd.sizeOf3
  v3 := Tryd.zeroValue3
  t4 := Tryd.underlying4
  a4 := Tryd.isAgg4
  z4 := Tryd.sizeOf4
  v4 := Tryd.zeroValue4
  t5 := Tryd.underlying5
  a5 := Tryd.isAgg5
  z5 := Tryd.sizeOf5
  v5 := Tryd.zeroValue5
  t9 := Tryd.underlying9
  a9 := Tryd.isAgg9
  z9 := Tryd.sizeOf9
  v9 := Tryd.zeroValue9
  t46 := Tryd.underlying207
  a46 := Tryd.isAgg207
  z46 := Tryd.sizeOf207
  v46 := Tryd.zeroValue207
  t51 := Tryd.underlying225
  a51 := Tryd.isAgg225
  z51 := Tryd.sizeOf225
  v51 := Tryd.zeroValue225
  t146 := Tryd.underlying226
  a146 := Tryd.isAgg226
  z146 := Tryd.sizeOf226
  v146 := Tryd.zeroValue226
  g1 := by kernel_rfl
  i0 := by kernel_rfl
  i3 := by kernel_rfl
  i4 := by kernel_rfl
  i5 := by kernel_rfl
  i9 := by kernel_rfl
  i46 := by kernel_rfl
  i51 := by kernel_rfl
  i146 := by kernel_rfl
  m1 := by kernel_rfl
  s1_3 := fun w h => Go.Proofs.cell_of_shapedOpen_int (zero := #[.int .i64 0]) (t := 3) h (of_decide_eq_true (by kernel_rfl)) (by kernel_rfl) rfl (by kernel_rfl) (by kernel_rfl) Tryd.underlying3 }
end Go.Proofs
namespace Go.Fv.S
open Go Go.Proofs
set_option linter.unusedSimpArgs false
set_option linter.unusedVariables false
set_option linter.unnecessarySimpa false
set_option maxRecDepth 8000

/-- strings.Count at one byte, by the contract of the shelf. -/
theorem count_ok (s : List UInt8) (c : UInt8) : FnOk Tryd.prog 86 [.str s, .str [c]] (.int .i64 ((s.count c : Nat) : Int)) [] := by
  refine ⟨⟨_, Tryd.func86, by kernel_rfl, by kernel_rfl⟩, fun w T vals hg hv => ?_⟩
  cases hv with
  | cons _ _ _ _ h1 hv => cases hv with
    | cons _ _ _ _ h2 hv =>
      cases hv
      cases h1 with
      | str _ e1 => cases h2 with
        | str _ e2 =>
          have L := Tryd.lays138
          refine (Any.strings_Count_one { L with } ⟨s.toArray⟩ c w).mono ?_
          rintro e w' ⟨rfl, rfl⟩
          refine ⟨_, rfl, RowKit.Below.refl _ _, fun _ => undef, 0, ?_, ?_, ?_⟩
          · have h1 : s.count c ≤ s.length := List.count_le_length
            have h3 : s.length ≤ 9223372036854775807 := e1
            have e1 : IntKind.i64.min = -9223372036854775808 := by decide
            have e2 : IntKind.i64.max = 9223372036854775807 := by decide
            exact .int .i64 _ ⟨by rw [e1]; omega, by rw [e2]; omega⟩
          · intro i it h; cases h
          · intro i j it jt b h; cases h
end Go.Fv.S

/- A text is one word just where its tokens are that word alone; small letters. -/
namespace Go.Fv.S
open Go
set_option linter.unusedSimpArgs false
set_option linter.unusedVariables false
set_option linter.unnecessarySimpa false

end Go.Fv.S

/- Small letters: the bytes on the way. -/
namespace Go.Fv.S
open Go Go.Proofs
set_option linter.unusedSimpArgs false
set_option linter.unusedVariables false
set_option linter.unnecessarySimpa false
set_option maxRecDepth 8000

theorem bytesOf_byteInts (l : List UInt8) : bytesOf (byteInts l) = l := by
  unfold bytesOf byteInts
  rw [List.map_map]
  conv => rhs; rw [← List.map_id l]
  refine List.map_congr_left fun b _ => ?_
  simp
end Go.Fv.S
