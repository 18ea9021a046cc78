/-
  A part of the proof of the claim: walks over the program's functions and the plain laws that these need. No condition of its own.
-/
import Derived.Test.YtpnlkjeedfmhfaaDoorSKindsCardPart8
import Derived.Test.YtpnlkjeedfmhfaaDoorSKindsCardPart9
import Derived.Test.YtpnlkjeedfmhfaaDoorFvPart6
import Derived.Test.YtpnlkjeedfmhfaaDoorFvPart10
/- Kind and its reference. -/

namespace Go.Fv.S
open Go Go.Proofs
set_option linter.unusedSimpArgs false
set_option linter.unusedVariables false
set_option linter.unnecessarySimpa false
set_option maxRecDepth 8000

theorem begins1_ok (c start : List UInt8) : FnOk Tryd.prog 190 [.str c, .cell [.str start]] (.bool (start.isPrefixOf c)) [] := by
  have k := hasPrefix_ok c start
  refine FnOk.of_vc Tryd.func190 rfl (by decide) (by simp [Tryd.f190]) [.tmp 3] rfl fun w0 T0 _ => ?_
  simp only [Tryd.f190, argEnv]
  (repeat' first | (with_reducible refine Asm.intro fun _ => ?_) | ((with_reducible refine Chk.intro ?_ ?_); (· first | omega | (with_reducible refine Chk.intro ?_ ?_ <;> omega) | (simp; done) | (simp; omega))) | (with_reducible refine AnyI.i64 fun _ _ => ?_) | ((with_reducible refine LetW.i64 ?_ ?_ ?_); (· omega); (· omega)) | ((with_reducible refine LetW.u8 ?_ ?_ ?_); (· omega); (· omega)) | ((with_reducible refine Ite.decide (fun _ => ?_) (fun _ => ?_)) <;> first | (exfalso; omega) | skip) | (with_reducible refine Ite.bool (fun _ => ?_) (fun _ => ?_)) | (with_reducible refine And.intro ?_ ?_) | omega | simp (maxSteps := 1000000) only [go_sem, reduceCtorEq, Nat.reduceLT, Nat.reduceLeDiff, reduceIte, ↓reduceIte, Nat.reduceEqDiff, Nat.reduceAdd, Nat.reduceMul, Nat.reduceSub, Int.reduceLE, Int.reduceLT, Int.reduceNeg, Int.reduceToNat])
  refine VcCall.fr (FnFr.of_ok (k) rfl rfl) (by simp only [noIdR_ok, argOkL, argOk, allOk, argOkN, List.drop_zero, lk, reduceIte, reduceCtorEq, Nat.reduceEqDiff, Option.some.injEq, Item.row.injEq, Item.box.injEq, AV.ro.injEq, exists_eq_left, exists_and_left, exists_eq_left', exists_eq_right, and_assoc, and_true, true_and, List.cons.injEq, exists_eq', exists_eq]) 0 rfl (by simp [rowsB]) ?_
  (repeat' first | (with_reducible refine Asm.intro fun _ => ?_) | ((with_reducible refine Chk.intro ?_ ?_); (· first | omega | (with_reducible refine Chk.intro ?_ ?_ <;> omega) | (simp; done) | (simp; omega))) | (with_reducible refine AnyI.i64 fun _ _ => ?_) | ((with_reducible refine LetW.i64 ?_ ?_ ?_); (· omega); (· omega)) | ((with_reducible refine LetW.u8 ?_ ?_ ?_); (· omega); (· omega)) | ((with_reducible refine Ite.decide (fun _ => ?_) (fun _ => ?_)) <;> first | (exfalso; omega) | skip) | (with_reducible refine Ite.bool (fun _ => ?_) (fun _ => ?_)) | (with_reducible refine And.intro ?_ ?_) | omega | simp (maxSteps := 1000000) only [go_sem, reduceCtorEq, Nat.reduceLT, Nat.reduceLeDiff, reduceIte, ↓reduceIte, Nat.reduceEqDiff, Nat.reduceAdd, Nat.reduceMul, Nat.reduceSub, Int.reduceLE, Int.reduceLT, Int.reduceNeg, Int.reduceToNat])
  refine Ret.auto 0 ?_ rfl ?_ <;> simp only [go_sem, reduceCtorEq, reduceIte, Nat.reduceEqDiff, Nat.reduceLT, Nat.reduceLeDiff, Int.natCast_succ, Post]
theorem refBegins1_ok (c start : List UInt8) : FnOk Tryd.prog 161 [.str c, .cell [.str start]] (.bool (start.isPrefixOf c)) [] := by
  have k := hasPrefix_ok c start
  refine FnOk.of_vc Tryd.func161 rfl (by decide) (by simp [Tryd.f161]) [.tmp 3] rfl fun w0 T0 _ => ?_
  simp only [Tryd.f161, argEnv]
  (repeat' first | (with_reducible refine Asm.intro fun _ => ?_) | ((with_reducible refine Chk.intro ?_ ?_); (· first | omega | (with_reducible refine Chk.intro ?_ ?_ <;> omega) | (simp; done) | (simp; omega))) | (with_reducible refine AnyI.i64 fun _ _ => ?_) | ((with_reducible refine LetW.i64 ?_ ?_ ?_); (· omega); (· omega)) | ((with_reducible refine LetW.u8 ?_ ?_ ?_); (· omega); (· omega)) | ((with_reducible refine Ite.decide (fun _ => ?_) (fun _ => ?_)) <;> first | (exfalso; omega) | skip) | (with_reducible refine Ite.bool (fun _ => ?_) (fun _ => ?_)) | (with_reducible refine And.intro ?_ ?_) | omega | simp (maxSteps := 1000000) only [go_sem, reduceCtorEq, Nat.reduceLT, Nat.reduceLeDiff, reduceIte, ↓reduceIte, Nat.reduceEqDiff, Nat.reduceAdd, Nat.reduceMul, Nat.reduceSub, Int.reduceLE, Int.reduceLT, Int.reduceNeg, Int.reduceToNat])
  refine VcCall.fr (FnFr.of_ok (k) rfl rfl) (by simp only [noIdR_ok, argOkL, argOk, allOk, argOkN, List.drop_zero, lk, reduceIte, reduceCtorEq, Nat.reduceEqDiff, Option.some.injEq, Item.row.injEq, Item.box.injEq, AV.ro.injEq, exists_eq_left, exists_and_left, exists_eq_left', exists_eq_right, and_assoc, and_true, true_and, List.cons.injEq, exists_eq', exists_eq]) 0 rfl (by simp [rowsB]) ?_
  (repeat' first | (with_reducible refine Asm.intro fun _ => ?_) | ((with_reducible refine Chk.intro ?_ ?_); (· first | omega | (with_reducible refine Chk.intro ?_ ?_ <;> omega) | (simp; done) | (simp; omega))) | (with_reducible refine AnyI.i64 fun _ _ => ?_) | ((with_reducible refine LetW.i64 ?_ ?_ ?_); (· omega); (· omega)) | ((with_reducible refine LetW.u8 ?_ ?_ ?_); (· omega); (· omega)) | ((with_reducible refine Ite.decide (fun _ => ?_) (fun _ => ?_)) <;> first | (exfalso; omega) | skip) | (with_reducible refine Ite.bool (fun _ => ?_) (fun _ => ?_)) | (with_reducible refine And.intro ?_ ?_) | omega | simp (maxSteps := 1000000) only [go_sem, reduceCtorEq, Nat.reduceLT, Nat.reduceLeDiff, reduceIte, ↓reduceIte, Nat.reduceEqDiff, Nat.reduceAdd, Nat.reduceMul, Nat.reduceSub, Int.reduceLE, Int.reduceLT, Int.reduceNeg, Int.reduceToNat])
  refine Ret.auto 0 ?_ rfl ?_ <;> simp only [go_sem, reduceCtorEq, reduceIte, Nat.reduceEqDiff, Nat.reduceLT, Nat.reduceLeDiff, Int.natCast_succ, Post]
theorem begins_ok (s : Sh) (start : List UInt8) : FnOk Tryd.prog 158 [.agg s.av, .str start] (.bool (begB s.codes start)) [] := by
  haveI c1 : CapsOk [.cell [.str start]] := ⟨rfl⟩
  have k := contFuncS_ok s.codes 190 [.cell [.str start]] (fun c => start.isPrefixOf c) fun c hc => FnFr.of_ok (begins1_ok c start) rfl rfl
  unfold Sh.av begB
  refine FnOk.of_vc Tryd.func158 rfl (by decide) (by simp [Tryd.f158]) [.tmp 4] rfl fun w0 T0 _ => ?_
  simp only [Tryd.f158, argEnv]
  (repeat' first | (with_reducible refine Asm.intro fun _ => ?_) | ((with_reducible refine Chk.intro ?_ ?_); (· first | omega | (with_reducible refine Chk.intro ?_ ?_ <;> omega) | (simp; done) | (simp; omega))) | (with_reducible refine AnyI.i64 fun _ _ => ?_) | ((with_reducible refine LetW.i64 ?_ ?_ ?_); (· omega); (· omega)) | ((with_reducible refine LetW.u8 ?_ ?_ ?_); (· omega); (· omega)) | ((with_reducible refine Ite.decide (fun _ => ?_) (fun _ => ?_)) <;> first | (exfalso; omega) | skip) | (with_reducible refine Ite.bool (fun _ => ?_) (fun _ => ?_)) | (with_reducible refine And.intro ?_ ?_) | omega | simp (maxSteps := 1000000) only [go_sem, reduceCtorEq, Nat.reduceLT, Nat.reduceLeDiff, reduceIte, ↓reduceIte, Nat.reduceEqDiff, Nat.reduceAdd, Nat.reduceMul, Nat.reduceSub, Int.reduceLE, Int.reduceLT, Int.reduceNeg, Int.reduceToNat])
  refine VcCall.fr (FnFr.of_ok (k) rfl rfl) (by simp only [noIdR_ok, argOkL, argOk, allOk, argOkN, List.drop_zero, lk, reduceIte, reduceCtorEq, Nat.reduceEqDiff, Option.some.injEq, Item.row.injEq, Item.box.injEq, AV.ro.injEq, exists_eq_left, exists_and_left, exists_eq_left', exists_eq_right, and_assoc, and_true, true_and, List.cons.injEq, exists_eq', exists_eq]) 0 rfl (by simp [rowsB]) ?_
  (repeat' first | (with_reducible refine Asm.intro fun _ => ?_) | ((with_reducible refine Chk.intro ?_ ?_); (· first | omega | (with_reducible refine Chk.intro ?_ ?_ <;> omega) | (simp; done) | (simp; omega))) | (with_reducible refine AnyI.i64 fun _ _ => ?_) | ((with_reducible refine LetW.i64 ?_ ?_ ?_); (· omega); (· omega)) | ((with_reducible refine LetW.u8 ?_ ?_ ?_); (· omega); (· omega)) | ((with_reducible refine Ite.decide (fun _ => ?_) (fun _ => ?_)) <;> first | (exfalso; omega) | skip) | (with_reducible refine Ite.bool (fun _ => ?_) (fun _ => ?_)) | (with_reducible refine And.intro ?_ ?_) | omega | simp (maxSteps := 1000000) only [go_sem, reduceCtorEq, Nat.reduceLT, Nat.reduceLeDiff, reduceIte, ↓reduceIte, Nat.reduceEqDiff, Nat.reduceAdd, Nat.reduceMul, Nat.reduceSub, Int.reduceLE, Int.reduceLT, Int.reduceNeg, Int.reduceToNat])
  refine Ret.auto 0 ?_ rfl ?_ <;> simp only [go_sem, reduceCtorEq, reduceIte, Nat.reduceEqDiff, Nat.reduceLT, Nat.reduceLeDiff, Int.natCast_succ, Post]
theorem refBegins_ok (s : Sh) (start : List UInt8) : FnOk Tryd.prog 115 [.agg s.av, .str start] (.bool (begB s.codes start)) [] := by
  haveI c1 : CapsOk [.cell [.str start]] := ⟨rfl⟩
  have k := contFuncS_ok s.codes 161 [.cell [.str start]] (fun c => start.isPrefixOf c) fun c hc => FnFr.of_ok (refBegins1_ok c start) rfl rfl
  unfold Sh.av begB
  refine FnOk.of_vc Tryd.func115 rfl (by decide) (by simp [Tryd.f115]) [.tmp 4] rfl fun w0 T0 _ => ?_
  simp only [Tryd.f115, argEnv]
  (repeat' first | (with_reducible refine Asm.intro fun _ => ?_) | ((with_reducible refine Chk.intro ?_ ?_); (· first | omega | (with_reducible refine Chk.intro ?_ ?_ <;> omega) | (simp; done) | (simp; omega))) | (with_reducible refine AnyI.i64 fun _ _ => ?_) | ((with_reducible refine LetW.i64 ?_ ?_ ?_); (· omega); (· omega)) | ((with_reducible refine LetW.u8 ?_ ?_ ?_); (· omega); (· omega)) | ((with_reducible refine Ite.decide (fun _ => ?_) (fun _ => ?_)) <;> first | (exfalso; omega) | skip) | (with_reducible refine Ite.bool (fun _ => ?_) (fun _ => ?_)) | (with_reducible refine And.intro ?_ ?_) | omega | simp (maxSteps := 1000000) only [go_sem, reduceCtorEq, Nat.reduceLT, Nat.reduceLeDiff, reduceIte, ↓reduceIte, Nat.reduceEqDiff, Nat.reduceAdd, Nat.reduceMul, Nat.reduceSub, Int.reduceLE, Int.reduceLT, Int.reduceNeg, Int.reduceToNat])
  refine VcCall.fr (FnFr.of_ok (k) rfl rfl) (by simp only [noIdR_ok, argOkL, argOk, allOk, argOkN, List.drop_zero, lk, reduceIte, reduceCtorEq, Nat.reduceEqDiff, Option.some.injEq, Item.row.injEq, Item.box.injEq, AV.ro.injEq, exists_eq_left, exists_and_left, exists_eq_left', exists_eq_right, and_assoc, and_true, true_and, List.cons.injEq, exists_eq', exists_eq]) 0 rfl (by simp [rowsB]) ?_
  (repeat' first | (with_reducible refine Asm.intro fun _ => ?_) | ((with_reducible refine Chk.intro ?_ ?_); (· first | omega | (with_reducible refine Chk.intro ?_ ?_ <;> omega) | (simp; done) | (simp; omega))) | (with_reducible refine AnyI.i64 fun _ _ => ?_) | ((with_reducible refine LetW.i64 ?_ ?_ ?_); (· omega); (· omega)) | ((with_reducible refine LetW.u8 ?_ ?_ ?_); (· omega); (· omega)) | ((with_reducible refine Ite.decide (fun _ => ?_) (fun _ => ?_)) <;> first | (exfalso; omega) | skip) | (with_reducible refine Ite.bool (fun _ => ?_) (fun _ => ?_)) | (with_reducible refine And.intro ?_ ?_) | omega | simp (maxSteps := 1000000) only [go_sem, reduceCtorEq, Nat.reduceLT, Nat.reduceLeDiff, reduceIte, ↓reduceIte, Nat.reduceEqDiff, Nat.reduceAdd, Nat.reduceMul, Nat.reduceSub, Int.reduceLE, Int.reduceLT, Int.reduceNeg, Int.reduceToNat])
  refine Ret.auto 0 ?_ rfl ?_ <;> simp only [go_sem, reduceCtorEq, reduceIte, Nat.reduceEqDiff, Nat.reduceLT, Nat.reduceLeDiff, Int.natCast_succ, Post]

/-- A set of texts, as a map. -/
def setAv (l : List (List UInt8)) : AV := .mp (l.map .str) (l.map fun _ => .bool true)
theorem lacks_ok (w : List UInt8) (l : List (List UInt8)) : FnOk Tryd.prog 157 [.str w, .cell [setAv l]] (.bool (!decide (w ∈ l))) [] := by
  refine FnOk.of_vc Tryd.func157 rfl (by decide) (by simp [Tryd.f157]) [.tmp 3] rfl fun w0 T0 _ => ?_
  simp only [Tryd.f157, argEnv, setAv]
  (repeat' first | (with_reducible refine Asm.intro fun _ => ?_) | ((with_reducible refine Chk.intro ?_ ?_); (· first | omega | (with_reducible refine Chk.intro ?_ ?_ <;> omega) | (simp; done) | (simp; omega))) | (with_reducible refine AnyI.i64 fun _ _ => ?_) | ((with_reducible refine LetW.i64 ?_ ?_ ?_); (· omega); (· omega)) | ((with_reducible refine LetW.u8 ?_ ?_ ?_); (· omega); (· omega)) | ((with_reducible refine Ite.decide (fun _ => ?_) (fun _ => ?_)) <;> first | (exfalso; omega) | skip) | (with_reducible refine Ite.bool (fun _ => ?_) (fun _ => ?_)) | (with_reducible refine And.intro ?_ ?_) | omega | simp (maxSteps := 1000000) only [go_sem, reduceCtorEq, Nat.reduceLT, Nat.reduceLeDiff, reduceIte, ↓reduceIte, Nat.reduceEqDiff, Nat.reduceAdd, Nat.reduceMul, Nat.reduceSub, Int.reduceLE, Int.reduceLT, Int.reduceNeg, Int.reduceToNat])
  refine Ret.auto 0 ?_ rfl ?_ <;> simp only [go_sem, reduceCtorEq, reduceIte, Nat.reduceEqDiff, Nat.reduceLT, Nat.reduceLeDiff, Int.natCast_succ, Post]
theorem refLacks_ok (w : List UInt8) (l : List (List UInt8)) : FnOk Tryd.prog 114 [.str w, .cell [setAv l]] (.bool (!decide (w ∈ l))) [] := by
  refine FnOk.of_vc Tryd.func114 rfl (by decide) (by simp [Tryd.f114]) [.tmp 3] rfl fun w0 T0 _ => ?_
  simp only [Tryd.f114, argEnv, setAv]
  (repeat' first | (with_reducible refine Asm.intro fun _ => ?_) | ((with_reducible refine Chk.intro ?_ ?_); (· first | omega | (with_reducible refine Chk.intro ?_ ?_ <;> omega) | (simp; done) | (simp; omega))) | (with_reducible refine AnyI.i64 fun _ _ => ?_) | ((with_reducible refine LetW.i64 ?_ ?_ ?_); (· omega); (· omega)) | ((with_reducible refine LetW.u8 ?_ ?_ ?_); (· omega); (· omega)) | ((with_reducible refine Ite.decide (fun _ => ?_) (fun _ => ?_)) <;> first | (exfalso; omega) | skip) | (with_reducible refine Ite.bool (fun _ => ?_) (fun _ => ?_)) | (with_reducible refine And.intro ?_ ?_) | omega | simp (maxSteps := 1000000) only [go_sem, reduceCtorEq, Nat.reduceLT, Nat.reduceLeDiff, reduceIte, ↓reduceIte, Nat.reduceEqDiff, Nat.reduceAdd, Nat.reduceMul, Nat.reduceSub, Int.reduceLE, Int.reduceLT, Int.reduceNeg, Int.reduceToNat])
  refine Ret.auto 0 ?_ rfl ?_ <;> simp only [go_sem, reduceCtorEq, reduceIte, Nat.reduceEqDiff, Nat.reduceLT, Nat.reduceLeDiff, Int.natCast_succ, Post]

set_option maxHeartbeats 4000000 in
theorem wordsOfS_ok (s : List UInt8) (hs : s.length ≤ 1048576) : FnOk Tryd.prog 138 [.str s] (.own 0) [(0, .row 9 (.strs (textHas s)))] := by
  have c1 := split_ok s hs
  unfold textHas
  have hll := toks_len _ s [] [] (Nat.le_refl _)
  simp only [List.length_nil] at hll
  generalize toks s [] [] = l at *
  refine FnOk.of_vc Tryd.func138 rfl (by decide) (by simp [Tryd.f138]) [.tmp 2] rfl fun w0 T0 _ => ?_
  simp only [Tryd.f138, argEnv]
  (repeat' first | (with_reducible refine Asm.intro fun _ => ?_) | ((with_reducible refine Chk.intro ?_ ?_); (· first | omega | (with_reducible refine Chk.intro ?_ ?_ <;> omega) | (simp; done) | (simp; omega))) | (with_reducible refine AnyI.i64 fun _ _ => ?_) | ((with_reducible refine LetW.i64 ?_ ?_ ?_); (· omega); (· omega)) | ((with_reducible refine LetW.u8 ?_ ?_ ?_); (· omega); (· omega)) | ((with_reducible refine Ite.decide (fun _ => ?_) (fun _ => ?_)) <;> first | (exfalso; omega) | skip) | (with_reducible refine Ite.bool (fun _ => ?_) (fun _ => ?_)) | (with_reducible refine And.intro ?_ ?_) | omega | simp (maxSteps := 1000000) only [go_sem, reduceCtorEq, Nat.reduceLT, Nat.reduceLeDiff, reduceIte, ↓reduceIte, Nat.reduceEqDiff, Nat.reduceAdd, Nat.reduceMul, Nat.reduceSub, Int.reduceLE, Int.reduceLT, Int.reduceNeg, Int.reduceToNat])
  refine VcCall.ro (.ro (tkR l)) (FnFr.of_ok c1 rfl (by simp [noRoRows, noRoItem, noRoRow, noRoL, noRo, tkR, tkAv])) (by simp only [noIdR_ok, argOkL, argOk, allOk, argOkN, List.drop_zero, lk, reduceIte, reduceCtorEq, Nat.reduceEqDiff, Option.some.injEq, Item.row.injEq, Item.box.injEq, AV.ro.injEq, exists_eq_left, exists_and_left, exists_eq_left', exists_eq_right, and_assoc, and_true, true_and, List.cons.injEq, exists_eq', exists_eq]) (by simp [outOk, argOkL, allOk, argOk, argOkN, lk, noIdR_ok, tkR]) rfl ?_
  (repeat' first | (with_reducible refine Asm.intro fun _ => ?_) | ((with_reducible refine Chk.intro ?_ ?_); (· first | omega | (with_reducible refine Chk.intro ?_ ?_ <;> omega) | (simp; done) | (simp; omega))) | (with_reducible refine AnyI.i64 fun _ _ => ?_) | ((with_reducible refine LetW.i64 ?_ ?_ ?_); (· omega); (· omega)) | ((with_reducible refine LetW.u8 ?_ ?_ ?_); (· omega); (· omega)) | ((with_reducible refine Ite.decide (fun _ => ?_) (fun _ => ?_)) <;> first | (exfalso; omega) | skip) | (with_reducible refine Ite.bool (fun _ => ?_) (fun _ => ?_)) | (with_reducible refine And.intro ?_ ?_) | omega | simp (maxSteps := 1000000) only [go_sem, reduceCtorEq, Nat.reduceLT, Nat.reduceLeDiff, reduceIte, ↓reduceIte, Nat.reduceEqDiff, Nat.reduceAdd, Nat.reduceMul, Nat.reduceSub, Int.reduceLE, Int.reduceLT, Int.reduceNeg, Int.reduceToNat, tkR, List.length_map])
  refine VcLoop.intro (fun i : Nat => ⟨23, [(9, .int .i64 i), (8, .int .i64 l.length), (7, .ro (tkR l)), (3, .own 0)], [(0, .row 9 (.strs (hasL (l.take i))))], 1⟩) (fun i => i ≤ l.length) (fun i => l.length - i) 0 ?_ (Nat.zero_le _) fun i hi => ?_
  · refine Ent.auto0 rfl ?_ ?_
    · simp only [go_sem, reduceCtorEq, reduceIte, Nat.reduceEqDiff, Nat.reduceLT, Nat.reduceLeDiff, Int.natCast_succ, tkR]
    · simp only [go_sem, reduceCtorEq, reduceIte, Nat.reduceEqDiff, Nat.reduceLT, Nat.reduceLeDiff, Int.natCast_succ, tkR]
      rfl
  by_cases hlt : i < l.length
  · have hel := tk_elem l hlt
    have hst := hasL_take l hlt
    have hwl := hasL_len (l.take i)
    have hwl2 : (l.take i).length ≤ l.length := by simp; omega
    generalize l.getD i ([], false) = z at *
    obtain ⟨z1, z2⟩ := z
    dsimp only at hel hst
    have k2 := small_ok z1
    cases z2 with
    | true =>
      rw [if_pos rfl] at hst
      (repeat' first | (with_reducible refine Asm.intro fun _ => ?_) | ((with_reducible refine Chk.intro ?_ ?_); (· first | omega | (with_reducible refine Chk.intro ?_ ?_ <;> omega) | (simp; done) | (simp; omega))) | (with_reducible refine AnyI.i64 fun _ _ => ?_) | ((with_reducible refine LetW.i64 ?_ ?_ ?_); (· omega); (· omega)) | ((with_reducible refine LetW.u8 ?_ ?_ ?_); (· omega); (· omega)) | ((with_reducible refine Ite.decide (fun _ => ?_) (fun _ => ?_)) <;> first | (exfalso; omega) | skip) | (with_reducible refine Ite.bool (fun _ => ?_) (fun _ => ?_)) | (with_reducible refine And.intro ?_ ?_) | omega | simp (maxSteps := 1000000) only [go_sem, reduceCtorEq, Nat.reduceLT, Nat.reduceLeDiff, reduceIte, ↓reduceIte, Nat.reduceEqDiff, Nat.reduceAdd, Nat.reduceMul, Nat.reduceSub, Int.reduceLE, Int.reduceLT, Int.reduceNeg, Int.reduceToNat, elemA, hel, tkR, List.length_map])
      refine VcCall.fr (FnFr.of_ok (k2) rfl rfl) (by simp only [noIdR_ok, argOkL, argOk, allOk, argOkN, List.drop_zero, lk, reduceIte, reduceCtorEq, Nat.reduceEqDiff, Option.some.injEq, Item.row.injEq, Item.box.injEq, AV.ro.injEq, exists_eq_left, exists_and_left, exists_eq_left', exists_eq_right, and_assoc, and_true, true_and, List.cons.injEq, exists_eq', exists_eq]) 0 rfl (by simp [rowsB]) ?_
      (repeat' first | (with_reducible refine Asm.intro fun _ => ?_) | ((with_reducible refine Chk.intro ?_ ?_); (· first | omega | (with_reducible refine Chk.intro ?_ ?_ <;> omega) | (simp; done) | (simp; omega))) | (with_reducible refine AnyI.i64 fun _ _ => ?_) | ((with_reducible refine LetW.i64 ?_ ?_ ?_); (· omega); (· omega)) | ((with_reducible refine LetW.u8 ?_ ?_ ?_); (· omega); (· omega)) | ((with_reducible refine Ite.decide (fun _ => ?_) (fun _ => ?_)) <;> first | (exfalso; omega) | skip) | (with_reducible refine Ite.bool (fun _ => ?_) (fun _ => ?_)) | (with_reducible refine And.intro ?_ ?_) | omega | simp (maxSteps := 1000000) only [go_sem, reduceCtorEq, Nat.reduceLT, Nat.reduceLeDiff, reduceIte, ↓reduceIte, Nat.reduceEqDiff, Nat.reduceAdd, Nat.reduceMul, Nat.reduceSub, Int.reduceLE, Int.reduceLT, Int.reduceNeg, Int.reduceToNat])
      refine ⟨i + 1, Ent.auto0 rfl ?_ ?_, by omega, by omega⟩ <;> simp only [go_sem, reduceCtorEq, reduceIte, Nat.reduceEqDiff, Nat.reduceLT, Nat.reduceLeDiff, Int.natCast_succ, tkR, hst]
    | false =>
      rw [if_neg (by decide), List.append_nil] at hst
      (repeat' first | (with_reducible refine Asm.intro fun _ => ?_) | ((with_reducible refine Chk.intro ?_ ?_); (· first | omega | (with_reducible refine Chk.intro ?_ ?_ <;> omega) | (simp; done) | (simp; omega))) | (with_reducible refine AnyI.i64 fun _ _ => ?_) | ((with_reducible refine LetW.i64 ?_ ?_ ?_); (· omega); (· omega)) | ((with_reducible refine LetW.u8 ?_ ?_ ?_); (· omega); (· omega)) | ((with_reducible refine Ite.decide (fun _ => ?_) (fun _ => ?_)) <;> first | (exfalso; omega) | skip) | (with_reducible refine Ite.bool (fun _ => ?_) (fun _ => ?_)) | (with_reducible refine And.intro ?_ ?_) | omega | simp (maxSteps := 1000000) only [go_sem, reduceCtorEq, Nat.reduceLT, Nat.reduceLeDiff, reduceIte, ↓reduceIte, Nat.reduceEqDiff, Nat.reduceAdd, Nat.reduceMul, Nat.reduceSub, Int.reduceLE, Int.reduceLT, Int.reduceNeg, Int.reduceToNat, elemA, hel, tkR, List.length_map])
      refine ⟨i + 1, Ent.auto0 rfl ?_ ?_, by omega, by omega⟩ <;> simp only [go_sem, reduceCtorEq, reduceIte, Nat.reduceEqDiff, Nat.reduceLT, Nat.reduceLeDiff, Int.natCast_succ, tkR, hst]
  · have e : i = l.length := by omega
    subst e
    (repeat' first | (with_reducible refine Asm.intro fun _ => ?_) | ((with_reducible refine Chk.intro ?_ ?_); (· first | omega | (with_reducible refine Chk.intro ?_ ?_ <;> omega) | (simp; done) | (simp; omega))) | (with_reducible refine AnyI.i64 fun _ _ => ?_) | ((with_reducible refine LetW.i64 ?_ ?_ ?_); (· omega); (· omega)) | ((with_reducible refine LetW.u8 ?_ ?_ ?_); (· omega); (· omega)) | ((with_reducible refine Ite.decide (fun _ => ?_) (fun _ => ?_)) <;> first | (exfalso; omega) | skip) | (with_reducible refine Ite.bool (fun _ => ?_) (fun _ => ?_)) | (with_reducible refine And.intro ?_ ?_) | omega | simp (maxSteps := 1000000) only [go_sem, reduceCtorEq, Nat.reduceLT, Nat.reduceLeDiff, reduceIte, ↓reduceIte, Nat.reduceEqDiff, Nat.reduceAdd, Nat.reduceMul, Nat.reduceSub, Int.reduceLE, Int.reduceLT, Int.reduceNeg, Int.reduceToNat, tkR, List.length_map])
    refine Ret.auto 1 ?_ rfl ?_ <;> simp only [go_sem, reduceCtorEq, reduceIte, Nat.reduceEqDiff, Nat.reduceLT, Nat.reduceLeDiff, Int.natCast_succ, Post, List.take_of_length_le, Nat.le_refl]
theorem allOk_fmap {α : Type} (rows : List (Nat × Item)) (n : Nat) {f : α → AV} (hf : ∀ a, argOkN rows (n + 1) (f a) (f a)) (l : List α) : allOk (argOkN rows (n + 1)) (l.map f) (l.map f) :=
  allOk_same fun x hx => by obtain ⟨a, _, rfl⟩ := List.mem_map.1 hx; exact hf a
/-- What a set holds behind the first words. -/
def insAll (l : List (List UInt8)) : List (List UInt8) := l.foldl insE []
theorem insAll_snoc (l : List (List UInt8)) (x : List UInt8) : insAll (l ++ [x]) = insE (insAll l) x := by simp [insAll]
theorem mem_foldIns (x : List UInt8) : ∀ (l s : List (List UInt8)), x ∈ l.foldl insE s ↔ x ∈ s ∨ x ∈ l
  | [], s => by simp
  | y :: l, s => by rw [List.foldl_cons, mem_foldIns x l, mem_insE, List.mem_cons, or_assoc]
theorem mem_insAll (l : List (List UInt8)) (x : List UInt8) : x ∈ insAll l ↔ x ∈ l := by
  unfold insAll; rw [mem_foldIns]; simp
theorem any_lacks (ws l : List (List UInt8)) : (ws.any fun w => !decide (w ∈ insAll l)) = !ws.all fun w => decide (w ∈ l) := by
  have e : (fun w => !decide (w ∈ insAll l)) = fun w : List UInt8 => !decide (w ∈ l) := by funext w; simp only [mem_insAll]
  rw [e]
  induction ws with
  | nil => rfl
  | cons c ws ih => rw [List.any_cons, List.all_cons, ih, Bool.not_and]

set_option maxHeartbeats 8000000 in
theorem kind_ok (s : Sh) (hs : s.text.length ≤ 1048576) (l : List Ru) : FnOk Tryd.prog 112 [.agg s.av, .ro (rus l)] (.str (kindS s l)) [] := by
  have c1 := wordsOfS_ok s.text hs
  have hll := toks_len _ s.text [] [] (Nat.le_refl _)
  have hhl := hasL_len (toks s.text [] [])
  have hbeg := begins_ok s
  unfold kindS Sh.av at *
  rw [show hasL (toks s.text [] []) = textHas s.text from rfl] at hhl
  generalize textHas s.text = ws at *
  generalize toks s.text [] [] = tk at *
  simp only [List.length_nil] at hll
  refine FnOk.of_vc Tryd.func112 rfl (by decide) (by simp [Tryd.f112]) [.tmp 4] rfl fun w0 T0 _ => ?_
  simp only [Tryd.f112, argEnv]
  (repeat' first | (with_reducible refine Asm.intro fun _ => ?_) | ((with_reducible refine Chk.intro ?_ ?_); (· first | omega | (with_reducible refine Chk.intro ?_ ?_ <;> omega) | (simp; done) | (simp; omega))) | (with_reducible refine AnyI.i64 fun _ _ => ?_) | ((with_reducible refine LetW.i64 ?_ ?_ ?_); (· omega); (· omega)) | ((with_reducible refine LetW.u8 ?_ ?_ ?_); (· omega); (· omega)) | ((with_reducible refine Ite.decide (fun _ => ?_) (fun _ => ?_)) <;> first | (exfalso; omega) | skip) | (with_reducible refine Ite.bool (fun _ => ?_) (fun _ => ?_)) | (with_reducible refine And.intro ?_ ?_) | omega | simp (maxSteps := 1000000) only [go_sem, reduceCtorEq, Nat.reduceLT, Nat.reduceLeDiff, reduceIte, ↓reduceIte, Nat.reduceEqDiff, Nat.reduceAdd, Nat.reduceMul, Nat.reduceSub, Int.reduceLE, Int.reduceLT, Int.reduceNeg, Int.reduceToNat, List.length_map])
  · rename_i h0
    have : l = [] := List.eq_nil_of_length_eq_zero (by omega)
    subst this
    refine Ret.auto 0 ?_ rfl ?_ <;> simp only [go_sem, reduceCtorEq, reduceIte, Nat.reduceEqDiff, Nat.reduceLT, Nat.reduceLeDiff, Int.natCast_succ, Post]
    all_goals rfl
  refine VcCall.ro (.ro (.strs ws)) (FnFr.of_ok c1 rfl (by simp [noRoRows, noRoItem, noRoRow, noRoL, noRo])) (by simp only [noIdR_ok, argOkL, argOk, allOk, argOkN, List.drop_zero, lk, reduceIte, reduceCtorEq, Nat.reduceEqDiff, Option.some.injEq, Item.row.injEq, Item.box.injEq, AV.ro.injEq, exists_eq_left, exists_and_left, exists_eq_left', exists_eq_right, and_assoc, and_true, true_and, List.cons.injEq, exists_eq', exists_eq]) (by simp [outOk, argOkL, allOk, argOk, argOkN, lk, noIdR_ok]) rfl ?_
  (repeat' first | (with_reducible refine Asm.intro fun _ => ?_) | ((with_reducible refine Chk.intro ?_ ?_); (· first | omega | (with_reducible refine Chk.intro ?_ ?_ <;> omega) | (simp; done) | (simp; omega))) | (with_reducible refine AnyI.i64 fun _ _ => ?_) | ((with_reducible refine LetW.i64 ?_ ?_ ?_); (· omega); (· omega)) | ((with_reducible refine LetW.u8 ?_ ?_ ?_); (· omega); (· omega)) | ((with_reducible refine Ite.decide (fun _ => ?_) (fun _ => ?_)) <;> first | (exfalso; omega) | skip) | (with_reducible refine Ite.bool (fun _ => ?_) (fun _ => ?_)) | (with_reducible refine And.intro ?_ ?_) | omega | simp (maxSteps := 1000000) only [go_sem, reduceCtorEq, Nat.reduceLT, Nat.reduceLeDiff, reduceIte, ↓reduceIte, Nat.reduceEqDiff, Nat.reduceAdd, Nat.reduceMul, Nat.reduceSub, Int.reduceLE, Int.reduceLT, Int.reduceNeg, Int.reduceToNat])
  refine VcLoop.intro (fun i : Nat => ⟨52, [(19, .int .i64 i), (18, .int .i64 ws.length), (17, .ro (.strs ws)), (5, .ptr 1 0), (2, .ptr 0 0), (1, .ro (rus l))], [(0, .box 30 [.int .i64 s.W, .int .i64 s.H, .ro (.bools s.p), .ro (.strs s.codes), .str s.text]), (1, .box 143 [.own 2]), (2, .map ((insAll (ws.take i)).map .str) ((insAll (ws.take i)).map fun _ => .bool true))], 3⟩) (fun i => i ≤ ws.length) (fun i => ws.length - i) 0 ?_ (Nat.zero_le _) fun i hi => ?_
  · refine Ent.auto0 rfl ?_ ?_ <;> simp only [go_sem, reduceCtorEq, reduceIte, Nat.reduceEqDiff, Nat.reduceLT, Nat.reduceLeDiff, Int.natCast_succ, List.take_zero, insAll, List.foldl_nil, List.map_nil]
  by_cases hlt : i < ws.length
  · have hst : insAll (ws.take (i + 1)) = insE (insAll (ws.take i)) (ws.getD i []) := by
      rw [List.take_succ_eq_append_getElem hlt, insAll_snoc, getD_lt hlt]
    (repeat' first | (with_reducible refine Asm.intro fun _ => ?_) | ((with_reducible refine Chk.intro ?_ ?_); (· first | omega | (with_reducible refine Chk.intro ?_ ?_ <;> omega) | (simp; done) | (simp; omega))) | (with_reducible refine AnyI.i64 fun _ _ => ?_) | ((with_reducible refine LetW.i64 ?_ ?_ ?_); (· omega); (· omega)) | ((with_reducible refine LetW.u8 ?_ ?_ ?_); (· omega); (· omega)) | ((with_reducible refine Ite.decide (fun _ => ?_) (fun _ => ?_)) <;> first | (exfalso; omega) | skip) | (with_reducible refine Ite.bool (fun _ => ?_) (fun _ => ?_)) | (with_reducible refine And.intro ?_ ?_) | omega | simp (maxSteps := 1000000) only [go_sem, reduceCtorEq, Nat.reduceLT, Nat.reduceLeDiff, reduceIte, ↓reduceIte, Nat.reduceEqDiff, Nat.reduceAdd, Nat.reduceMul, Nat.reduceSub, Int.reduceLE, Int.reduceLT, Int.reduceNeg, Int.reduceToNat])
    refine ⟨i + 1, Ent.auto0 rfl ?_ ?_, by omega, by omega⟩ <;> simp only [go_sem, reduceCtorEq, reduceIte, Nat.reduceEqDiff, Nat.reduceLT, Nat.reduceLeDiff, Int.natCast_succ, hst]
  · have e : i = ws.length := by omega
    subst e
    rw [List.take_length]
    have hany := any_lacks
    (repeat' first | (with_reducible refine Asm.intro fun _ => ?_) | ((with_reducible refine Chk.intro ?_ ?_); (· first | omega | (with_reducible refine Chk.intro ?_ ?_ <;> omega) | (simp; done) | (simp; omega))) | (with_reducible refine AnyI.i64 fun _ _ => ?_) | ((with_reducible refine LetW.i64 ?_ ?_ ?_); (· omega); (· omega)) | ((with_reducible refine LetW.u8 ?_ ?_ ?_); (· omega); (· omega)) | ((with_reducible refine Ite.decide (fun _ => ?_) (fun _ => ?_)) <;> first | (exfalso; omega) | skip) | (with_reducible refine Ite.bool (fun _ => ?_) (fun _ => ?_)) | (with_reducible refine And.intro ?_ ?_) | omega | simp (maxSteps := 1000000) only [go_sem, reduceCtorEq, Nat.reduceLT, Nat.reduceLeDiff, reduceIte, ↓reduceIte, Nat.reduceEqDiff, Nat.reduceAdd, Nat.reduceMul, Nat.reduceSub, Int.reduceLE, Int.reduceLT, Int.reduceNeg, Int.reduceToNat, List.length_map])
    refine VcLoop.intro (fun k : Nat => ⟨52, [(28, .int .i64 k), (27, .int .i64 l.length), (26, .ro (rus l)), (5, .ptr 1 0), (2, .ptr 0 0)], [(0, .box 30 [.int .i64 s.W, .int .i64 s.H, .ro (.bools s.p), .ro (.strs s.codes), .str s.text]), (1, .box 143 [.own 2]), (2, .map ((insAll ws).map .str) ((insAll ws).map fun _ => .bool true))], 3⟩) (fun k => k ≤ l.length ∧ kindOf ws s.codes (l.drop k) = kindOf ws s.codes l) (fun k => l.length - k) 0 ?_ ⟨Nat.zero_le _, rfl⟩ fun k hk => ?_
    · refine Ent.auto0 rfl ?_ ?_ <;> simp only [go_sem, reduceCtorEq, reduceIte, Nat.reduceEqDiff, Nat.reduceLT, Nat.reduceLeDiff, Int.natCast_succ]
    obtain ⟨hk, hK⟩ := hk
    by_cases hkl : k < l.length
    · have he := ru_elem l hkl
      rw [kindOf_drop _ _ l hkl] at hK
      generalize l.getD k Ru.zero = r at *
      haveI c2 : CapsOk [.cell [setAv (insAll ws)]] := ⟨rfl⟩
      have k2 := contFuncS_ok r.words 157 [.cell [setAv (insAll ws)]] (fun w => !decide (w ∈ insAll ws)) fun c hc => FnFr.of_ok (lacks_ok c (insAll ws)) rfl rfl
      rw [any_lacks] at k2
      have k3 := hbeg r.code
      have hH : hitR ws s.codes r = ((r.words.all fun w => decide (w ∈ ws)) && (decide (r.code = []) || begB s.codes r.code)) := rfl
      generalize (r.words.all fun w => decide (w ∈ ws)) = q at *
      generalize begB s.codes r.code = g at *
      (repeat' first | (with_reducible refine Asm.intro fun _ => ?_) | ((with_reducible refine Chk.intro ?_ ?_); (· first | omega | (with_reducible refine Chk.intro ?_ ?_ <;> omega) | (simp; done) | (simp; omega))) | (with_reducible refine AnyI.i64 fun _ _ => ?_) | ((with_reducible refine LetW.i64 ?_ ?_ ?_); (· omega); (· omega)) | ((with_reducible refine LetW.u8 ?_ ?_ ?_); (· omega); (· omega)) | ((with_reducible refine Ite.decide (fun _ => ?_) (fun _ => ?_)) <;> first | (exfalso; omega) | skip) | (with_reducible refine Ite.bool (fun _ => ?_) (fun _ => ?_)) | (with_reducible refine And.intro ?_ ?_) | omega | simp (maxSteps := 1000000) only [go_sem, reduceCtorEq, Nat.reduceLT, Nat.reduceLeDiff, reduceIte, ↓reduceIte, Nat.reduceEqDiff, Nat.reduceAdd, Nat.reduceMul, Nat.reduceSub, Int.reduceLE, Int.reduceLT, Int.reduceNeg, Int.reduceToNat, he, List.length_map])
      refine VcCall.fr (FnFr.of_ok k2 rfl rfl) ⟨_, _, rfl, ⟨_, _, ⟨_, ⟨_, _, ⟨_, _, _, rfl, ⟨_, _, argOkN_map rfl (allOk_fmap (f := AV.str) _ 2 (fun _ => rfl) _) (allOk_fmap (f := fun _ : List UInt8 => AV.bool true) _ 2 (fun _ => rfl) _), rfl, rfl⟩, rfl⟩, rfl, rfl⟩, rfl⟩, rfl, rfl⟩, rfl⟩ 0 rfl (by simp [rowsB]) ?_
      cases q with
      | false =>
        rw [Bool.false_and] at hH
        rw [hH, if_neg (by decide)] at hK
        (repeat' first | (with_reducible refine Asm.intro fun _ => ?_) | ((with_reducible refine Chk.intro ?_ ?_); (· first | omega | (with_reducible refine Chk.intro ?_ ?_ <;> omega) | (simp; done) | (simp; omega))) | (with_reducible refine AnyI.i64 fun _ _ => ?_) | ((with_reducible refine LetW.i64 ?_ ?_ ?_); (· omega); (· omega)) | ((with_reducible refine LetW.u8 ?_ ?_ ?_); (· omega); (· omega)) | ((with_reducible refine Ite.decide (fun _ => ?_) (fun _ => ?_)) <;> first | (exfalso; omega) | skip) | (with_reducible refine Ite.bool (fun _ => ?_) (fun _ => ?_)) | (with_reducible refine And.intro ?_ ?_) | omega | simp (maxSteps := 1000000) only [go_sem, reduceCtorEq, Nat.reduceLT, Nat.reduceLeDiff, reduceIte, ↓reduceIte, Nat.reduceEqDiff, Nat.reduceAdd, Nat.reduceMul, Nat.reduceSub, Int.reduceLE, Int.reduceLT, Int.reduceNeg, Int.reduceToNat])
        refine ⟨k + 1, Ent.auto0 rfl ?_ ?_, ⟨by omega, hK⟩, by omega⟩ <;> simp only [go_sem, reduceCtorEq, reduceIte, Nat.reduceEqDiff, Nat.reduceLT, Nat.reduceLeDiff, Int.natCast_succ]
      | true =>
        by_cases hc : r.code = []
        · rw [decide_eq_true hc, Bool.true_or, Bool.true_and] at hH
          rw [hH, if_pos rfl] at hK
          (repeat' first | (with_reducible refine Asm.intro fun _ => ?_) | ((with_reducible refine Chk.intro ?_ ?_); (· first | omega | (with_reducible refine Chk.intro ?_ ?_ <;> omega) | (simp; done) | (simp; omega))) | (with_reducible refine AnyI.i64 fun _ _ => ?_) | ((with_reducible refine LetW.i64 ?_ ?_ ?_); (· omega); (· omega)) | ((with_reducible refine LetW.u8 ?_ ?_ ?_); (· omega); (· omega)) | ((with_reducible refine Ite.decide (fun _ => ?_) (fun _ => ?_)) <;> first | (exfalso; omega) | skip) | (with_reducible refine Ite.bool (fun _ => ?_) (fun _ => ?_)) | (with_reducible refine And.intro ?_ ?_) | omega | simp (maxSteps := 1000000) only [go_sem, reduceCtorEq, Nat.reduceLT, Nat.reduceLeDiff, reduceIte, ↓reduceIte, Nat.reduceEqDiff, Nat.reduceAdd, Nat.reduceMul, Nat.reduceSub, Int.reduceLE, Int.reduceLT, Int.reduceNeg, Int.reduceToNat, hc])
          refine Ret.auto 0 ?_ rfl ?_ <;> simp only [go_sem, reduceCtorEq, reduceIte, Nat.reduceEqDiff, Nat.reduceLT, Nat.reduceLeDiff, Int.natCast_succ, Post, hK]
        · rw [decide_eq_false hc, Bool.false_or, Bool.true_and] at hH
          (repeat' first | (with_reducible refine Asm.intro fun _ => ?_) | ((with_reducible refine Chk.intro ?_ ?_); (· first | omega | (with_reducible refine Chk.intro ?_ ?_ <;> omega) | (simp; done) | (simp; omega))) | (with_reducible refine AnyI.i64 fun _ _ => ?_) | ((with_reducible refine LetW.i64 ?_ ?_ ?_); (· omega); (· omega)) | ((with_reducible refine LetW.u8 ?_ ?_ ?_); (· omega); (· omega)) | ((with_reducible refine Ite.decide (fun _ => ?_) (fun _ => ?_)) <;> first | (exfalso; omega) | skip) | (with_reducible refine Ite.bool (fun _ => ?_) (fun _ => ?_)) | (with_reducible refine And.intro ?_ ?_) | omega | simp (maxSteps := 1000000) only [go_sem, reduceCtorEq, Nat.reduceLT, Nat.reduceLeDiff, reduceIte, ↓reduceIte, Nat.reduceEqDiff, Nat.reduceAdd, Nat.reduceMul, Nat.reduceSub, Int.reduceLE, Int.reduceLT, Int.reduceNeg, Int.reduceToNat, hc])
          refine VcCall.fr (FnFr.of_ok (k3) rfl rfl) (by simp only [noIdR_ok, argOkL, argOk, allOk, argOkN, List.drop_zero, lk, reduceIte, reduceCtorEq, Nat.reduceEqDiff, Option.some.injEq, Item.row.injEq, Item.box.injEq, AV.ro.injEq, exists_eq_left, exists_and_left, exists_eq_left', exists_eq_right, and_assoc, and_true, true_and, List.cons.injEq, exists_eq', exists_eq]) 0 rfl (by simp [rowsB]) ?_
          cases g with
          | true =>
            rw [hH, if_pos rfl] at hK
            (repeat' first | (with_reducible refine Asm.intro fun _ => ?_) | ((with_reducible refine Chk.intro ?_ ?_); (· first | omega | (with_reducible refine Chk.intro ?_ ?_ <;> omega) | (simp; done) | (simp; omega))) | (with_reducible refine AnyI.i64 fun _ _ => ?_) | ((with_reducible refine LetW.i64 ?_ ?_ ?_); (· omega); (· omega)) | ((with_reducible refine LetW.u8 ?_ ?_ ?_); (· omega); (· omega)) | ((with_reducible refine Ite.decide (fun _ => ?_) (fun _ => ?_)) <;> first | (exfalso; omega) | skip) | (with_reducible refine Ite.bool (fun _ => ?_) (fun _ => ?_)) | (with_reducible refine And.intro ?_ ?_) | omega | simp (maxSteps := 1000000) only [go_sem, reduceCtorEq, Nat.reduceLT, Nat.reduceLeDiff, reduceIte, ↓reduceIte, Nat.reduceEqDiff, Nat.reduceAdd, Nat.reduceMul, Nat.reduceSub, Int.reduceLE, Int.reduceLT, Int.reduceNeg, Int.reduceToNat])
            refine Ret.auto 0 ?_ rfl ?_ <;> simp only [go_sem, reduceCtorEq, reduceIte, Nat.reduceEqDiff, Nat.reduceLT, Nat.reduceLeDiff, Int.natCast_succ, Post, hK]
          | false =>
            rw [hH, if_neg (by decide)] at hK
            (repeat' first | (with_reducible refine Asm.intro fun _ => ?_) | ((with_reducible refine Chk.intro ?_ ?_); (· first | omega | (with_reducible refine Chk.intro ?_ ?_ <;> omega) | (simp; done) | (simp; omega))) | (with_reducible refine AnyI.i64 fun _ _ => ?_) | ((with_reducible refine LetW.i64 ?_ ?_ ?_); (· omega); (· omega)) | ((with_reducible refine LetW.u8 ?_ ?_ ?_); (· omega); (· omega)) | ((with_reducible refine Ite.decide (fun _ => ?_) (fun _ => ?_)) <;> first | (exfalso; omega) | skip) | (with_reducible refine Ite.bool (fun _ => ?_) (fun _ => ?_)) | (with_reducible refine And.intro ?_ ?_) | omega | simp (maxSteps := 1000000) only [go_sem, reduceCtorEq, Nat.reduceLT, Nat.reduceLeDiff, reduceIte, ↓reduceIte, Nat.reduceEqDiff, Nat.reduceAdd, Nat.reduceMul, Nat.reduceSub, Int.reduceLE, Int.reduceLT, Int.reduceNeg, Int.reduceToNat])
            refine ⟨k + 1, Ent.auto0 rfl ?_ ?_, ⟨by omega, hK⟩, by omega⟩ <;> simp only [go_sem, reduceCtorEq, reduceIte, Nat.reduceEqDiff, Nat.reduceLT, Nat.reduceLeDiff, Int.natCast_succ]
    · have e : k = l.length := by omega
      subst e
      rw [List.drop_length] at hK
      (repeat' first | (with_reducible refine Asm.intro fun _ => ?_) | ((with_reducible refine Chk.intro ?_ ?_); (· first | omega | (with_reducible refine Chk.intro ?_ ?_ <;> omega) | (simp; done) | (simp; omega))) | (with_reducible refine AnyI.i64 fun _ _ => ?_) | ((with_reducible refine LetW.i64 ?_ ?_ ?_); (· omega); (· omega)) | ((with_reducible refine LetW.u8 ?_ ?_ ?_); (· omega); (· omega)) | ((with_reducible refine Ite.decide (fun _ => ?_) (fun _ => ?_)) <;> first | (exfalso; omega) | skip) | (with_reducible refine Ite.bool (fun _ => ?_) (fun _ => ?_)) | (with_reducible refine And.intro ?_ ?_) | omega | simp (maxSteps := 1000000) only [go_sem, reduceCtorEq, Nat.reduceLT, Nat.reduceLeDiff, reduceIte, ↓reduceIte, Nat.reduceEqDiff, Nat.reduceAdd, Nat.reduceMul, Nat.reduceSub, Int.reduceLE, Int.reduceLT, Int.reduceNeg, Int.reduceToNat, List.length_map])
      refine Ret.auto 0 ?_ rfl ?_ <;> simp only [go_sem, reduceCtorEq, reduceIte, Nat.reduceEqDiff, Nat.reduceLT, Nat.reduceLeDiff, Int.natCast_succ, Post]
      all_goals rw [← hK]; rfl
end Go.Fv.S

/- The reference's KindOf. -/

namespace Go.Fv.S
open Go Go.Proofs
set_option linter.unusedSimpArgs false
set_option linter.unusedVariables false
set_option linter.unnecessarySimpa false
set_option maxRecDepth 8000

set_option maxHeartbeats 8000000 in
theorem refKindOf_ok (s : Sh) (hs : s.text.length ≤ 1048576) (l : List Ru) : FnOk Tryd.prog 50 [.agg s.av, .ro (rus l)] (.str (kindS s l)) [] := by
  have c1 := refTokens_ok s.text hs
  have hll := toks_len _ s.text [] [] (Nat.le_refl _)
  have hbeg := refBegins_ok s
  unfold kindS textHas Sh.av at *
  generalize toks s.text [] [] = tk at *
  simp only [List.length_nil] at hll
  refine FnOk.of_vc Tryd.func50 rfl (by decide) (by simp [Tryd.f50]) [.tmp 4] rfl fun w0 T0 _ => ?_
  simp only [Tryd.f50, argEnv]
  (repeat' first | (with_reducible refine Asm.intro fun _ => ?_) | ((with_reducible refine Chk.intro ?_ ?_); (· first | omega | (with_reducible refine Chk.intro ?_ ?_ <;> omega) | (simp; done) | (simp; omega))) | (with_reducible refine AnyI.i64 fun _ _ => ?_) | ((with_reducible refine LetW.i64 ?_ ?_ ?_); (· omega); (· omega)) | ((with_reducible refine LetW.u8 ?_ ?_ ?_); (· omega); (· omega)) | ((with_reducible refine Ite.decide (fun _ => ?_) (fun _ => ?_)) <;> first | (exfalso; omega) | skip) | (with_reducible refine Ite.bool (fun _ => ?_) (fun _ => ?_)) | (with_reducible refine And.intro ?_ ?_) | omega | simp (maxSteps := 1000000) only [go_sem, reduceCtorEq, Nat.reduceLT, Nat.reduceLeDiff, reduceIte, ↓reduceIte, Nat.reduceEqDiff, Nat.reduceAdd, Nat.reduceMul, Nat.reduceSub, Int.reduceLE, Int.reduceLT, Int.reduceNeg, Int.reduceToNat, List.length_map])
  refine VcCall.ro (.ro (tkR tk)) (FnFr.of_ok c1 rfl (by simp [noRoRows, noRoItem, noRoRow, noRoL, noRo, tkR, tkAv])) (by simp only [noIdR_ok, argOkL, argOk, allOk, argOkN, List.drop_zero, lk, reduceIte, reduceCtorEq, Nat.reduceEqDiff, Option.some.injEq, Item.row.injEq, Item.box.injEq, AV.ro.injEq, exists_eq_left, exists_and_left, exists_eq_left', exists_eq_right, and_assoc, and_true, true_and, List.cons.injEq, exists_eq', exists_eq]) (by simp [outOk, argOkL, allOk, argOk, argOkN, lk, noIdR_ok, tkR]) rfl ?_
  (repeat' first | (with_reducible refine Asm.intro fun _ => ?_) | ((with_reducible refine Chk.intro ?_ ?_); (· first | omega | (with_reducible refine Chk.intro ?_ ?_ <;> omega) | (simp; done) | (simp; omega))) | (with_reducible refine AnyI.i64 fun _ _ => ?_) | ((with_reducible refine LetW.i64 ?_ ?_ ?_); (· omega); (· omega)) | ((with_reducible refine LetW.u8 ?_ ?_ ?_); (· omega); (· omega)) | ((with_reducible refine Ite.decide (fun _ => ?_) (fun _ => ?_)) <;> first | (exfalso; omega) | skip) | (with_reducible refine Ite.bool (fun _ => ?_) (fun _ => ?_)) | (with_reducible refine And.intro ?_ ?_) | omega | simp (maxSteps := 1000000) only [go_sem, reduceCtorEq, Nat.reduceLT, Nat.reduceLeDiff, reduceIte, ↓reduceIte, Nat.reduceEqDiff, Nat.reduceAdd, Nat.reduceMul, Nat.reduceSub, Int.reduceLE, Int.reduceLT, Int.reduceNeg, Int.reduceToNat, tkR, List.length_map])
  refine VcLoop.intro (fun i : Nat => ⟨51, [(15, .int .i64 i), (14, .int .i64 tk.length), (13, .ro (tkR tk)), (5, .ptr 1 0), (2, .ptr 0 0), (1, .ro (rus l))], [(0, .box 30 [.int .i64 s.W, .int .i64 s.H, .ro (.bools s.p), .ro (.strs s.codes), .str s.text]), (1, .box 143 [.own 2]), (2, .map ((insAll (hasL (tk.take i))).map .str) ((insAll (hasL (tk.take i))).map fun _ => .bool true))], 3⟩) (fun i => i ≤ tk.length) (fun i => tk.length - i) 0 ?_ (Nat.zero_le _) fun i hi => ?_
  · refine Ent.auto0 rfl ?_ ?_ <;> simp only [go_sem, reduceCtorEq, reduceIte, Nat.reduceEqDiff, Nat.reduceLT, Nat.reduceLeDiff, Int.natCast_succ, List.take_zero, insAll, List.foldl_nil, List.map_nil, hasL, List.filter_nil, tkR]
  by_cases hlt : i < tk.length
  · have hel := tk_elem tk hlt
    have hst := hasL_take tk hlt
    generalize tk.getD i ([], false) = z at *
    obtain ⟨z1, z2⟩ := z
    dsimp only at hel hst
    have k2 := refSmall_ok z1
    cases z2 with
    | true =>
      rw [if_pos rfl] at hst
      have hst2 : insAll (hasL (tk.take (i + 1))) = insE (insAll (hasL (tk.take i))) (smallL z1) := by rw [hst, insAll_snoc]
      (repeat' first | (with_reducible refine Asm.intro fun _ => ?_) | ((with_reducible refine Chk.intro ?_ ?_); (· first | omega | (with_reducible refine Chk.intro ?_ ?_ <;> omega) | (simp; done) | (simp; omega))) | (with_reducible refine AnyI.i64 fun _ _ => ?_) | ((with_reducible refine LetW.i64 ?_ ?_ ?_); (· omega); (· omega)) | ((with_reducible refine LetW.u8 ?_ ?_ ?_); (· omega); (· omega)) | ((with_reducible refine Ite.decide (fun _ => ?_) (fun _ => ?_)) <;> first | (exfalso; omega) | skip) | (with_reducible refine Ite.bool (fun _ => ?_) (fun _ => ?_)) | (with_reducible refine And.intro ?_ ?_) | omega | simp (maxSteps := 1000000) only [go_sem, reduceCtorEq, Nat.reduceLT, Nat.reduceLeDiff, reduceIte, ↓reduceIte, Nat.reduceEqDiff, Nat.reduceAdd, Nat.reduceMul, Nat.reduceSub, Int.reduceLE, Int.reduceLT, Int.reduceNeg, Int.reduceToNat, elemA, hel, tkR, List.length_map])
      refine VcDraw.lex [4] [] (by kernel_rfl) (by kernel_rfl) ?_
      (repeat' first | (with_reducible refine Asm.intro fun _ => ?_) | ((with_reducible refine Chk.intro ?_ ?_); (· first | omega | (with_reducible refine Chk.intro ?_ ?_ <;> omega) | (simp; done) | (simp; omega))) | (with_reducible refine AnyI.i64 fun _ _ => ?_) | ((with_reducible refine LetW.i64 ?_ ?_ ?_); (· omega); (· omega)) | ((with_reducible refine LetW.u8 ?_ ?_ ?_); (· omega); (· omega)) | ((with_reducible refine Ite.decide (fun _ => ?_) (fun _ => ?_)) <;> first | (exfalso; omega) | skip) | (with_reducible refine Ite.bool (fun _ => ?_) (fun _ => ?_)) | (with_reducible refine And.intro ?_ ?_) | omega | simp (maxSteps := 1000000) only [go_sem, reduceCtorEq, Nat.reduceLT, Nat.reduceLeDiff, reduceIte, ↓reduceIte, Nat.reduceEqDiff, Nat.reduceAdd, Nat.reduceMul, Nat.reduceSub, Int.reduceLE, Int.reduceLT, Int.reduceNeg, Int.reduceToNat])
      (refine QV.intro (.str (smallL z1)) ?_ ?_; focus ((repeat' first | (with_reducible refine Asm.intro fun _ => ?_) | ((with_reducible refine Chk.intro ?_ ?_); (· first | omega | (with_reducible refine Chk.intro ?_ ?_ <;> omega) | (simp; done) | (simp; omega))) | (with_reducible refine AnyI.i64 fun _ _ => ?_) | ((with_reducible refine LetW.i64 ?_ ?_ ?_); (· omega); (· omega)) | ((with_reducible refine LetW.u8 ?_ ?_ ?_); (· omega); (· omega)) | ((with_reducible refine Ite.decide (fun _ => ?_) (fun _ => ?_)) <;> first | (exfalso; omega) | skip) | (with_reducible refine Ite.bool (fun _ => ?_) (fun _ => ?_)) | (with_reducible refine And.intro ?_ ?_) | omega | simp (maxSteps := 1000000) only [go_sem, reduceCtorEq, Nat.reduceLT, Nat.reduceLeDiff, reduceIte, ↓reduceIte, Nat.reduceEqDiff, Nat.reduceAdd, Nat.reduceMul, Nat.reduceSub, Int.reduceLE, Int.reduceLT, Int.reduceNeg, Int.reduceToNat]); refine VcCall.fr (FnFr.of_ok (k2) rfl rfl) (by simp only [noIdR_ok, argOkL, argOk, allOk, argOkN, List.drop_zero, lk, reduceIte, reduceCtorEq, Nat.reduceEqDiff, Option.some.injEq, Item.row.injEq, Item.box.injEq, AV.ro.injEq, exists_eq_left, exists_and_left, exists_eq_left', exists_eq_right, and_assoc, and_true, true_and, List.cons.injEq, exists_eq', exists_eq]) 0 rfl (by simp [rowsB]) ?_; (repeat' first | (with_reducible refine Asm.intro fun _ => ?_) | ((with_reducible refine Chk.intro ?_ ?_); (· first | omega | (with_reducible refine Chk.intro ?_ ?_ <;> omega) | (simp; done) | (simp; omega))) | (with_reducible refine AnyI.i64 fun _ _ => ?_) | ((with_reducible refine LetW.i64 ?_ ?_ ?_); (· omega); (· omega)) | ((with_reducible refine LetW.u8 ?_ ?_ ?_); (· omega); (· omega)) | ((with_reducible refine Ite.decide (fun _ => ?_) (fun _ => ?_)) <;> first | (exfalso; omega) | skip) | (with_reducible refine Ite.bool (fun _ => ?_) (fun _ => ?_)) | (with_reducible refine And.intro ?_ ?_) | omega | simp (maxSteps := 1000000) only [go_sem, reduceCtorEq, Nat.reduceLT, Nat.reduceLeDiff, reduceIte, ↓reduceIte, Nat.reduceEqDiff, Nat.reduceAdd, Nat.reduceMul, Nat.reduceSub, Int.reduceLE, Int.reduceLT, Int.reduceNeg, Int.reduceToNat])))
      (repeat' first | (with_reducible refine Asm.intro fun _ => ?_) | ((with_reducible refine Chk.intro ?_ ?_); (· first | omega | (with_reducible refine Chk.intro ?_ ?_ <;> omega) | (simp; done) | (simp; omega))) | (with_reducible refine AnyI.i64 fun _ _ => ?_) | ((with_reducible refine LetW.i64 ?_ ?_ ?_); (· omega); (· omega)) | ((with_reducible refine LetW.u8 ?_ ?_ ?_); (· omega); (· omega)) | ((with_reducible refine Ite.decide (fun _ => ?_) (fun _ => ?_)) <;> first | (exfalso; omega) | skip) | (with_reducible refine Ite.bool (fun _ => ?_) (fun _ => ?_)) | (with_reducible refine And.intro ?_ ?_) | omega | simp (maxSteps := 1000000) only [go_sem, reduceCtorEq, Nat.reduceLT, Nat.reduceLeDiff, reduceIte, ↓reduceIte, Nat.reduceEqDiff, Nat.reduceAdd, Nat.reduceMul, Nat.reduceSub, Int.reduceLE, Int.reduceLT, Int.reduceNeg, Int.reduceToNat])
      refine ⟨i + 1, Ent.auto0 rfl ?_ ?_, by omega, by omega⟩ <;> simp only [go_sem, reduceCtorEq, reduceIte, Nat.reduceEqDiff, Nat.reduceLT, Nat.reduceLeDiff, Int.natCast_succ, tkR, hst2]
    | false =>
      rw [if_neg (by decide), List.append_nil] at hst
      (repeat' first | (with_reducible refine Asm.intro fun _ => ?_) | ((with_reducible refine Chk.intro ?_ ?_); (· first | omega | (with_reducible refine Chk.intro ?_ ?_ <;> omega) | (simp; done) | (simp; omega))) | (with_reducible refine AnyI.i64 fun _ _ => ?_) | ((with_reducible refine LetW.i64 ?_ ?_ ?_); (· omega); (· omega)) | ((with_reducible refine LetW.u8 ?_ ?_ ?_); (· omega); (· omega)) | ((with_reducible refine Ite.decide (fun _ => ?_) (fun _ => ?_)) <;> first | (exfalso; omega) | skip) | (with_reducible refine Ite.bool (fun _ => ?_) (fun _ => ?_)) | (with_reducible refine And.intro ?_ ?_) | omega | simp (maxSteps := 1000000) only [go_sem, reduceCtorEq, Nat.reduceLT, Nat.reduceLeDiff, reduceIte, ↓reduceIte, Nat.reduceEqDiff, Nat.reduceAdd, Nat.reduceMul, Nat.reduceSub, Int.reduceLE, Int.reduceLT, Int.reduceNeg, Int.reduceToNat, elemA, hel, tkR, List.length_map])
      refine ⟨i + 1, Ent.auto0 rfl ?_ ?_, by omega, by omega⟩ <;> simp only [go_sem, reduceCtorEq, reduceIte, Nat.reduceEqDiff, Nat.reduceLT, Nat.reduceLeDiff, Int.natCast_succ, tkR, hst]
  · have e : i = tk.length := by omega
    subst e
    rw [List.take_length]
    generalize hasL tk = ws at *
    have hany := any_lacks
    (repeat' first | (with_reducible refine Asm.intro fun _ => ?_) | ((with_reducible refine Chk.intro ?_ ?_); (· first | omega | (with_reducible refine Chk.intro ?_ ?_ <;> omega) | (simp; done) | (simp; omega))) | (with_reducible refine AnyI.i64 fun _ _ => ?_) | ((with_reducible refine LetW.i64 ?_ ?_ ?_); (· omega); (· omega)) | ((with_reducible refine LetW.u8 ?_ ?_ ?_); (· omega); (· omega)) | ((with_reducible refine Ite.decide (fun _ => ?_) (fun _ => ?_)) <;> first | (exfalso; omega) | skip) | (with_reducible refine Ite.bool (fun _ => ?_) (fun _ => ?_)) | (with_reducible refine And.intro ?_ ?_) | omega | simp (maxSteps := 1000000) only [go_sem, reduceCtorEq, Nat.reduceLT, Nat.reduceLeDiff, reduceIte, ↓reduceIte, Nat.reduceEqDiff, Nat.reduceAdd, Nat.reduceMul, Nat.reduceSub, Int.reduceLE, Int.reduceLT, Int.reduceNeg, Int.reduceToNat, List.length_map, tkR])
    refine VcLoop.intro (fun k : Nat => ⟨51, [(28, .int .i64 k), (27, .int .i64 l.length), (26, .ro (rus l)), (5, .ptr 1 0), (2, .ptr 0 0)], [(0, .box 30 [.int .i64 s.W, .int .i64 s.H, .ro (.bools s.p), .ro (.strs s.codes), .str s.text]), (1, .box 143 [.own 2]), (2, .map ((insAll ws).map .str) ((insAll ws).map fun _ => .bool true))], 3⟩) (fun k => k ≤ l.length ∧ kindOf ws s.codes (l.drop k) = kindOf ws s.codes l) (fun k => l.length - k) 0 ?_ ⟨Nat.zero_le _, rfl⟩ fun k hk => ?_
    · refine Ent.auto0 rfl ?_ ?_ <;> simp only [go_sem, reduceCtorEq, reduceIte, Nat.reduceEqDiff, Nat.reduceLT, Nat.reduceLeDiff, Int.natCast_succ]
    obtain ⟨hk, hK⟩ := hk
    by_cases hkl : k < l.length
    · have he := ru_elem l hkl
      rw [kindOf_drop _ _ l hkl] at hK
      generalize l.getD k Ru.zero = r at *
      haveI c2 : CapsOk [.cell [setAv (insAll ws)]] := ⟨rfl⟩
      have k2 := contFuncS_ok r.words 114 [.cell [setAv (insAll ws)]] (fun w => !decide (w ∈ insAll ws)) fun c hc => FnFr.of_ok (refLacks_ok c (insAll ws)) rfl rfl
      rw [any_lacks] at k2
      have k3 := hbeg r.code
      have hH : hitR ws s.codes r = ((r.words.all fun w => decide (w ∈ ws)) && (decide (r.code = []) || begB s.codes r.code)) := rfl
      generalize (r.words.all fun w => decide (w ∈ ws)) = q at *
      generalize begB s.codes r.code = g at *
      (repeat' first | (with_reducible refine Asm.intro fun _ => ?_) | ((with_reducible refine Chk.intro ?_ ?_); (· first | omega | (with_reducible refine Chk.intro ?_ ?_ <;> omega) | (simp; done) | (simp; omega))) | (with_reducible refine AnyI.i64 fun _ _ => ?_) | ((with_reducible refine LetW.i64 ?_ ?_ ?_); (· omega); (· omega)) | ((with_reducible refine LetW.u8 ?_ ?_ ?_); (· omega); (· omega)) | ((with_reducible refine Ite.decide (fun _ => ?_) (fun _ => ?_)) <;> first | (exfalso; omega) | skip) | (with_reducible refine Ite.bool (fun _ => ?_) (fun _ => ?_)) | (with_reducible refine And.intro ?_ ?_) | omega | simp (maxSteps := 1000000) only [go_sem, reduceCtorEq, Nat.reduceLT, Nat.reduceLeDiff, reduceIte, ↓reduceIte, Nat.reduceEqDiff, Nat.reduceAdd, Nat.reduceMul, Nat.reduceSub, Int.reduceLE, Int.reduceLT, Int.reduceNeg, Int.reduceToNat, he, List.length_map])
      refine VcCall.fr (FnFr.of_ok k2 rfl rfl) ⟨_, _, rfl, ⟨_, _, ⟨_, ⟨_, _, ⟨_, _, _, rfl, ⟨_, _, argOkN_map rfl (allOk_fmap (f := AV.str) _ 2 (fun _ => rfl) _) (allOk_fmap (f := fun _ : List UInt8 => AV.bool true) _ 2 (fun _ => rfl) _), rfl, rfl⟩, rfl⟩, rfl, rfl⟩, rfl⟩, rfl, rfl⟩, rfl⟩ 0 rfl (by simp [rowsB]) ?_
      cases q with
      | false =>
        rw [Bool.false_and] at hH
        rw [hH, if_neg (by decide)] at hK
        (repeat' first | (with_reducible refine Asm.intro fun _ => ?_) | ((with_reducible refine Chk.intro ?_ ?_); (· first | omega | (with_reducible refine Chk.intro ?_ ?_ <;> omega) | (simp; done) | (simp; omega))) | (with_reducible refine AnyI.i64 fun _ _ => ?_) | ((with_reducible refine LetW.i64 ?_ ?_ ?_); (· omega); (· omega)) | ((with_reducible refine LetW.u8 ?_ ?_ ?_); (· omega); (· omega)) | ((with_reducible refine Ite.decide (fun _ => ?_) (fun _ => ?_)) <;> first | (exfalso; omega) | skip) | (with_reducible refine Ite.bool (fun _ => ?_) (fun _ => ?_)) | (with_reducible refine And.intro ?_ ?_) | omega | simp (maxSteps := 1000000) only [go_sem, reduceCtorEq, Nat.reduceLT, Nat.reduceLeDiff, reduceIte, ↓reduceIte, Nat.reduceEqDiff, Nat.reduceAdd, Nat.reduceMul, Nat.reduceSub, Int.reduceLE, Int.reduceLT, Int.reduceNeg, Int.reduceToNat])
        refine ⟨k + 1, Ent.auto0 rfl ?_ ?_, ⟨by omega, hK⟩, by omega⟩ <;> simp only [go_sem, reduceCtorEq, reduceIte, Nat.reduceEqDiff, Nat.reduceLT, Nat.reduceLeDiff, Int.natCast_succ]
      | true =>
        by_cases hc : r.code = []
        · rw [decide_eq_true hc, Bool.true_or, Bool.true_and] at hH
          rw [hH, if_pos rfl] at hK
          (repeat' first | (with_reducible refine Asm.intro fun _ => ?_) | ((with_reducible refine Chk.intro ?_ ?_); (· first | omega | (with_reducible refine Chk.intro ?_ ?_ <;> omega) | (simp; done) | (simp; omega))) | (with_reducible refine AnyI.i64 fun _ _ => ?_) | ((with_reducible refine LetW.i64 ?_ ?_ ?_); (· omega); (· omega)) | ((with_reducible refine LetW.u8 ?_ ?_ ?_); (· omega); (· omega)) | ((with_reducible refine Ite.decide (fun _ => ?_) (fun _ => ?_)) <;> first | (exfalso; omega) | skip) | (with_reducible refine Ite.bool (fun _ => ?_) (fun _ => ?_)) | (with_reducible refine And.intro ?_ ?_) | omega | simp (maxSteps := 1000000) only [go_sem, reduceCtorEq, Nat.reduceLT, Nat.reduceLeDiff, reduceIte, ↓reduceIte, Nat.reduceEqDiff, Nat.reduceAdd, Nat.reduceMul, Nat.reduceSub, Int.reduceLE, Int.reduceLT, Int.reduceNeg, Int.reduceToNat, hc])
          refine Ret.auto 0 ?_ rfl ?_ <;> simp only [go_sem, reduceCtorEq, reduceIte, Nat.reduceEqDiff, Nat.reduceLT, Nat.reduceLeDiff, Int.natCast_succ, Post, hK]
        · rw [decide_eq_false hc, Bool.false_or, Bool.true_and] at hH
          (repeat' first | (with_reducible refine Asm.intro fun _ => ?_) | ((with_reducible refine Chk.intro ?_ ?_); (· first | omega | (with_reducible refine Chk.intro ?_ ?_ <;> omega) | (simp; done) | (simp; omega))) | (with_reducible refine AnyI.i64 fun _ _ => ?_) | ((with_reducible refine LetW.i64 ?_ ?_ ?_); (· omega); (· omega)) | ((with_reducible refine LetW.u8 ?_ ?_ ?_); (· omega); (· omega)) | ((with_reducible refine Ite.decide (fun _ => ?_) (fun _ => ?_)) <;> first | (exfalso; omega) | skip) | (with_reducible refine Ite.bool (fun _ => ?_) (fun _ => ?_)) | (with_reducible refine And.intro ?_ ?_) | omega | simp (maxSteps := 1000000) only [go_sem, reduceCtorEq, Nat.reduceLT, Nat.reduceLeDiff, reduceIte, ↓reduceIte, Nat.reduceEqDiff, Nat.reduceAdd, Nat.reduceMul, Nat.reduceSub, Int.reduceLE, Int.reduceLT, Int.reduceNeg, Int.reduceToNat, hc])
          refine VcCall.fr (FnFr.of_ok (k3) rfl rfl) (by simp only [noIdR_ok, argOkL, argOk, allOk, argOkN, List.drop_zero, lk, reduceIte, reduceCtorEq, Nat.reduceEqDiff, Option.some.injEq, Item.row.injEq, Item.box.injEq, AV.ro.injEq, exists_eq_left, exists_and_left, exists_eq_left', exists_eq_right, and_assoc, and_true, true_and, List.cons.injEq, exists_eq', exists_eq]) 0 rfl (by simp [rowsB]) ?_
          cases g with
          | true =>
            rw [hH, if_pos rfl] at hK
            (repeat' first | (with_reducible refine Asm.intro fun _ => ?_) | ((with_reducible refine Chk.intro ?_ ?_); (· first | omega | (with_reducible refine Chk.intro ?_ ?_ <;> omega) | (simp; done) | (simp; omega))) | (with_reducible refine AnyI.i64 fun _ _ => ?_) | ((with_reducible refine LetW.i64 ?_ ?_ ?_); (· omega); (· omega)) | ((with_reducible refine LetW.u8 ?_ ?_ ?_); (· omega); (· omega)) | ((with_reducible refine Ite.decide (fun _ => ?_) (fun _ => ?_)) <;> first | (exfalso; omega) | skip) | (with_reducible refine Ite.bool (fun _ => ?_) (fun _ => ?_)) | (with_reducible refine And.intro ?_ ?_) | omega | simp (maxSteps := 1000000) only [go_sem, reduceCtorEq, Nat.reduceLT, Nat.reduceLeDiff, reduceIte, ↓reduceIte, Nat.reduceEqDiff, Nat.reduceAdd, Nat.reduceMul, Nat.reduceSub, Int.reduceLE, Int.reduceLT, Int.reduceNeg, Int.reduceToNat])
            refine Ret.auto 0 ?_ rfl ?_ <;> simp only [go_sem, reduceCtorEq, reduceIte, Nat.reduceEqDiff, Nat.reduceLT, Nat.reduceLeDiff, Int.natCast_succ, Post, hK]
          | false =>
            rw [hH, if_neg (by decide)] at hK
            (repeat' first | (with_reducible refine Asm.intro fun _ => ?_) | ((with_reducible refine Chk.intro ?_ ?_); (· first | omega | (with_reducible refine Chk.intro ?_ ?_ <;> omega) | (simp; done) | (simp; omega))) | (with_reducible refine AnyI.i64 fun _ _ => ?_) | ((with_reducible refine LetW.i64 ?_ ?_ ?_); (· omega); (· omega)) | ((with_reducible refine LetW.u8 ?_ ?_ ?_); (· omega); (· omega)) | ((with_reducible refine Ite.decide (fun _ => ?_) (fun _ => ?_)) <;> first | (exfalso; omega) | skip) | (with_reducible refine Ite.bool (fun _ => ?_) (fun _ => ?_)) | (with_reducible refine And.intro ?_ ?_) | omega | simp (maxSteps := 1000000) only [go_sem, reduceCtorEq, Nat.reduceLT, Nat.reduceLeDiff, reduceIte, ↓reduceIte, Nat.reduceEqDiff, Nat.reduceAdd, Nat.reduceMul, Nat.reduceSub, Int.reduceLE, Int.reduceLT, Int.reduceNeg, Int.reduceToNat])
            refine ⟨k + 1, Ent.auto0 rfl ?_ ?_, ⟨by omega, hK⟩, by omega⟩ <;> simp only [go_sem, reduceCtorEq, reduceIte, Nat.reduceEqDiff, Nat.reduceLT, Nat.reduceLeDiff, Int.natCast_succ]
    · have e : k = l.length := by omega
      subst e
      rw [List.drop_length] at hK
      (repeat' first | (with_reducible refine Asm.intro fun _ => ?_) | ((with_reducible refine Chk.intro ?_ ?_); (· first | omega | (with_reducible refine Chk.intro ?_ ?_ <;> omega) | (simp; done) | (simp; omega))) | (with_reducible refine AnyI.i64 fun _ _ => ?_) | ((with_reducible refine LetW.i64 ?_ ?_ ?_); (· omega); (· omega)) | ((with_reducible refine LetW.u8 ?_ ?_ ?_); (· omega); (· omega)) | ((with_reducible refine Ite.decide (fun _ => ?_) (fun _ => ?_)) <;> first | (exfalso; omega) | skip) | (with_reducible refine Ite.bool (fun _ => ?_) (fun _ => ?_)) | (with_reducible refine And.intro ?_ ?_) | omega | simp (maxSteps := 1000000) only [go_sem, reduceCtorEq, Nat.reduceLT, Nat.reduceLeDiff, reduceIte, ↓reduceIte, Nat.reduceEqDiff, Nat.reduceAdd, Nat.reduceMul, Nat.reduceSub, Int.reduceLE, Int.reduceLT, Int.reduceNeg, Int.reduceToNat, List.length_map])
      refine Ret.auto 0 ?_ rfl ?_ <;> simp only [go_sem, reduceCtorEq, reduceIte, Nat.reduceEqDiff, Nat.reduceLT, Nat.reduceLeDiff, Int.natCast_succ, Post]
      all_goals rw [← hK]; rfl
end Go.Fv.S
