/-
  A part of the proof of the claim: walks over the program's functions and the plain laws that these need. No condition of its own.
-/
import Derived.Test.YtmfhpdfebmhclaaDoorTTopBatchCardPart2
import Derived.Test.YtmfhpdfebmhclaaDoorTTopBatchCardPart3
import Derived.Test.YtmfhpdfebmhclaaDoorTTopBatchCardPart1
import Derived.Test.YtmfhpdfebmhclaaDoorFvPart9
import Derived.Test.YtmfhpdfebmhclaaDoorFvPart6
import Derived.Test.YtmfhpdfebmhclaaDoorFvPart10
/- CheckRules. -/
namespace Go.Fv.T
open Go Go.Proofs
set_option linter.unusedSimpArgs false
set_option linter.unusedVariables false
set_option linter.unnecessarySimpa false
set_option maxRecDepth 8000

set_option maxHeartbeats 2000000 in
theorem isWordS_ok (s : List UInt8) (hs : s.length ≤ 1048576) : FnOk Tryd.prog 39 [.str s] (.bool (wordOk s)) [] := by
  have c1 := split_ok s hs
  have c2 := small_ok s
  have ho := oneWord_iff s
  unfold wordOk
  rw [← ho]
  generalize toks s [] [] = l at *
  generalize smallL s = sm at *
  refine FnOk.of_vc Tryd.func39 rfl (by decide) (by simp [Tryd.f39]) [.tmp 2] rfl fun w0 T0 _ => ?_
  simp only [Tryd.f39, argEnv]
  (repeat' first | with_reducible (first | refine Asm.intro fun _ => ?_ | refine Chk.g ?_ | refine AnyI.i64 fun _ _ => ?_ | refine LetW.g ?_ | refine LetW.h ?_ | refine Ite.t fun _ => ?_ | refine Ite.f fun _ => ?_ | refine Ite.decide (fun _ => ?_) fun _ => ?_ | refine Ite.bool (fun _ => ?_) fun _ => ?_ | refine And.intro ?_ ?_) | omega | simp (maxSteps := 1000000) only [go_sem, reduceCtorEq, Nat.reduceLT, Nat.reduceLeDiff, reduceIte, ↓reduceIte, Nat.reduceEqDiff, Nat.reduceAdd, Nat.reduceMul, Nat.reduceSub, Int.reduceLE, Int.reduceLT, Int.reduceNeg, Int.reduceToNat])
  refine VcCall.ro (.ro (tkR l)) (FnFr.of_ok c1 rfl (by simp [noRoRows, noRoItem, noRoRow, noRoL, noRo, tkR, tkAv])) (by simp only [noIdR_ok, argOkL, argOk, allOk, argOkN, List.drop_zero, lk, reduceIte, reduceCtorEq, Nat.reduceEqDiff, Option.some.injEq, Item.row.injEq, Item.box.injEq, AV.ro.injEq, exists_eq_left, exists_and_left, exists_eq_left', exists_eq_right, and_assoc, and_true, true_and, List.cons.injEq, exists_eq', exists_eq]) (by simp [outOk, argOkL, allOk, argOk, argOkN, lk, noIdR_ok, tkR]) rfl ?_
  clear c1 ho
  have n0 : (((0 : Nat) : Int) = 1) = False := by simp
  have n1 : ((0 + 1 : Nat) : Int) = 1 := rfl
  rcases l with _ | ⟨⟨t1, t2⟩, _ | ⟨b, r⟩⟩
  · (repeat' first | with_reducible (first | refine Asm.intro fun _ => ?_ | refine Chk.g ?_ | refine AnyI.i64 fun _ _ => ?_ | refine LetW.g ?_ | refine LetW.h ?_ | refine Ite.t fun _ => ?_ | refine Ite.f fun _ => ?_ | refine Ite.decide (fun _ => ?_) fun _ => ?_ | refine Ite.bool (fun _ => ?_) fun _ => ?_ | refine And.intro ?_ ?_) | omega | simp (maxSteps := 1000000) only [go_sem, reduceCtorEq, Nat.reduceLT, Nat.reduceLeDiff, reduceIte, ↓reduceIte, Nat.reduceEqDiff, Nat.reduceAdd, Nat.reduceMul, Nat.reduceSub, Int.reduceLE, Int.reduceLT, Int.reduceNeg, Int.reduceToNat, tkR, List.map_nil, List.length_nil, n0, decide_false, List.getD_nil, List.drop_nil])
    trace_state
    refine Ret.auto 0 ?_ rfl ?_ <;> simp only [go_sem, reduceCtorEq, reduceIte, Nat.reduceEqDiff, Nat.reduceLT, Nat.reduceLeDiff, Int.natCast_succ, Post, oneWord, Bool.false_and]
  · cases t2 with
    | false =>
      (repeat' first | with_reducible (first | refine Asm.intro fun _ => ?_ | refine Chk.g ?_ | refine AnyI.i64 fun _ _ => ?_ | refine LetW.g ?_ | refine LetW.h ?_ | refine Ite.t fun _ => ?_ | refine Ite.f fun _ => ?_ | refine Ite.decide (fun _ => ?_) fun _ => ?_ | refine Ite.bool (fun _ => ?_) fun _ => ?_ | refine And.intro ?_ ?_) | omega | simp (maxSteps := 1000000) only [go_sem, reduceCtorEq, Nat.reduceLT, Nat.reduceLeDiff, reduceIte, ↓reduceIte, Nat.reduceEqDiff, Nat.reduceAdd, Nat.reduceMul, Nat.reduceSub, Int.reduceLE, Int.reduceLT, Int.reduceNeg, Int.reduceToNat, tkR, tkAv, List.map_cons, List.map_nil, List.length_cons, List.length_nil, n1, List.getD_cons_zero])
      refine Ret.auto 0 ?_ rfl ?_ <;> simp only [go_sem, reduceCtorEq, reduceIte, Nat.reduceEqDiff, Nat.reduceLT, Nat.reduceLeDiff, Int.natCast_succ, Post, oneWord, Bool.false_and]
    | true =>
      (repeat' first | with_reducible (first | refine Asm.intro fun _ => ?_ | refine Chk.g ?_ | refine AnyI.i64 fun _ _ => ?_ | refine LetW.g ?_ | refine LetW.h ?_ | refine Ite.t fun _ => ?_ | refine Ite.f fun _ => ?_ | refine Ite.decide (fun _ => ?_) fun _ => ?_ | refine Ite.bool (fun _ => ?_) fun _ => ?_ | refine And.intro ?_ ?_) | omega | simp (maxSteps := 1000000) only [go_sem, reduceCtorEq, Nat.reduceLT, Nat.reduceLeDiff, reduceIte, ↓reduceIte, Nat.reduceEqDiff, Nat.reduceAdd, Nat.reduceMul, Nat.reduceSub, Int.reduceLE, Int.reduceLT, Int.reduceNeg, Int.reduceToNat, tkR, tkAv, List.map_cons, List.map_nil, List.length_cons, List.length_nil, n1, List.getD_cons_zero])
      refine VcCall.fr (FnFr.of_ok c2 rfl rfl) (by simp only [noIdR_ok, argOkL, argOk, allOk, argOkN, List.drop_zero, lk, reduceIte, reduceCtorEq, Nat.reduceEqDiff, Option.some.injEq, Item.row.injEq, Item.box.injEq, AV.ro.injEq, exists_eq_left, exists_and_left, exists_eq_left', exists_eq_right, and_assoc, and_true, true_and, List.cons.injEq, exists_eq', exists_eq]) 0 rfl (by simp [rowsB]) ?_
      (repeat' first | with_reducible (first | refine Asm.intro fun _ => ?_ | refine Chk.g ?_ | refine AnyI.i64 fun _ _ => ?_ | refine LetW.g ?_ | refine LetW.h ?_ | refine Ite.t fun _ => ?_ | refine Ite.f fun _ => ?_ | refine Ite.decide (fun _ => ?_) fun _ => ?_ | refine Ite.bool (fun _ => ?_) fun _ => ?_ | refine And.intro ?_ ?_) | omega | simp (maxSteps := 1000000) only [go_sem, reduceCtorEq, Nat.reduceLT, Nat.reduceLeDiff, reduceIte, ↓reduceIte, Nat.reduceEqDiff, Nat.reduceAdd, Nat.reduceMul, Nat.reduceSub, Int.reduceLE, Int.reduceLT, Int.reduceNeg, Int.reduceToNat])
      refine Ret.auto 0 ?_ rfl ?_ <;> simp only [go_sem, reduceCtorEq, reduceIte, Nat.reduceEqDiff, Nat.reduceLT, Nat.reduceLeDiff, Int.natCast_succ, Post, oneWord, Bool.true_and]
  · have n2 : (((r.length + 1 + 1 : Nat) : Int) = 1) = False := by simp; omega
    (repeat' first | with_reducible (first | refine Asm.intro fun _ => ?_ | refine Chk.g ?_ | refine AnyI.i64 fun _ _ => ?_ | refine LetW.g ?_ | refine LetW.h ?_ | refine Ite.t fun _ => ?_ | refine Ite.f fun _ => ?_ | refine Ite.decide (fun _ => ?_) fun _ => ?_ | refine Ite.bool (fun _ => ?_) fun _ => ?_ | refine And.intro ?_ ?_) | omega | simp (maxSteps := 1000000) only [go_sem, reduceCtorEq, Nat.reduceLT, Nat.reduceLeDiff, reduceIte, ↓reduceIte, Nat.reduceEqDiff, Nat.reduceAdd, Nat.reduceMul, Nat.reduceSub, Int.reduceLE, Int.reduceLT, Int.reduceNeg, Int.reduceToNat, tkR, tkAv, List.map_cons, List.length_cons, List.getD_cons_zero, n2, decide_false])
    refine Ret.auto 0 ?_ rfl ?_ <;> simp only [go_sem, reduceCtorEq, reduceIte, Nat.reduceEqDiff, Nat.reduceLT, Nat.reduceLeDiff, Int.natCast_succ, Post, oneWord, Bool.false_and]
theorem checkR1_ok (s : List UInt8) (hs : s.length ≤ 1048576) : FnOk Tryd.prog 38 [.str s] (.bool (!wordOk s)) [] := by
  have k := isWordS_ok s hs
  refine FnOk.of_vc Tryd.func38 rfl (by decide) (by simp [Tryd.f38]) [.tmp 2] rfl fun w0 T0 _ => ?_
  simp only [Tryd.f38, argEnv]
  (repeat' first | with_reducible (first | refine Asm.intro fun _ => ?_ | refine Chk.g ?_ | refine AnyI.i64 fun _ _ => ?_ | refine LetW.g ?_ | refine LetW.h ?_ | refine Ite.t fun _ => ?_ | refine Ite.f fun _ => ?_ | refine Ite.decide (fun _ => ?_) fun _ => ?_ | refine Ite.bool (fun _ => ?_) fun _ => ?_ | refine And.intro ?_ ?_) | omega | simp (maxSteps := 1000000) only [go_sem, reduceCtorEq, Nat.reduceLT, Nat.reduceLeDiff, reduceIte, ↓reduceIte, Nat.reduceEqDiff, Nat.reduceAdd, Nat.reduceMul, Nat.reduceSub, Int.reduceLE, Int.reduceLT, Int.reduceNeg, Int.reduceToNat])
  refine VcCall.fr (FnFr.of_ok k rfl rfl) (by simp only [noIdR_ok, argOkL, argOk, allOk, argOkN, List.drop_zero, lk, reduceIte, reduceCtorEq, Nat.reduceEqDiff, Option.some.injEq, Item.row.injEq, Item.box.injEq, AV.ro.injEq, exists_eq_left, exists_and_left, exists_eq_left', exists_eq_right, and_assoc, and_true, true_and, List.cons.injEq, exists_eq', exists_eq]) 0 rfl (by simp [rowsB]) ?_
  (repeat' first | with_reducible (first | refine Asm.intro fun _ => ?_ | refine Chk.g ?_ | refine AnyI.i64 fun _ _ => ?_ | refine LetW.g ?_ | refine LetW.h ?_ | refine Ite.t fun _ => ?_ | refine Ite.f fun _ => ?_ | refine Ite.decide (fun _ => ?_) fun _ => ?_ | refine Ite.bool (fun _ => ?_) fun _ => ?_ | refine And.intro ?_ ?_) | omega | simp (maxSteps := 1000000) only [go_sem, reduceCtorEq, Nat.reduceLT, Nat.reduceLeDiff, reduceIte, ↓reduceIte, Nat.reduceEqDiff, Nat.reduceAdd, Nat.reduceMul, Nat.reduceSub, Int.reduceLE, Int.reduceLT, Int.reduceNeg, Int.reduceToNat])
  refine Ret.auto 0 ?_ rfl ?_ <;> simp only [go_sem, reduceCtorEq, reduceIte, Nat.reduceEqDiff, Nat.reduceLT, Nat.reduceLeDiff, Int.natCast_succ, Post]
theorem any_notW (l : List (List UInt8)) : (l.any fun c => !wordOk c) = !l.all wordOk := by
  induction l with
  | nil => rfl
  | cons c l ih => simp [ih, Bool.not_and]

def RuSmall (l : List Ru) : Prop := ∀ i, i < l.length → ∀ w, w ∈ (l.getD i Ru.zero).words → w.length ≤ 1048576
set_option maxHeartbeats 4000000 in
theorem checkRules_ok (l : List Ru) (hW : RuSmall l) : FnOk Tryd.prog 27 [.ro (rus l)] (.int .i64 (rusErr l)) [] := by
  unfold rusErr
  refine FnOk.of_vc Tryd.func27 rfl (by decide) (by simp [Tryd.f27]) [.tmp 2] rfl fun w0 T0 _ => ?_
  simp only [Tryd.f27, argEnv]
  (repeat' first | with_reducible (first | refine Asm.intro fun _ => ?_ | refine Chk.g ?_ | refine AnyI.i64 fun _ _ => ?_ | refine LetW.g ?_ | refine LetW.h ?_ | refine Ite.t fun _ => ?_ | refine Ite.f fun _ => ?_ | refine Ite.decide (fun _ => ?_) fun _ => ?_ | refine Ite.bool (fun _ => ?_) fun _ => ?_ | refine And.intro ?_ ?_) | omega | simp (maxSteps := 1000000) only [go_sem, reduceCtorEq, Nat.reduceLT, Nat.reduceLeDiff, reduceIte, ↓reduceIte, Nat.reduceEqDiff, Nat.reduceAdd, Nat.reduceMul, Nat.reduceSub, Int.reduceLE, Int.reduceLT, Int.reduceNeg, Int.reduceToNat, List.length_map])
  · refine Ret.auto 0 ?_ rfl ?_ <;> simp only [go_sem, reduceCtorEq, reduceIte, Nat.reduceEqDiff, Nat.reduceLT, Nat.reduceLeDiff, Int.natCast_succ, Post]
    rw [if_pos (by omega)]
  rw [if_neg (by omega)]
  refine VcLoop.intro (fun i : Nat => ⟨43, [(8, .ro (rus l)), (9, .int .i64 l.length), (10, .int .i64 i)], [], 0⟩) (fun i => i ≤ l.length ∧ firstErr ((l.drop i).map ruErr) = firstErr (l.map ruErr)) (fun i => l.length - i) 0 ?_ ⟨Nat.zero_le _, rfl⟩ fun i hI => ?_
  · refine Ent.auto0 rfl ?_ ?_ <;> simp only [go_sem, reduceCtorEq, reduceIte, Nat.reduceEqDiff, Nat.reduceLT, Nat.reduceLeDiff, Int.natCast_succ]
  obtain ⟨hi, hI⟩ := hI
  by_cases hlt : i < l.length
  · have he := ru_elem l hlt
    have hw := hW i hlt
    rw [firstErrR_drop l hlt] at hI
    generalize l.getD i Ru.zero = r at *
    have k1 := isName_ok r.kind
    haveI c1 : CapsOk ([] : List AV) := ⟨rfl⟩
    have k2 := contFuncS_ok r.words 38 [] (fun c => !wordOk c) fun c hc => FnFr.of_ok (checkR1_ok c (hw c hc)) rfl rfl
    rw [any_notW] at k2
    have k3 := isCode_ok r.code
    have hE : ruErr r = firstErr [if nameOk r.kind = true then 0 else 5, if 20 < r.words.length then 4 else 0, if r.words.all wordOk = true then 0 else 2, if codeOk r.code = true then 0 else 2, if r.words = [] ∧ r.code = [] then 9 else 0] := rfl
    have hwl : r.words = [] ↔ (r.words.length : Int) = 0 := by rw [← List.length_eq_zero_iff]; omega
    generalize nameOk r.kind = p1 at *
    generalize r.words.all wordOk = p2 at *
    generalize codeOk r.code = p3 at *
    (repeat' first | with_reducible (first | refine Asm.intro fun _ => ?_ | refine Chk.g ?_ | refine AnyI.i64 fun _ _ => ?_ | refine LetW.g ?_ | refine LetW.h ?_ | refine Ite.t fun _ => ?_ | refine Ite.f fun _ => ?_ | refine Ite.decide (fun _ => ?_) fun _ => ?_ | refine Ite.bool (fun _ => ?_) fun _ => ?_ | refine And.intro ?_ ?_) | omega | simp (maxSteps := 1000000) only [go_sem, reduceCtorEq, Nat.reduceLT, Nat.reduceLeDiff, reduceIte, ↓reduceIte, Nat.reduceEqDiff, Nat.reduceAdd, Nat.reduceMul, Nat.reduceSub, Int.reduceLE, Int.reduceLT, Int.reduceNeg, Int.reduceToNat, he, List.length_map])
    refine VcCall.fr (FnFr.of_ok k1 rfl rfl) (by simp only [noIdR_ok, argOkL, argOk, allOk, argOkN, List.drop_zero, lk, reduceIte, reduceCtorEq, Nat.reduceEqDiff, Option.some.injEq, Item.row.injEq, Item.box.injEq, AV.ro.injEq, exists_eq_left, exists_and_left, exists_eq_left', exists_eq_right, and_assoc, and_true, true_and, List.cons.injEq, exists_eq', exists_eq]) 0 rfl (by simp [rowsB]) ?_
    cases p1 with
    | false =>
      have h5 : ruErr r = 5 := by rw [hE]; simp [firstErr]
      rw [h5] at hI
      (repeat' first | with_reducible (first | refine Asm.intro fun _ => ?_ | refine Chk.g ?_ | refine AnyI.i64 fun _ _ => ?_ | refine LetW.g ?_ | refine LetW.h ?_ | refine Ite.t fun _ => ?_ | refine Ite.f fun _ => ?_ | refine Ite.decide (fun _ => ?_) fun _ => ?_ | refine Ite.bool (fun _ => ?_) fun _ => ?_ | refine And.intro ?_ ?_) | omega | simp (maxSteps := 1000000) only [go_sem, reduceCtorEq, Nat.reduceLT, Nat.reduceLeDiff, reduceIte, ↓reduceIte, Nat.reduceEqDiff, Nat.reduceAdd, Nat.reduceMul, Nat.reduceSub, Int.reduceLE, Int.reduceLT, Int.reduceNeg, Int.reduceToNat])
      refine Ret.auto 0 ?_ rfl ?_ <;> simp only [go_sem, reduceCtorEq, reduceIte, Nat.reduceEqDiff, Nat.reduceLT, Nat.reduceLeDiff, Int.natCast_succ, Post]
      all_goals rw [← hI]; rfl
    | true =>
      (repeat' first | with_reducible (first | refine Asm.intro fun _ => ?_ | refine Chk.g ?_ | refine AnyI.i64 fun _ _ => ?_ | refine LetW.g ?_ | refine LetW.h ?_ | refine Ite.t fun _ => ?_ | refine Ite.f fun _ => ?_ | refine Ite.decide (fun _ => ?_) fun _ => ?_ | refine Ite.bool (fun _ => ?_) fun _ => ?_ | refine And.intro ?_ ?_) | omega | simp (maxSteps := 1000000) only [go_sem, reduceCtorEq, Nat.reduceLT, Nat.reduceLeDiff, reduceIte, ↓reduceIte, Nat.reduceEqDiff, Nat.reduceAdd, Nat.reduceMul, Nat.reduceSub, Int.reduceLE, Int.reduceLT, Int.reduceNeg, Int.reduceToNat])
      · have h5 : ruErr r = 4 := by rw [hE, if_pos rfl, if_pos (by omega)]; simp [firstErr]
        rw [h5] at hI
        refine Ret.auto 0 ?_ rfl ?_ <;> simp only [go_sem, reduceCtorEq, reduceIte, Nat.reduceEqDiff, Nat.reduceLT, Nat.reduceLeDiff, Int.natCast_succ, Post]
        all_goals rw [← hI]; rfl
      refine VcCall.fr (FnFr.of_ok k2 rfl rfl) (by simp only [noIdR_ok, argOkL, argOk, allOk, argOkN, List.drop_zero, lk, reduceIte, reduceCtorEq, Nat.reduceEqDiff, Option.some.injEq, Item.row.injEq, Item.box.injEq, AV.ro.injEq, exists_eq_left, exists_and_left, exists_eq_left', exists_eq_right, and_assoc, and_true, true_and, List.cons.injEq, exists_eq', exists_eq]) 0 rfl (by simp [rowsB]) ?_
      cases p2 with
      | false =>
        have h5 : ruErr r = 2 := by rw [hE, if_pos rfl, if_neg (by omega)]; simp [firstErr]
        rw [h5] at hI
        (repeat' first | with_reducible (first | refine Asm.intro fun _ => ?_ | refine Chk.g ?_ | refine AnyI.i64 fun _ _ => ?_ | refine LetW.g ?_ | refine LetW.h ?_ | refine Ite.t fun _ => ?_ | refine Ite.f fun _ => ?_ | refine Ite.decide (fun _ => ?_) fun _ => ?_ | refine Ite.bool (fun _ => ?_) fun _ => ?_ | refine And.intro ?_ ?_) | omega | simp (maxSteps := 1000000) only [go_sem, reduceCtorEq, Nat.reduceLT, Nat.reduceLeDiff, reduceIte, ↓reduceIte, Nat.reduceEqDiff, Nat.reduceAdd, Nat.reduceMul, Nat.reduceSub, Int.reduceLE, Int.reduceLT, Int.reduceNeg, Int.reduceToNat])
        refine Ret.auto 0 ?_ rfl ?_ <;> simp only [go_sem, reduceCtorEq, reduceIte, Nat.reduceEqDiff, Nat.reduceLT, Nat.reduceLeDiff, Int.natCast_succ, Post]
        all_goals rw [← hI]; rfl
      | true =>
        (repeat' first | with_reducible (first | refine Asm.intro fun _ => ?_ | refine Chk.g ?_ | refine AnyI.i64 fun _ _ => ?_ | refine LetW.g ?_ | refine LetW.h ?_ | refine Ite.t fun _ => ?_ | refine Ite.f fun _ => ?_ | refine Ite.decide (fun _ => ?_) fun _ => ?_ | refine Ite.bool (fun _ => ?_) fun _ => ?_ | refine And.intro ?_ ?_) | omega | simp (maxSteps := 1000000) only [go_sem, reduceCtorEq, Nat.reduceLT, Nat.reduceLeDiff, reduceIte, ↓reduceIte, Nat.reduceEqDiff, Nat.reduceAdd, Nat.reduceMul, Nat.reduceSub, Int.reduceLE, Int.reduceLT, Int.reduceNeg, Int.reduceToNat])
        refine VcCall.fr (FnFr.of_ok k3 rfl rfl) (by simp only [noIdR_ok, argOkL, argOk, allOk, argOkN, List.drop_zero, lk, reduceIte, reduceCtorEq, Nat.reduceEqDiff, Option.some.injEq, Item.row.injEq, Item.box.injEq, AV.ro.injEq, exists_eq_left, exists_and_left, exists_eq_left', exists_eq_right, and_assoc, and_true, true_and, List.cons.injEq, exists_eq', exists_eq]) 0 rfl (by simp [rowsB]) ?_
        cases p3 with
        | false =>
          have h5 : ruErr r = 2 := by rw [hE, if_pos rfl, if_neg (by omega)]; simp [firstErr]
          rw [h5] at hI
          (repeat' first | with_reducible (first | refine Asm.intro fun _ => ?_ | refine Chk.g ?_ | refine AnyI.i64 fun _ _ => ?_ | refine LetW.g ?_ | refine LetW.h ?_ | refine Ite.t fun _ => ?_ | refine Ite.f fun _ => ?_ | refine Ite.decide (fun _ => ?_) fun _ => ?_ | refine Ite.bool (fun _ => ?_) fun _ => ?_ | refine And.intro ?_ ?_) | omega | simp (maxSteps := 1000000) only [go_sem, reduceCtorEq, Nat.reduceLT, Nat.reduceLeDiff, reduceIte, ↓reduceIte, Nat.reduceEqDiff, Nat.reduceAdd, Nat.reduceMul, Nat.reduceSub, Int.reduceLE, Int.reduceLT, Int.reduceNeg, Int.reduceToNat])
          refine Ret.auto 0 ?_ rfl ?_ <;> simp only [go_sem, reduceCtorEq, reduceIte, Nat.reduceEqDiff, Nat.reduceLT, Nat.reduceLeDiff, Int.natCast_succ, Post]
          all_goals rw [← hI]; rfl
        | true =>
          (repeat' first | with_reducible (first | refine Asm.intro fun _ => ?_ | refine Chk.g ?_ | refine AnyI.i64 fun _ _ => ?_ | refine LetW.g ?_ | refine LetW.h ?_ | refine Ite.t fun _ => ?_ | refine Ite.f fun _ => ?_ | refine Ite.decide (fun _ => ?_) fun _ => ?_ | refine Ite.bool (fun _ => ?_) fun _ => ?_ | refine And.intro ?_ ?_) | omega | simp (maxSteps := 1000000) only [go_sem, reduceCtorEq, Nat.reduceLT, Nat.reduceLeDiff, reduceIte, ↓reduceIte, Nat.reduceEqDiff, Nat.reduceAdd, Nat.reduceMul, Nat.reduceSub, Int.reduceLE, Int.reduceLT, Int.reduceNeg, Int.reduceToNat])
          · rename_i hx
            have h5 : ruErr r = 9 := by rw [hE, if_pos rfl, if_neg (by omega), if_pos rfl, if_pos ⟨hwl.2 hx.1, hx.2⟩]; simp [firstErr]
            rw [h5] at hI
            refine Ret.auto 0 ?_ rfl ?_ <;> simp only [go_sem, reduceCtorEq, reduceIte, Nat.reduceEqDiff, Nat.reduceLT, Nat.reduceLeDiff, Int.natCast_succ, Post]
            all_goals rw [← hI]; rfl
          · rename_i hx
            have h5 : ruErr r = 0 := by rw [hE, if_pos rfl, if_neg (by omega), if_pos rfl, if_neg (fun h => hx ⟨hwl.1 h.1, h.2⟩)]; simp [firstErr]
            rw [if_pos h5] at hI
            refine ⟨i + 1, Ent.auto0 rfl ?_ ?_, ⟨by omega, hI⟩, by omega⟩ <;> simp only [go_sem, reduceCtorEq, reduceIte, Nat.reduceEqDiff, Nat.reduceLT, Nat.reduceLeDiff, Int.natCast_succ]
  · have e : i = l.length := by omega
    subst e
    rw [List.drop_length] at hI
    (repeat' first | with_reducible (first | refine Asm.intro fun _ => ?_ | refine Chk.g ?_ | refine AnyI.i64 fun _ _ => ?_ | refine LetW.g ?_ | refine LetW.h ?_ | refine Ite.t fun _ => ?_ | refine Ite.f fun _ => ?_ | refine Ite.decide (fun _ => ?_) fun _ => ?_ | refine Ite.bool (fun _ => ?_) fun _ => ?_ | refine And.intro ?_ ?_) | omega | simp (maxSteps := 1000000) only [go_sem, reduceCtorEq, Nat.reduceLT, Nat.reduceLeDiff, reduceIte, ↓reduceIte, Nat.reduceEqDiff, Nat.reduceAdd, Nat.reduceMul, Nat.reduceSub, Int.reduceLE, Int.reduceLT, Int.reduceNeg, Int.reduceToNat, List.length_map])
    refine Ret.auto 0 ?_ rfl ?_ <;> simp only [go_sem, reduceCtorEq, reduceIte, Nat.reduceEqDiff, Nat.reduceLT, Nat.reduceLeDiff, Int.natCast_succ, Post]
    all_goals rw [← hI]; rfl
end Go.Fv.T

/- strings.HasPrefix. -/
namespace Go.Fv.T
open Go Go.Proofs
set_option linter.unusedSimpArgs false
set_option linter.unusedVariables false
set_option linter.unnecessarySimpa false
set_option maxRecDepth 8000

theorem take_prefix (s p : List UInt8) : decide ((p.length : Int) ≤ (s.length : Int) ∧ s.take p.length = p) = p.isPrefixOf s := by
  rw [Bool.eq_iff_iff, decide_eq_true_eq, List.isPrefixOf_iff_prefix]
  constructor
  · rintro ⟨_, h⟩; exact List.prefix_iff_eq_take.2 h.symm
  · intro h; exact ⟨by have := h.length_le; omega, (List.prefix_iff_eq_take.1 h).symm⟩
theorem hasPrefix0_ok (s p : List UInt8) : FnOk Tryd.prog 58 [.str s, .str p] (.bool (p.isPrefixOf s)) [] := by
  rw [← take_prefix]
  refine FnOk.of_vc Tryd.func58 rfl (by decide) (by simp [Tryd.f58]) [.tmp 4] rfl fun w0 T0 _ => ?_
  simp only [Tryd.f58, argEnv]
  (repeat' first | with_reducible (first | refine Asm.intro fun _ => ?_ | refine Chk.g ?_ | refine AnyI.i64 fun _ _ => ?_ | refine LetW.g ?_ | refine LetW.h ?_ | refine Ite.t fun _ => ?_ | refine Ite.f fun _ => ?_ | refine Ite.decide (fun _ => ?_) fun _ => ?_ | refine Ite.bool (fun _ => ?_) fun _ => ?_ | refine And.intro ?_ ?_) | omega | simp (maxSteps := 1000000) only [go_sem, reduceCtorEq, Nat.reduceLT, Nat.reduceLeDiff, reduceIte, ↓reduceIte, Nat.reduceEqDiff, Nat.reduceAdd, Nat.reduceMul, Nat.reduceSub, Int.reduceLE, Int.reduceLT, Int.reduceNeg, Int.reduceToNat, Nat.sub_zero, List.drop_zero, Int.toNat_natCast, Int.toNat_zero])
  refine Ret.auto 0 ?_ rfl ?_ <;> simp only [go_sem, reduceCtorEq, reduceIte, Nat.reduceEqDiff, Nat.reduceLT, Nat.reduceLeDiff, Int.natCast_succ, Post]
theorem hasPrefix_ok (s p : List UInt8) : FnOk Tryd.prog 43 [.str s, .str p] (.bool (p.isPrefixOf s)) [] := by
  have k := hasPrefix0_ok s p
  refine FnOk.of_vc Tryd.func43 rfl (by decide) (by simp [Tryd.f43]) [.tmp 4] rfl fun w0 T0 _ => ?_
  simp only [Tryd.f43, argEnv]
  (repeat' first | with_reducible (first | refine Asm.intro fun _ => ?_ | refine Chk.g ?_ | refine AnyI.i64 fun _ _ => ?_ | refine LetW.g ?_ | refine LetW.h ?_ | refine Ite.t fun _ => ?_ | refine Ite.f fun _ => ?_ | refine Ite.decide (fun _ => ?_) fun _ => ?_ | refine Ite.bool (fun _ => ?_) fun _ => ?_ | refine And.intro ?_ ?_) | omega | simp (maxSteps := 1000000) only [go_sem, reduceCtorEq, Nat.reduceLT, Nat.reduceLeDiff, reduceIte, ↓reduceIte, Nat.reduceEqDiff, Nat.reduceAdd, Nat.reduceMul, Nat.reduceSub, Int.reduceLE, Int.reduceLT, Int.reduceNeg, Int.reduceToNat])
  refine VcCall.fr (FnFr.of_ok k rfl rfl) (by simp only [noIdR_ok, argOkL, argOk, allOk, argOkN, List.drop_zero, lk, reduceIte, reduceCtorEq, Nat.reduceEqDiff, Option.some.injEq, Item.row.injEq, Item.box.injEq, AV.ro.injEq, exists_eq_left, exists_and_left, exists_eq_left', exists_eq_right, and_assoc, and_true, true_and, List.cons.injEq, exists_eq', exists_eq]) 0 rfl (by simp [rowsB]) ?_
  (repeat' first | with_reducible (first | refine Asm.intro fun _ => ?_ | refine Chk.g ?_ | refine AnyI.i64 fun _ _ => ?_ | refine LetW.g ?_ | refine LetW.h ?_ | refine Ite.t fun _ => ?_ | refine Ite.f fun _ => ?_ | refine Ite.decide (fun _ => ?_) fun _ => ?_ | refine Ite.bool (fun _ => ?_) fun _ => ?_ | refine And.intro ?_ ?_) | omega | simp (maxSteps := 1000000) only [go_sem, reduceCtorEq, Nat.reduceLT, Nat.reduceLeDiff, reduceIte, ↓reduceIte, Nat.reduceEqDiff, Nat.reduceAdd, Nat.reduceMul, Nat.reduceSub, Int.reduceLE, Int.reduceLT, Int.reduceNeg, Int.reduceToNat])
  refine Ret.auto 0 ?_ rfl ?_ <;> simp only [go_sem, reduceCtorEq, reduceIte, Nat.reduceEqDiff, Nat.reduceLT, Nat.reduceLeDiff, Int.natCast_succ, Post]
end Go.Fv.T

/- The reference's closure that puts tokens. -/
namespace Go.Fv.T
open Go Go.Proofs
set_option linter.unusedSimpArgs false
set_option linter.unusedVariables false
set_option linter.unnecessarySimpa false
set_option maxRecDepth 8000

end Go.Fv.T

/- The reference's way to cut the quotes. -/
namespace Go.Fv.T
open Go
set_option linter.unusedSimpArgs false
set_option linter.unusedVariables false
set_option linter.unnecessarySimpa false

end Go.Fv.T

/- The reference's Tokens. -/
namespace Go.Fv.T
open Go Go.Proofs
set_option linter.unusedSimpArgs false
set_option linter.unusedVariables false
set_option linter.unnecessarySimpa false
set_option maxRecDepth 8000

end Go.Fv.T

/- How many tokens there are. -/
namespace Go.Fv.T
open Go
set_option linter.unusedSimpArgs false
set_option linter.unusedVariables false
set_option linter.unnecessarySimpa false

theorem flush_len (out : List Tok) (b : Bytes) : (flush out b).length ≤ out.length + 1 := by
  unfold flush; split <;> simp
theorem toks_len : ∀ (n : Nat) (s btw : Bytes) (out : List Tok), s.length ≤ n → (toks s btw out).length ≤ out.length + 2 * s.length + 1
  | 0, s, btw, out, h => by
    have : s = [] := List.eq_nil_of_length_eq_zero (by omega)
    subst this
    rw [toks_nil]; have := flush_len out btw; simp; omega
  | n + 1, [], btw, out, h => by rw [toks_nil]; have := flush_len out btw; simp; omega
  | n + 1, c :: s, btw, out, h => by
    cases hc : inW c with
    | false =>
      rw [toks_other hc]
      have := toks_len n s (btw ++ [c]) out (by simpa using h)
      simp only [List.length_cons]; omega
    | true =>
      have hd := drop_lt (s := s) hc
      by_cases hw : isWd (midQ ((c :: s).takeWhile inW)) = true
      · rw [toks_word hc _ _ hw]
        have h1 := toks_len n ((c :: s).dropWhile inW) (postQ (dropQ ((c :: s).takeWhile inW))) (flush out (btw ++ preQ ((c :: s).takeWhile inW)) ++ [(midQ ((c :: s).takeWhile inW), true)]) (by omega)
        have h2 := flush_len out (btw ++ preQ ((c :: s).takeWhile inW))
        simp only [List.length_append, List.length_singleton] at h1
        omega
      · rw [toks_row hc _ _ hw]
        have h1 := toks_len n ((c :: s).dropWhile inW) (btw ++ (c :: s).takeWhile inW) out (by omega)
        omega
end Go.Fv.T

/- Kind and its reference. -/
namespace Go.Fv.T
open Go Go.Proofs
set_option linter.unusedSimpArgs false
set_option linter.unusedVariables false
set_option linter.unnecessarySimpa false
set_option maxRecDepth 8000

theorem begins1_ok (c start : List UInt8) : FnOk Tryd.prog 42 [.str c, .cell [.str start]] (.bool (start.isPrefixOf c)) [] := by
  have k := hasPrefix_ok c start
  refine FnOk.of_vc Tryd.func42 rfl (by decide) (by simp [Tryd.f42]) [.tmp 3] rfl fun w0 T0 _ => ?_
  simp only [Tryd.f42, argEnv]
  (repeat' first | with_reducible (first | refine Asm.intro fun _ => ?_ | refine Chk.g ?_ | refine AnyI.i64 fun _ _ => ?_ | refine LetW.g ?_ | refine LetW.h ?_ | refine Ite.t fun _ => ?_ | refine Ite.f fun _ => ?_ | refine Ite.decide (fun _ => ?_) fun _ => ?_ | refine Ite.bool (fun _ => ?_) fun _ => ?_ | refine And.intro ?_ ?_) | omega | simp (maxSteps := 1000000) only [go_sem, reduceCtorEq, Nat.reduceLT, Nat.reduceLeDiff, reduceIte, ↓reduceIte, Nat.reduceEqDiff, Nat.reduceAdd, Nat.reduceMul, Nat.reduceSub, Int.reduceLE, Int.reduceLT, Int.reduceNeg, Int.reduceToNat])
  refine VcCall.fr (FnFr.of_ok (k) rfl rfl) (by simp only [noIdR_ok, argOkL, argOk, allOk, argOkN, List.drop_zero, lk, reduceIte, reduceCtorEq, Nat.reduceEqDiff, Option.some.injEq, Item.row.injEq, Item.box.injEq, AV.ro.injEq, exists_eq_left, exists_and_left, exists_eq_left', exists_eq_right, and_assoc, and_true, true_and, List.cons.injEq, exists_eq', exists_eq]) 0 rfl (by simp [rowsB]) ?_
  (repeat' first | with_reducible (first | refine Asm.intro fun _ => ?_ | refine Chk.g ?_ | refine AnyI.i64 fun _ _ => ?_ | refine LetW.g ?_ | refine LetW.h ?_ | refine Ite.t fun _ => ?_ | refine Ite.f fun _ => ?_ | refine Ite.decide (fun _ => ?_) fun _ => ?_ | refine Ite.bool (fun _ => ?_) fun _ => ?_ | refine And.intro ?_ ?_) | omega | simp (maxSteps := 1000000) only [go_sem, reduceCtorEq, Nat.reduceLT, Nat.reduceLeDiff, reduceIte, ↓reduceIte, Nat.reduceEqDiff, Nat.reduceAdd, Nat.reduceMul, Nat.reduceSub, Int.reduceLE, Int.reduceLT, Int.reduceNeg, Int.reduceToNat])
  refine Ret.auto 0 ?_ rfl ?_ <;> simp only [go_sem, reduceCtorEq, reduceIte, Nat.reduceEqDiff, Nat.reduceLT, Nat.reduceLeDiff, Int.natCast_succ, Post]
theorem begins_ok (s : Sh) (start : List UInt8) : FnOk Tryd.prog 30 [.agg s.av, .str start] (.bool (begB s.codes start)) [] := by
  haveI c1 : CapsOk [.cell [.str start]] := ⟨rfl⟩
  have k := contFuncS_ok s.codes 42 [.cell [.str start]] (fun c => start.isPrefixOf c) fun c hc => FnFr.of_ok (begins1_ok c start) rfl rfl
  unfold Sh.av begB
  refine FnOk.of_vc Tryd.func30 rfl (by decide) (by simp [Tryd.f30]) [.tmp 4] rfl fun w0 T0 _ => ?_
  simp only [Tryd.f30, argEnv]
  (repeat' first | with_reducible (first | refine Asm.intro fun _ => ?_ | refine Chk.g ?_ | refine AnyI.i64 fun _ _ => ?_ | refine LetW.g ?_ | refine LetW.h ?_ | refine Ite.t fun _ => ?_ | refine Ite.f fun _ => ?_ | refine Ite.decide (fun _ => ?_) fun _ => ?_ | refine Ite.bool (fun _ => ?_) fun _ => ?_ | refine And.intro ?_ ?_) | omega | simp (maxSteps := 1000000) only [go_sem, reduceCtorEq, Nat.reduceLT, Nat.reduceLeDiff, reduceIte, ↓reduceIte, Nat.reduceEqDiff, Nat.reduceAdd, Nat.reduceMul, Nat.reduceSub, Int.reduceLE, Int.reduceLT, Int.reduceNeg, Int.reduceToNat])
  refine VcCall.fr (FnFr.of_ok (k) rfl rfl) (by simp only [noIdR_ok, argOkL, argOk, allOk, argOkN, List.drop_zero, lk, reduceIte, reduceCtorEq, Nat.reduceEqDiff, Option.some.injEq, Item.row.injEq, Item.box.injEq, AV.ro.injEq, exists_eq_left, exists_and_left, exists_eq_left', exists_eq_right, and_assoc, and_true, true_and, List.cons.injEq, exists_eq', exists_eq]) 0 rfl (by simp [rowsB]) ?_
  (repeat' first | with_reducible (first | refine Asm.intro fun _ => ?_ | refine Chk.g ?_ | refine AnyI.i64 fun _ _ => ?_ | refine LetW.g ?_ | refine LetW.h ?_ | refine Ite.t fun _ => ?_ | refine Ite.f fun _ => ?_ | refine Ite.decide (fun _ => ?_) fun _ => ?_ | refine Ite.bool (fun _ => ?_) fun _ => ?_ | refine And.intro ?_ ?_) | omega | simp (maxSteps := 1000000) only [go_sem, reduceCtorEq, Nat.reduceLT, Nat.reduceLeDiff, reduceIte, ↓reduceIte, Nat.reduceEqDiff, Nat.reduceAdd, Nat.reduceMul, Nat.reduceSub, Int.reduceLE, Int.reduceLT, Int.reduceNeg, Int.reduceToNat])
  refine Ret.auto 0 ?_ rfl ?_ <;> simp only [go_sem, reduceCtorEq, reduceIte, Nat.reduceEqDiff, Nat.reduceLT, Nat.reduceLeDiff, Int.natCast_succ, Post]
/-- A set of texts, as a map. -/
def setAv (l : List (List UInt8)) : AV := .mp (l.map .str) (l.map fun _ => .bool true)
theorem lacks_ok (w : List UInt8) (l : List (List UInt8)) : FnOk Tryd.prog 41 [.str w, .cell [setAv l]] (.bool (!decide (w ∈ l))) [] := by
  refine FnOk.of_vc Tryd.func41 rfl (by decide) (by simp [Tryd.f41]) [.tmp 3] rfl fun w0 T0 _ => ?_
  simp only [Tryd.f41, argEnv, setAv]
  (repeat' first | with_reducible (first | refine Asm.intro fun _ => ?_ | refine Chk.g ?_ | refine AnyI.i64 fun _ _ => ?_ | refine LetW.g ?_ | refine LetW.h ?_ | refine Ite.t fun _ => ?_ | refine Ite.f fun _ => ?_ | refine Ite.decide (fun _ => ?_) fun _ => ?_ | refine Ite.bool (fun _ => ?_) fun _ => ?_ | refine And.intro ?_ ?_) | omega | simp (maxSteps := 1000000) only [go_sem, reduceCtorEq, Nat.reduceLT, Nat.reduceLeDiff, reduceIte, ↓reduceIte, Nat.reduceEqDiff, Nat.reduceAdd, Nat.reduceMul, Nat.reduceSub, Int.reduceLE, Int.reduceLT, Int.reduceNeg, Int.reduceToNat])
  refine Ret.auto 0 ?_ rfl ?_ <;> simp only [go_sem, reduceCtorEq, reduceIte, Nat.reduceEqDiff, Nat.reduceLT, Nat.reduceLeDiff, Int.natCast_succ, Post]
set_option maxHeartbeats 4000000 in
theorem wordsOfS_ok (s : List UInt8) (hs : s.length ≤ 1048576) : FnOk Tryd.prog 40 [.str s] (.own 0) [(0, .row 9 (.strs (textHas s)))] := by
  have c1 := split_ok s hs
  unfold textHas
  have hll := toks_len _ s [] [] (Nat.le_refl _)
  simp only [List.length_nil] at hll
  generalize toks s [] [] = l at *
  refine FnOk.of_vc Tryd.func40 rfl (by decide) (by simp [Tryd.f40]) [.tmp 2] rfl fun w0 T0 _ => ?_
  simp only [Tryd.f40, argEnv]
  (repeat' first | with_reducible (first | refine Asm.intro fun _ => ?_ | refine Chk.g ?_ | refine AnyI.i64 fun _ _ => ?_ | refine LetW.g ?_ | refine LetW.h ?_ | refine Ite.t fun _ => ?_ | refine Ite.f fun _ => ?_ | refine Ite.decide (fun _ => ?_) fun _ => ?_ | refine Ite.bool (fun _ => ?_) fun _ => ?_ | refine And.intro ?_ ?_) | omega | simp (maxSteps := 1000000) only [go_sem, reduceCtorEq, Nat.reduceLT, Nat.reduceLeDiff, reduceIte, ↓reduceIte, Nat.reduceEqDiff, Nat.reduceAdd, Nat.reduceMul, Nat.reduceSub, Int.reduceLE, Int.reduceLT, Int.reduceNeg, Int.reduceToNat])
  refine VcCall.ro (.ro (tkR l)) (FnFr.of_ok c1 rfl (by simp [noRoRows, noRoItem, noRoRow, noRoL, noRo, tkR, tkAv])) (by simp only [noIdR_ok, argOkL, argOk, allOk, argOkN, List.drop_zero, lk, reduceIte, reduceCtorEq, Nat.reduceEqDiff, Option.some.injEq, Item.row.injEq, Item.box.injEq, AV.ro.injEq, exists_eq_left, exists_and_left, exists_eq_left', exists_eq_right, and_assoc, and_true, true_and, List.cons.injEq, exists_eq', exists_eq]) (by simp [outOk, argOkL, allOk, argOk, argOkN, lk, noIdR_ok, tkR]) rfl ?_
  (repeat' first | with_reducible (first | refine Asm.intro fun _ => ?_ | refine Chk.g ?_ | refine AnyI.i64 fun _ _ => ?_ | refine LetW.g ?_ | refine LetW.h ?_ | refine Ite.t fun _ => ?_ | refine Ite.f fun _ => ?_ | refine Ite.decide (fun _ => ?_) fun _ => ?_ | refine Ite.bool (fun _ => ?_) fun _ => ?_ | refine And.intro ?_ ?_) | omega | simp (maxSteps := 1000000) only [go_sem, reduceCtorEq, Nat.reduceLT, Nat.reduceLeDiff, reduceIte, ↓reduceIte, Nat.reduceEqDiff, Nat.reduceAdd, Nat.reduceMul, Nat.reduceSub, Int.reduceLE, Int.reduceLT, Int.reduceNeg, Int.reduceToNat, tkR, List.length_map])
  refine VcLoop.intro (fun i : Nat => ⟨23, [(9, .int .i64 i), (8, .int .i64 l.length), (7, .ro (tkR l)), (3, .own 0)], [(0, .row 9 (.strs (hasL (l.take i))))], 1⟩) (fun i => i ≤ l.length) (fun i => l.length - i) 0 ?_ (Nat.zero_le _) fun i hi => ?_
  · refine Ent.auto0 rfl ?_ ?_
    · simp only [go_sem, reduceCtorEq, reduceIte, Nat.reduceEqDiff, Nat.reduceLT, Nat.reduceLeDiff, Int.natCast_succ, tkR]
    · simp only [go_sem, reduceCtorEq, reduceIte, Nat.reduceEqDiff, Nat.reduceLT, Nat.reduceLeDiff, Int.natCast_succ, tkR]
      rfl
  by_cases hlt : i < l.length
  · have hel := tk_elem l hlt
    have hst := hasL_take l hlt
    have hwl := hasL_len (l.take i)
    have hwl2 : (l.take i).length ≤ l.length := by simp; omega
    generalize l.getD i ([], false) = z at *
    obtain ⟨z1, z2⟩ := z
    dsimp only at hel hst
    have k2 := small_ok z1
    cases z2 with
    | true =>
      rw [if_pos rfl] at hst
      (repeat' first | with_reducible (first | refine Asm.intro fun _ => ?_ | refine Chk.g ?_ | refine AnyI.i64 fun _ _ => ?_ | refine LetW.g ?_ | refine LetW.h ?_ | refine Ite.t fun _ => ?_ | refine Ite.f fun _ => ?_ | refine Ite.decide (fun _ => ?_) fun _ => ?_ | refine Ite.bool (fun _ => ?_) fun _ => ?_ | refine And.intro ?_ ?_) | omega | simp (maxSteps := 1000000) only [go_sem, reduceCtorEq, Nat.reduceLT, Nat.reduceLeDiff, reduceIte, ↓reduceIte, Nat.reduceEqDiff, Nat.reduceAdd, Nat.reduceMul, Nat.reduceSub, Int.reduceLE, Int.reduceLT, Int.reduceNeg, Int.reduceToNat, elemA, hel, tkR, List.length_map])
      refine VcCall.fr (FnFr.of_ok (k2) rfl rfl) (by simp only [noIdR_ok, argOkL, argOk, allOk, argOkN, List.drop_zero, lk, reduceIte, reduceCtorEq, Nat.reduceEqDiff, Option.some.injEq, Item.row.injEq, Item.box.injEq, AV.ro.injEq, exists_eq_left, exists_and_left, exists_eq_left', exists_eq_right, and_assoc, and_true, true_and, List.cons.injEq, exists_eq', exists_eq]) 0 rfl (by simp [rowsB]) ?_
      (repeat' first | with_reducible (first | refine Asm.intro fun _ => ?_ | refine Chk.g ?_ | refine AnyI.i64 fun _ _ => ?_ | refine LetW.g ?_ | refine LetW.h ?_ | refine Ite.t fun _ => ?_ | refine Ite.f fun _ => ?_ | refine Ite.decide (fun _ => ?_) fun _ => ?_ | refine Ite.bool (fun _ => ?_) fun _ => ?_ | refine And.intro ?_ ?_) | omega | simp (maxSteps := 1000000) only [go_sem, reduceCtorEq, Nat.reduceLT, Nat.reduceLeDiff, reduceIte, ↓reduceIte, Nat.reduceEqDiff, Nat.reduceAdd, Nat.reduceMul, Nat.reduceSub, Int.reduceLE, Int.reduceLT, Int.reduceNeg, Int.reduceToNat])
      refine ⟨i + 1, Ent.auto0 rfl ?_ ?_, by omega, by omega⟩ <;> simp only [go_sem, reduceCtorEq, reduceIte, Nat.reduceEqDiff, Nat.reduceLT, Nat.reduceLeDiff, Int.natCast_succ, tkR, hst]
    | false =>
      rw [if_neg (by decide), List.append_nil] at hst
      (repeat' first | with_reducible (first | refine Asm.intro fun _ => ?_ | refine Chk.g ?_ | refine AnyI.i64 fun _ _ => ?_ | refine LetW.g ?_ | refine LetW.h ?_ | refine Ite.t fun _ => ?_ | refine Ite.f fun _ => ?_ | refine Ite.decide (fun _ => ?_) fun _ => ?_ | refine Ite.bool (fun _ => ?_) fun _ => ?_ | refine And.intro ?_ ?_) | omega | simp (maxSteps := 1000000) only [go_sem, reduceCtorEq, Nat.reduceLT, Nat.reduceLeDiff, reduceIte, ↓reduceIte, Nat.reduceEqDiff, Nat.reduceAdd, Nat.reduceMul, Nat.reduceSub, Int.reduceLE, Int.reduceLT, Int.reduceNeg, Int.reduceToNat, elemA, hel, tkR, List.length_map])
      refine ⟨i + 1, Ent.auto0 rfl ?_ ?_, by omega, by omega⟩ <;> simp only [go_sem, reduceCtorEq, reduceIte, Nat.reduceEqDiff, Nat.reduceLT, Nat.reduceLeDiff, Int.natCast_succ, tkR, hst]
  · have e : i = l.length := by omega
    subst e
    (repeat' first | with_reducible (first | refine Asm.intro fun _ => ?_ | refine Chk.g ?_ | refine AnyI.i64 fun _ _ => ?_ | refine LetW.g ?_ | refine LetW.h ?_ | refine Ite.t fun _ => ?_ | refine Ite.f fun _ => ?_ | refine Ite.decide (fun _ => ?_) fun _ => ?_ | refine Ite.bool (fun _ => ?_) fun _ => ?_ | refine And.intro ?_ ?_) | omega | simp (maxSteps := 1000000) only [go_sem, reduceCtorEq, Nat.reduceLT, Nat.reduceLeDiff, reduceIte, ↓reduceIte, Nat.reduceEqDiff, Nat.reduceAdd, Nat.reduceMul, Nat.reduceSub, Int.reduceLE, Int.reduceLT, Int.reduceNeg, Int.reduceToNat, tkR, List.length_map])
    refine Ret.auto 1 ?_ rfl ?_ <;> simp only [go_sem, reduceCtorEq, reduceIte, Nat.reduceEqDiff, Nat.reduceLT, Nat.reduceLeDiff, Int.natCast_succ, Post, List.take_of_length_le, Nat.le_refl]
theorem allOk_fmap {α : Type} (rows : List (Nat × Item)) (n : Nat) {f : α → AV} (hf : ∀ a, argOkN rows (n + 1) (f a) (f a)) (l : List α) : allOk (argOkN rows (n + 1)) (l.map f) (l.map f) :=
  allOk_same fun x hx => by obtain ⟨a, _, rfl⟩ := List.mem_map.1 hx; exact hf a
/-- What a set holds behind the first words. -/
def insAll (l : List (List UInt8)) : List (List UInt8) := l.foldl insE []
theorem insAll_snoc (l : List (List UInt8)) (x : List UInt8) : insAll (l ++ [x]) = insE (insAll l) x := by simp [insAll]
theorem mem_foldIns (x : List UInt8) : ∀ (l s : List (List UInt8)), x ∈ l.foldl insE s ↔ x ∈ s ∨ x ∈ l
  | [], s => by simp
  | y :: l, s => by rw [List.foldl_cons, mem_foldIns x l, mem_insE, List.mem_cons, or_assoc]
theorem mem_insAll (l : List (List UInt8)) (x : List UInt8) : x ∈ insAll l ↔ x ∈ l := by
  unfold insAll; rw [mem_foldIns]; simp
theorem any_lacks (ws l : List (List UInt8)) : (ws.any fun w => !decide (w ∈ insAll l)) = !ws.all fun w => decide (w ∈ l) := by
  have e : (fun w => !decide (w ∈ insAll l)) = fun w : List UInt8 => !decide (w ∈ l) := by funext w; simp only [mem_insAll]
  rw [e]
  induction ws with
  | nil => rfl
  | cons c ws ih => rw [List.any_cons, List.all_cons, ih, Bool.not_and]

set_option maxHeartbeats 8000000 in
theorem kind_ok (s : Sh) (hs : s.text.length ≤ 1048576) (l : List Ru) : FnOk Tryd.prog 29 [.agg s.av, .ro (rus l)] (.str (kindS s l)) [] := by
  have c1 := wordsOfS_ok s.text hs
  have hll := toks_len _ s.text [] [] (Nat.le_refl _)
  have hhl := hasL_len (toks s.text [] [])
  have hbeg := begins_ok s
  unfold kindS Sh.av at *
  rw [show hasL (toks s.text [] []) = textHas s.text from rfl] at hhl
  generalize textHas s.text = ws at *
  generalize toks s.text [] [] = tk at *
  simp only [List.length_nil] at hll
  refine FnOk.of_vc Tryd.func29 rfl (by decide) (by simp [Tryd.f29]) [.tmp 4] rfl fun w0 T0 _ => ?_
  simp only [Tryd.f29, argEnv]
  (repeat' first | with_reducible (first | refine Asm.intro fun _ => ?_ | refine Chk.g ?_ | refine AnyI.i64 fun _ _ => ?_ | refine LetW.g ?_ | refine LetW.h ?_ | refine Ite.t fun _ => ?_ | refine Ite.f fun _ => ?_ | refine Ite.decide (fun _ => ?_) fun _ => ?_ | refine Ite.bool (fun _ => ?_) fun _ => ?_ | refine And.intro ?_ ?_) | omega | simp (maxSteps := 1000000) only [go_sem, reduceCtorEq, Nat.reduceLT, Nat.reduceLeDiff, reduceIte, ↓reduceIte, Nat.reduceEqDiff, Nat.reduceAdd, Nat.reduceMul, Nat.reduceSub, Int.reduceLE, Int.reduceLT, Int.reduceNeg, Int.reduceToNat, List.length_map])
  · rename_i h0
    have : l = [] := List.eq_nil_of_length_eq_zero (by omega)
    subst this
    refine Ret.auto 0 ?_ rfl ?_ <;> simp only [go_sem, reduceCtorEq, reduceIte, Nat.reduceEqDiff, Nat.reduceLT, Nat.reduceLeDiff, Int.natCast_succ, Post]
    all_goals rfl
  refine VcCall.ro (.ro (.strs ws)) (FnFr.of_ok c1 rfl (by simp [noRoRows, noRoItem, noRoRow, noRoL, noRo])) (by simp only [noIdR_ok, argOkL, argOk, allOk, argOkN, List.drop_zero, lk, reduceIte, reduceCtorEq, Nat.reduceEqDiff, Option.some.injEq, Item.row.injEq, Item.box.injEq, AV.ro.injEq, exists_eq_left, exists_and_left, exists_eq_left', exists_eq_right, and_assoc, and_true, true_and, List.cons.injEq, exists_eq', exists_eq]) (by simp [outOk, argOkL, allOk, argOk, argOkN, lk, noIdR_ok]) rfl ?_
  (repeat' first | with_reducible (first | refine Asm.intro fun _ => ?_ | refine Chk.g ?_ | refine AnyI.i64 fun _ _ => ?_ | refine LetW.g ?_ | refine LetW.h ?_ | refine Ite.t fun _ => ?_ | refine Ite.f fun _ => ?_ | refine Ite.decide (fun _ => ?_) fun _ => ?_ | refine Ite.bool (fun _ => ?_) fun _ => ?_ | refine And.intro ?_ ?_) | omega | simp (maxSteps := 1000000) only [go_sem, reduceCtorEq, Nat.reduceLT, Nat.reduceLeDiff, reduceIte, ↓reduceIte, Nat.reduceEqDiff, Nat.reduceAdd, Nat.reduceMul, Nat.reduceSub, Int.reduceLE, Int.reduceLT, Int.reduceNeg, Int.reduceToNat])
  refine VcLoop.intro (fun i : Nat => ⟨52, [(19, .int .i64 i), (18, .int .i64 ws.length), (17, .ro (.strs ws)), (5, .ptr 1 0), (2, .ptr 0 0), (1, .ro (rus l))], [(0, .box 43 [.int .i64 s.W, .int .i64 s.H, .ro (.bools s.p), .ro (.strs s.codes), .str s.text]), (1, .box 81 [.own 2]), (2, .map ((insAll (ws.take i)).map .str) ((insAll (ws.take i)).map fun _ => .bool true))], 3⟩) (fun i => i ≤ ws.length) (fun i => ws.length - i) 0 ?_ (Nat.zero_le _) fun i hi => ?_
  · refine Ent.auto0 rfl ?_ ?_ <;> simp only [go_sem, reduceCtorEq, reduceIte, Nat.reduceEqDiff, Nat.reduceLT, Nat.reduceLeDiff, Int.natCast_succ, List.take_zero, insAll, List.foldl_nil, List.map_nil]
  by_cases hlt : i < ws.length
  · have hst : insAll (ws.take (i + 1)) = insE (insAll (ws.take i)) (ws.getD i []) := by
      rw [List.take_succ_eq_append_getElem hlt, insAll_snoc, getD_lt hlt]
    (repeat' first | with_reducible (first | refine Asm.intro fun _ => ?_ | refine Chk.g ?_ | refine AnyI.i64 fun _ _ => ?_ | refine LetW.g ?_ | refine LetW.h ?_ | refine Ite.t fun _ => ?_ | refine Ite.f fun _ => ?_ | refine Ite.decide (fun _ => ?_) fun _ => ?_ | refine Ite.bool (fun _ => ?_) fun _ => ?_ | refine And.intro ?_ ?_) | omega | simp (maxSteps := 1000000) only [go_sem, reduceCtorEq, Nat.reduceLT, Nat.reduceLeDiff, reduceIte, ↓reduceIte, Nat.reduceEqDiff, Nat.reduceAdd, Nat.reduceMul, Nat.reduceSub, Int.reduceLE, Int.reduceLT, Int.reduceNeg, Int.reduceToNat])
    refine ⟨i + 1, Ent.auto0 rfl ?_ ?_, by omega, by omega⟩ <;> simp only [go_sem, reduceCtorEq, reduceIte, Nat.reduceEqDiff, Nat.reduceLT, Nat.reduceLeDiff, Int.natCast_succ, hst]
  · have e : i = ws.length := by omega
    subst e
    rw [List.take_length]
    have hany := any_lacks
    (repeat' first | with_reducible (first | refine Asm.intro fun _ => ?_ | refine Chk.g ?_ | refine AnyI.i64 fun _ _ => ?_ | refine LetW.g ?_ | refine LetW.h ?_ | refine Ite.t fun _ => ?_ | refine Ite.f fun _ => ?_ | refine Ite.decide (fun _ => ?_) fun _ => ?_ | refine Ite.bool (fun _ => ?_) fun _ => ?_ | refine And.intro ?_ ?_) | omega | simp (maxSteps := 1000000) only [go_sem, reduceCtorEq, Nat.reduceLT, Nat.reduceLeDiff, reduceIte, ↓reduceIte, Nat.reduceEqDiff, Nat.reduceAdd, Nat.reduceMul, Nat.reduceSub, Int.reduceLE, Int.reduceLT, Int.reduceNeg, Int.reduceToNat, List.length_map])
    refine VcLoop.intro (fun k : Nat => ⟨52, [(28, .int .i64 k), (27, .int .i64 l.length), (26, .ro (rus l)), (5, .ptr 1 0), (2, .ptr 0 0)], [(0, .box 43 [.int .i64 s.W, .int .i64 s.H, .ro (.bools s.p), .ro (.strs s.codes), .str s.text]), (1, .box 81 [.own 2]), (2, .map ((insAll ws).map .str) ((insAll ws).map fun _ => .bool true))], 3⟩) (fun k => k ≤ l.length ∧ kindOf ws s.codes (l.drop k) = kindOf ws s.codes l) (fun k => l.length - k) 0 ?_ ⟨Nat.zero_le _, rfl⟩ fun k hk => ?_
    · refine Ent.auto0 rfl ?_ ?_ <;> simp only [go_sem, reduceCtorEq, reduceIte, Nat.reduceEqDiff, Nat.reduceLT, Nat.reduceLeDiff, Int.natCast_succ]
    obtain ⟨hk, hK⟩ := hk
    by_cases hkl : k < l.length
    · have he := ru_elem l hkl
      rw [kindOf_drop _ _ l hkl] at hK
      generalize l.getD k Ru.zero = r at *
      haveI c2 : CapsOk [.cell [setAv (insAll ws)]] := ⟨rfl⟩
      have k2 := contFuncS_ok r.words 41 [.cell [setAv (insAll ws)]] (fun w => !decide (w ∈ insAll ws)) fun c hc => FnFr.of_ok (lacks_ok c (insAll ws)) rfl rfl
      rw [any_lacks] at k2
      have k3 := hbeg r.code
      have hH : hitR ws s.codes r = ((r.words.all fun w => decide (w ∈ ws)) && (decide (r.code = []) || begB s.codes r.code)) := rfl
      generalize (r.words.all fun w => decide (w ∈ ws)) = q at *
      generalize begB s.codes r.code = g at *
      (repeat' first | with_reducible (first | refine Asm.intro fun _ => ?_ | refine Chk.g ?_ | refine AnyI.i64 fun _ _ => ?_ | refine LetW.g ?_ | refine LetW.h ?_ | refine Ite.t fun _ => ?_ | refine Ite.f fun _ => ?_ | refine Ite.decide (fun _ => ?_) fun _ => ?_ | refine Ite.bool (fun _ => ?_) fun _ => ?_ | refine And.intro ?_ ?_) | omega | simp (maxSteps := 1000000) only [go_sem, reduceCtorEq, Nat.reduceLT, Nat.reduceLeDiff, reduceIte, ↓reduceIte, Nat.reduceEqDiff, Nat.reduceAdd, Nat.reduceMul, Nat.reduceSub, Int.reduceLE, Int.reduceLT, Int.reduceNeg, Int.reduceToNat, he, List.length_map])
      refine VcCall.fr (FnFr.of_ok k2 rfl rfl) ⟨_, _, rfl, ⟨_, _, ⟨_, ⟨_, _, ⟨_, _, _, rfl, ⟨_, _, argOkN_map rfl (allOk_fmap (f := AV.str) _ 2 (fun _ => rfl) _) (allOk_fmap (f := fun _ : List UInt8 => AV.bool true) _ 2 (fun _ => rfl) _), rfl, rfl⟩, rfl⟩, rfl, rfl⟩, rfl⟩, rfl, rfl⟩, rfl⟩ 0 rfl (by simp [rowsB]) ?_
      cases q with
      | false =>
        rw [Bool.false_and] at hH
        rw [hH, if_neg (by decide)] at hK
        (repeat' first | with_reducible (first | refine Asm.intro fun _ => ?_ | refine Chk.g ?_ | refine AnyI.i64 fun _ _ => ?_ | refine LetW.g ?_ | refine LetW.h ?_ | refine Ite.t fun _ => ?_ | refine Ite.f fun _ => ?_ | refine Ite.decide (fun _ => ?_) fun _ => ?_ | refine Ite.bool (fun _ => ?_) fun _ => ?_ | refine And.intro ?_ ?_) | omega | simp (maxSteps := 1000000) only [go_sem, reduceCtorEq, Nat.reduceLT, Nat.reduceLeDiff, reduceIte, ↓reduceIte, Nat.reduceEqDiff, Nat.reduceAdd, Nat.reduceMul, Nat.reduceSub, Int.reduceLE, Int.reduceLT, Int.reduceNeg, Int.reduceToNat])
        refine ⟨k + 1, Ent.auto0 rfl ?_ ?_, ⟨by omega, hK⟩, by omega⟩ <;> simp only [go_sem, reduceCtorEq, reduceIte, Nat.reduceEqDiff, Nat.reduceLT, Nat.reduceLeDiff, Int.natCast_succ]
      | true =>
        by_cases hc : r.code = []
        · rw [decide_eq_true hc, Bool.true_or, Bool.true_and] at hH
          rw [hH, if_pos rfl] at hK
          (repeat' first | with_reducible (first | refine Asm.intro fun _ => ?_ | refine Chk.g ?_ | refine AnyI.i64 fun _ _ => ?_ | refine LetW.g ?_ | refine LetW.h ?_ | refine Ite.t fun _ => ?_ | refine Ite.f fun _ => ?_ | refine Ite.decide (fun _ => ?_) fun _ => ?_ | refine Ite.bool (fun _ => ?_) fun _ => ?_ | refine And.intro ?_ ?_) | omega | simp (maxSteps := 1000000) only [go_sem, reduceCtorEq, Nat.reduceLT, Nat.reduceLeDiff, reduceIte, ↓reduceIte, Nat.reduceEqDiff, Nat.reduceAdd, Nat.reduceMul, Nat.reduceSub, Int.reduceLE, Int.reduceLT, Int.reduceNeg, Int.reduceToNat, hc])
          refine Ret.auto 0 ?_ rfl ?_ <;> simp only [go_sem, reduceCtorEq, reduceIte, Nat.reduceEqDiff, Nat.reduceLT, Nat.reduceLeDiff, Int.natCast_succ, Post, hK]
        · rw [decide_eq_false hc, Bool.false_or, Bool.true_and] at hH
          (repeat' first | with_reducible (first | refine Asm.intro fun _ => ?_ | refine Chk.g ?_ | refine AnyI.i64 fun _ _ => ?_ | refine LetW.g ?_ | refine LetW.h ?_ | refine Ite.t fun _ => ?_ | refine Ite.f fun _ => ?_ | refine Ite.decide (fun _ => ?_) fun _ => ?_ | refine Ite.bool (fun _ => ?_) fun _ => ?_ | refine And.intro ?_ ?_) | omega | simp (maxSteps := 1000000) only [go_sem, reduceCtorEq, Nat.reduceLT, Nat.reduceLeDiff, reduceIte, ↓reduceIte, Nat.reduceEqDiff, Nat.reduceAdd, Nat.reduceMul, Nat.reduceSub, Int.reduceLE, Int.reduceLT, Int.reduceNeg, Int.reduceToNat, hc])
          refine VcCall.fr (FnFr.of_ok (k3) rfl rfl) (by simp only [noIdR_ok, argOkL, argOk, allOk, argOkN, List.drop_zero, lk, reduceIte, reduceCtorEq, Nat.reduceEqDiff, Option.some.injEq, Item.row.injEq, Item.box.injEq, AV.ro.injEq, exists_eq_left, exists_and_left, exists_eq_left', exists_eq_right, and_assoc, and_true, true_and, List.cons.injEq, exists_eq', exists_eq]) 0 rfl (by simp [rowsB]) ?_
          cases g with
          | true =>
            rw [hH, if_pos rfl] at hK
            (repeat' first | with_reducible (first | refine Asm.intro fun _ => ?_ | refine Chk.g ?_ | refine AnyI.i64 fun _ _ => ?_ | refine LetW.g ?_ | refine LetW.h ?_ | refine Ite.t fun _ => ?_ | refine Ite.f fun _ => ?_ | refine Ite.decide (fun _ => ?_) fun _ => ?_ | refine Ite.bool (fun _ => ?_) fun _ => ?_ | refine And.intro ?_ ?_) | omega | simp (maxSteps := 1000000) only [go_sem, reduceCtorEq, Nat.reduceLT, Nat.reduceLeDiff, reduceIte, ↓reduceIte, Nat.reduceEqDiff, Nat.reduceAdd, Nat.reduceMul, Nat.reduceSub, Int.reduceLE, Int.reduceLT, Int.reduceNeg, Int.reduceToNat])
            refine Ret.auto 0 ?_ rfl ?_ <;> simp only [go_sem, reduceCtorEq, reduceIte, Nat.reduceEqDiff, Nat.reduceLT, Nat.reduceLeDiff, Int.natCast_succ, Post, hK]
          | false =>
            rw [hH, if_neg (by decide)] at hK
            (repeat' first | with_reducible (first | refine Asm.intro fun _ => ?_ | refine Chk.g ?_ | refine AnyI.i64 fun _ _ => ?_ | refine LetW.g ?_ | refine LetW.h ?_ | refine Ite.t fun _ => ?_ | refine Ite.f fun _ => ?_ | refine Ite.decide (fun _ => ?_) fun _ => ?_ | refine Ite.bool (fun _ => ?_) fun _ => ?_ | refine And.intro ?_ ?_) | omega | simp (maxSteps := 1000000) only [go_sem, reduceCtorEq, Nat.reduceLT, Nat.reduceLeDiff, reduceIte, ↓reduceIte, Nat.reduceEqDiff, Nat.reduceAdd, Nat.reduceMul, Nat.reduceSub, Int.reduceLE, Int.reduceLT, Int.reduceNeg, Int.reduceToNat])
            refine ⟨k + 1, Ent.auto0 rfl ?_ ?_, ⟨by omega, hK⟩, by omega⟩ <;> simp only [go_sem, reduceCtorEq, reduceIte, Nat.reduceEqDiff, Nat.reduceLT, Nat.reduceLeDiff, Int.natCast_succ]
    · have e : k = l.length := by omega
      subst e
      rw [List.drop_length] at hK
      (repeat' first | with_reducible (first | refine Asm.intro fun _ => ?_ | refine Chk.g ?_ | refine AnyI.i64 fun _ _ => ?_ | refine LetW.g ?_ | refine LetW.h ?_ | refine Ite.t fun _ => ?_ | refine Ite.f fun _ => ?_ | refine Ite.decide (fun _ => ?_) fun _ => ?_ | refine Ite.bool (fun _ => ?_) fun _ => ?_ | refine And.intro ?_ ?_) | omega | simp (maxSteps := 1000000) only [go_sem, reduceCtorEq, Nat.reduceLT, Nat.reduceLeDiff, reduceIte, ↓reduceIte, Nat.reduceEqDiff, Nat.reduceAdd, Nat.reduceMul, Nat.reduceSub, Int.reduceLE, Int.reduceLT, Int.reduceNeg, Int.reduceToNat, List.length_map])
      refine Ret.auto 0 ?_ rfl ?_ <;> simp only [go_sem, reduceCtorEq, reduceIte, Nat.reduceEqDiff, Nat.reduceLT, Nat.reduceLeDiff, Int.natCast_succ, Post]
      all_goals rw [← hK]; rfl
end Go.Fv.T

/- The reference's KindOf. -/
namespace Go.Fv.T
open Go Go.Proofs
set_option linter.unusedSimpArgs false
set_option linter.unusedVariables false
set_option linter.unnecessarySimpa false
set_option maxRecDepth 8000

end Go.Fv.T

/- The right ones of the first sheets. -/
namespace Go.Fv.T
open Go Go.Proofs
set_option linter.unusedSimpArgs false
set_option linter.unusedVariables false
set_option maxRecDepth 8000

theorem firstErr_zero : ∀ {l : List Int}, firstErr l = 0 → ∀ x, x ∈ l → x = 0
  | y :: l, h, x, hx => by
    simp only [firstErr] at h
    split at h
    · rename_i h1
      cases List.mem_cons.1 hx with
      | inl e => subst e; exact h1
      | inr e => exact firstErr_zero h x e
    · rename_i h1; exact absurd h h1
end Go.Fv.T

/- Documents, as data. -/
namespace Go.Fv.T
open Go Go.Proofs
set_option linter.unusedSimpArgs false
set_option linter.unusedVariables false
set_option maxRecDepth 8000

structure Dc where
  kind : List UInt8
  pages : List Int
def Dc.av (d : Dc) : List AV := [.str d.kind, .ro (.ints .i64 d.pages)]
def Dc.zero : Dc := ⟨[], []⟩
abbrev dcs (l : List Dc) : RowV := .objs 2 (l.map Dc.av)
instance : FNoId Dc.av := ⟨fun _ => rfl⟩
theorem dc_elem (l : List Dc) {i : Nat} (h : i < l.length) : (l.map Dc.av).getD i [] = [.str (l.getD i Dc.zero).kind, .ro (.ints .i64 (l.getD i Dc.zero).pages)] := by
  simp [List.getD_eq_getElem?_getD, h, Dc.av]
end Go.Fv.T

namespace Go.Fv.T
set_option linter.unusedSimpArgs false
set_option linter.unusedVariables false

theorem set_range {α : Type} {n i : Nat} (q : Nat → α) (d : α) (h : i < n) : ((List.range i).map q ++ List.replicate (n - i) d).set i (q i) = (List.range (i + 1)).map q ++ List.replicate (n - (i + 1)) d := by
  have e : n - i = (n - (i + 1)) + 1 := by omega
  rw [e, List.replicate_succ, List.set_append_right _ _ (by simp), List.range_succ, List.map_append]
  simp
def sumTo (f : Nat → Int) : Nat → Int
  | 0 => 0
  | n + 1 => sumTo f n + f n
def tab (v : Nat → Int) (w x y : Nat) : Int := sumTo (fun j => sumTo (fun i => v (j * w + i)) x) y
end Go.Fv.T

namespace Go.Fv.T
open Go Go.Proofs
set_option linter.unusedSimpArgs false
set_option linter.unusedVariables false
set_option maxRecDepth 8000

end Go.Fv.T

namespace Go.Fv.T
open Go Go.Proofs
set_option linter.unusedSimpArgs false
set_option linter.unusedVariables false
set_option maxRecDepth 8000
end Go.Fv.T

namespace Go.Fv.T
open Go Go.Proofs
set_option linter.unusedSimpArgs false
set_option linter.unusedVariables false
set_option maxRecDepth 8000

def segL (v : Nat → Int) (w y l n : Nat) : List Int := (List.range n).map fun i => v (y * w + (l + i))
def boxL (v : Nat → Int) (w t l n : Nat) : Nat → List Int
  | 0 => []
  | m + 1 => boxL v w t l n m ++ segL v w (t + m) l n
theorem segL_succ (v : Nat → Int) (w y l n : Nat) : segL v w y l (n + 1) = segL v w y l n ++ [v (y * w + (l + n))] := by
  simp [segL, List.range_succ]
theorem segL_len (v : Nat → Int) (w y l n : Nat) : (segL v w y l n).length = n := by simp [segL]
theorem boxL_len (v : Nat → Int) (w t l n : Nat) : ∀ m, (boxL v w t l n m).length = m * n
  | 0 => by simp [boxL]
  | m + 1 => by simp [boxL, boxL_len v w t l n m, segL_len, Nat.succ_mul]
theorem sum_bd {l : List Int} (h : ∀ x, x ∈ l → 0 ≤ x ∧ x ≤ 255) : 0 ≤ l.sum ∧ l.sum ≤ 255 * (l.length : Int) := by
  induction l with
  | nil => simp
  | cons x l ih =>
    have h1 := h x (.head _)
    have h2 := ih fun y hy => h y (.tail _ hy)
    simp only [List.sum_cons, List.length_cons]
    omega
theorem boxL_mem {v : Nat → Int} (hv : ∀ i, 0 ≤ v i ∧ v i ≤ 255) (w t l n : Nat) : ∀ m x, x ∈ boxL v w t l n m → 0 ≤ x ∧ x ≤ 255
  | 0, x, h => by simp [boxL] at h
  | m + 1, x, h => by
    rcases List.mem_append.1 h with h | h
    · exact boxL_mem hv w t l n m x h
    · obtain ⟨i, _, rfl⟩ := List.mem_map.1 h
      exact hv _

end Go.Fv.T

namespace Go.Fv.T
open Go Go.Proofs
set_option linter.unusedSimpArgs false
set_option linter.unusedVariables false
set_option maxRecDepth 8000
/-- Ink as a number. -/
def inkV (p : List Bool) (i : Nat) : Int := if p.getD i false = true then 1 else 0
theorem inkV_bd (p : List Bool) (i : Nat) : 0 ≤ inkV p i ∧ inkV p i ≤ 255 := by unfold inkV; split <;> omega
end Go.Fv.T

namespace Go.Fv.T
open Go Go.Proofs
set_option linter.unusedSimpArgs false
set_option linter.unusedVariables false
set_option maxRecDepth 8000

def b2i (b : Bool) : Int := if b = true then 1 else 0
/-- A pixel of a part of a page. -/
def cutAt (p : List Bool) (w X Y x y : Nat) : Bool := p.getD ((Y + y) * w + X + x) false
theorem rows_box (p : List Bool) (w X Y W : Nat) : ∀ m : Nat, (rowsOf W (cutAt p w X Y) (m * W)).map b2i = boxL (inkV p) w Y X W m
  | 0 => by simp [rowsOf, boxL]
  | m + 1 => by
    have aux : ∀ k, k ≤ W → (rowsOf W (cutAt p w X Y) (m * W + k)).map b2i = boxL (inkV p) w Y X W m ++ segL (inkV p) w (Y + m) X k := by
      intro k
      induction k with
      | zero => intro _; rw [Nat.add_zero, rows_box p w X Y W m]; simp [segL]
      | succ k ih =>
        intro hk
        rw [rowsOf_succ _ (by omega), List.map_append, ih (by omega), segL_succ, List.append_assoc]
        simp [b2i, cutAt, inkV, Nat.add_assoc]
    rw [Nat.succ_mul, aux W (Nat.le_refl _), boxL]
/-- The ink of a part of a page, counted. -/
def inkN (p : List Bool) (w X Y W H : Nat) : Nat := (boxL (inkV p) w Y X W H).sum.toNat
theorem inkN_eq (p : List Bool) (w X Y W H : Nat) : (boxL (inkV p) w Y X W H).sum = ((inkN p w X Y W H : Nat) : Int) := by
  have h := sum_bd (boxL_mem (inkV_bd p) w Y X W H)
  unfold inkN; omega
theorem inkN_rows (p : List Bool) (w X Y W H : Nat) : ((rowsOf W (cutAt p w X Y) (H * W)).map b2i).sum = ((inkN p w X Y W H : Nat) : Int) := by
  rw [rows_box, inkN_eq]
theorem sum01_bd {l : List Int} (h : ∀ x, x ∈ l → 0 ≤ x ∧ x ≤ 1) : 0 ≤ l.sum ∧ l.sum ≤ (l.length : Int) := by
  induction l with
  | nil => simp
  | cons x l ih =>
    have h1 := h x (.head _)
    have h2 := ih fun y hy => h y (.tail _ hy)
    simp only [List.sum_cons, List.length_cons]
    omega
theorem boxL_mem1 (p : List Bool) (w t l n : Nat) : ∀ m x, x ∈ boxL (inkV p) w t l n m → 0 ≤ x ∧ x ≤ 1
  | 0, x, h => by simp [boxL] at h
  | m + 1, x, h => by
    rcases List.mem_append.1 h with h | h
    · exact boxL_mem1 p w t l n m x h
    · obtain ⟨i, _, rfl⟩ := List.mem_map.1 h
      unfold inkV; split <;> omega
theorem inkN_le (p : List Bool) (w X Y W H : Nat) : inkN p w X Y W H ≤ H * W := by
  have h := sum01_bd (boxL_mem1 p w Y X W H)
  rw [inkN_eq, boxL_len] at h
  omega
end Go.Fv.T
