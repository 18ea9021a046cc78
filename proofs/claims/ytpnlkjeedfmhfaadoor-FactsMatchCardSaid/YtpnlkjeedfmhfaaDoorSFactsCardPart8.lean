/-
  A part of the proof of the claim: walks over the program's functions and the plain laws that these need. No condition of its own.
-/
import Derived.Test.YtpnlkjeedfmhfaaDoorSFactsCardPart7
/- The law FactsMatch. -/
namespace Go.Fv.S
open Go Go.Proofs
set_option linter.unusedSimpArgs false
set_option linter.unusedVariables false
set_option linter.unnecessarySimpa false
set_option maxRecDepth 8000

set_option maxHeartbeats 1000000 in
theorem equalFacts_ok (a : List Fa) : FnOk Tryd.prog 65 [.ro (fas a), .ro (fas a)] (.bool true) [] := by
  refine FnOk.of_vc Tryd.func65 rfl (by decide) (by simp [Tryd.f65]) [.tmp 4] rfl fun w0 T0 _ => ?_
  simp only [Tryd.f65, argEnv]
  (repeat' first | with_reducible (first | refine Asm.intro fun _ => ?_ | refine Chk.g ?_ | refine AnyI.i64 fun _ _ => ?_ | refine LetW.g ?_ | refine LetW.h ?_ | refine Ite.t fun _ => ?_ | refine Ite.f fun _ => ?_ | refine Ite.decide (fun _ => ?_) fun _ => ?_ | refine Ite.bool (fun _ => ?_) fun _ => ?_ | refine And.intro ?_ ?_) | omega | simp (maxSteps := 1000000) only [go_sem, reduceCtorEq, Nat.reduceLT, Nat.reduceLeDiff, reduceIte, ↓reduceIte, Nat.reduceEqDiff, Nat.reduceAdd, Nat.reduceMul, Nat.reduceSub, Int.reduceLE, Int.reduceLT, Int.reduceNeg, Int.reduceToNat, List.length_map])
  refine VcLoop.intro (fun i : Nat => ⟨26, [(0, .ro (fas a)), (1, .ro (fas a)), (12, .int .i64 a.length), (13, .int .i64 i)], [], 0⟩) (fun i => i ≤ a.length) (fun i => a.length - i) 0 ?_ (Nat.zero_le _) fun i hi => ?_
  · refine Ent.auto0 rfl ?_ ?_ <;> simp only [go_sem, reduceCtorEq, reduceIte, Nat.reduceEqDiff, Nat.reduceLT, Nat.reduceLeDiff, Int.natCast_succ]
  by_cases hlt : i < a.length
  · have he := fa_elem a hlt
    generalize a.getD i Fa.zero = x at *
    (repeat' first | with_reducible (first | refine Asm.intro fun _ => ?_ | refine Chk.g ?_ | refine AnyI.i64 fun _ _ => ?_ | refine LetW.g ?_ | refine LetW.h ?_ | refine Ite.t fun _ => ?_ | refine Ite.f fun _ => ?_ | refine Ite.decide (fun _ => ?_) fun _ => ?_ | refine Ite.bool (fun _ => ?_) fun _ => ?_ | refine And.intro ?_ ?_) | omega | simp (maxSteps := 1000000) only [go_sem, reduceCtorEq, Nat.reduceLT, Nat.reduceLeDiff, reduceIte, ↓reduceIte, Nat.reduceEqDiff, Nat.reduceAdd, Nat.reduceMul, Nat.reduceSub, Int.reduceLE, Int.reduceLT, Int.reduceNeg, Int.reduceToNat, List.length_map])
    refine VcDraw.lex [] [] (by kernel_rfl) (by kernel_rfl) ?_
    (repeat' first | with_reducible (first | refine Asm.intro fun _ => ?_ | refine Chk.g ?_ | refine AnyI.i64 fun _ _ => ?_ | refine LetW.g ?_ | refine LetW.h ?_ | refine Ite.t fun _ => ?_ | refine Ite.f fun _ => ?_ | refine Ite.decide (fun _ => ?_) fun _ => ?_ | refine Ite.bool (fun _ => ?_) fun _ => ?_ | refine And.intro ?_ ?_) | omega | simp (maxSteps := 1000000) only [go_sem, reduceCtorEq, Nat.reduceLT, Nat.reduceLeDiff, reduceIte, ↓reduceIte, Nat.reduceEqDiff, Nat.reduceAdd, Nat.reduceMul, Nat.reduceSub, Int.reduceLE, Int.reduceLT, Int.reduceNeg, Int.reduceToNat, elemA, he, List.length_map])
    refine ⟨i + 1, Ent.auto0 rfl ?_ ?_, by omega, by omega⟩ <;> simp only [go_sem, reduceCtorEq, reduceIte, Nat.reduceEqDiff, Nat.reduceLT, Nat.reduceLeDiff, Int.natCast_succ]
  · (repeat' first | with_reducible (first | refine Asm.intro fun _ => ?_ | refine Chk.g ?_ | refine AnyI.i64 fun _ _ => ?_ | refine LetW.g ?_ | refine LetW.h ?_ | refine Ite.t fun _ => ?_ | refine Ite.f fun _ => ?_ | refine Ite.decide (fun _ => ?_) fun _ => ?_ | refine Ite.bool (fun _ => ?_) fun _ => ?_ | refine And.intro ?_ ?_) | omega | simp (maxSteps := 1000000) only [go_sem, reduceCtorEq, Nat.reduceLT, Nat.reduceLeDiff, reduceIte, ↓reduceIte, Nat.reduceEqDiff, Nat.reduceAdd, Nat.reduceMul, Nat.reduceSub, Int.reduceLE, Int.reduceLT, Int.reduceNeg, Int.reduceToNat, List.length_map])
    refine Ret.auto 0 ?_ rfl ?_ <;> simp only [go_sem, reduceCtorEq, reduceIte, Nat.reduceEqDiff, Nat.reduceLT, Nat.reduceLeDiff, Int.natCast_succ, Post]
set_option maxHeartbeats 8000000 in
theorem factsMatch_ok (l0 : List Sh) (d : Dc) : FnOk Tryd.prog 10 [.ro (shs l0), .agg d.av] (.bool true) [] := by
  have k0 := sheets_ok l0
  have hl := keep_len l0
  have hr := keep_right l0
  generalize keep l0 = l at *
  have k1 := facts_ok l d hl hr
  have k2 := docError_ok d
  have k3 := factsOf_ok l d hl hr
  have hE : factsE l d = firstErr [docErr d, if (d.pages.any fun n => decide ((l.length : Int) ≤ n)) = true then 10 else 0] := rfl
  haveI c1 : CapsOk [.cell [.ro (shs l)]] := ⟨rfl⟩
  have k4 := contFuncI_ok d.pages 64 [.cell [.ro (shs l)]] (fun n => decide ((l.length : Int) ≤ n)) fun n hn => FnFr.of_ok (lawFactBad_ok l n) rfl rfl
  have k5 := equalFacts_ok (factsL l d)
  generalize docErr d = e1 at *
  generalize (d.pages.any fun n => decide ((l.length : Int) ≤ n)) = bad at *
  generalize factsE l d = E at *
  generalize factsL l d = F at *
  unfold Dc.av at *
  obtain ⟨kd, ps⟩ := d
  dsimp only at *
  have f1 := first_ok [e1, 10] (by simp)
  refine FnOk.of_vc Tryd.func10 rfl (by decide) (by simp [Tryd.f10]) [.tmp 4] rfl fun w0 T0 _ => ?_
  simp only [Tryd.f10, argEnv]
  (repeat' first | with_reducible (first | refine Asm.intro fun _ => ?_ | refine Chk.g ?_ | refine AnyI.i64 fun _ _ => ?_ | refine LetW.g ?_ | refine LetW.h ?_ | refine Ite.t fun _ => ?_ | refine Ite.f fun _ => ?_ | refine Ite.decide (fun _ => ?_) fun _ => ?_ | refine Ite.bool (fun _ => ?_) fun _ => ?_ | refine And.intro ?_ ?_) | omega | simp (maxSteps := 1000000) only [go_sem, reduceCtorEq, Nat.reduceLT, Nat.reduceLeDiff, reduceIte, ↓reduceIte, Nat.reduceEqDiff, Nat.reduceAdd, Nat.reduceMul, Nat.reduceSub, Int.reduceLE, Int.reduceLT, Int.reduceNeg, Int.reduceToNat])
  refine VcCall.fr (FnFr.of_ok (landed_ok) rfl rfl) (by simp only [noIdR_ok, argOkL, argOk, allOk, argOkN, List.drop_zero, lk, reduceIte, reduceCtorEq, Nat.reduceEqDiff, Option.some.injEq, Item.row.injEq, Item.box.injEq, AV.ro.injEq, exists_eq_left, exists_and_left, exists_eq_left', exists_eq_right, and_assoc, and_true, true_and, List.cons.injEq, exists_eq', exists_eq]) 0 rfl (by simp [rowsB]) ?_
  (repeat' first | with_reducible (first | refine Asm.intro fun _ => ?_ | refine Chk.g ?_ | refine AnyI.i64 fun _ _ => ?_ | refine LetW.g ?_ | refine LetW.h ?_ | refine Ite.t fun _ => ?_ | refine Ite.f fun _ => ?_ | refine Ite.decide (fun _ => ?_) fun _ => ?_ | refine Ite.bool (fun _ => ?_) fun _ => ?_ | refine And.intro ?_ ?_) | omega | simp (maxSteps := 1000000) only [go_sem, reduceCtorEq, Nat.reduceLT, Nat.reduceLeDiff, reduceIte, ↓reduceIte, Nat.reduceEqDiff, Nat.reduceAdd, Nat.reduceMul, Nat.reduceSub, Int.reduceLE, Int.reduceLT, Int.reduceNeg, Int.reduceToNat])
  refine VcCall.ros (.ro (shs l)) k0 (by simp only [noIdR_ok, argOkL, argOk, allOk, argOkN, List.drop_zero, lk, reduceIte, reduceCtorEq, Nat.reduceEqDiff, Option.some.injEq, Item.row.injEq, Item.box.injEq, AV.ro.injEq, exists_eq_left, exists_and_left, exists_eq_left', exists_eq_right, and_assoc, and_true, true_and, List.cons.injEq, exists_eq', exists_eq]) (by simp [outOk, argOk, argOkN, lk]) rfl ?_
  (repeat' first | with_reducible (first | refine Asm.intro fun _ => ?_ | refine Chk.g ?_ | refine AnyI.i64 fun _ _ => ?_ | refine LetW.g ?_ | refine LetW.h ?_ | refine Ite.t fun _ => ?_ | refine Ite.f fun _ => ?_ | refine Ite.decide (fun _ => ?_) fun _ => ?_ | refine Ite.bool (fun _ => ?_) fun _ => ?_ | refine And.intro ?_ ?_) | omega | simp (maxSteps := 1000000) only [go_sem, reduceCtorEq, Nat.reduceLT, Nat.reduceLeDiff, reduceIte, ↓reduceIte, Nat.reduceEqDiff, Nat.reduceAdd, Nat.reduceMul, Nat.reduceSub, Int.reduceLE, Int.reduceLT, Int.reduceNeg, Int.reduceToNat])
  refine VcCall.ro (.tup [.ro (fas (if E = 0 then F else [])), .int .i64 E]) (FnFr.of_ok k1 rfl (by simp [noRoRows, noRoItem, noRoRow, noRoL, noRo, Fa.av])) (by simp only [noIdR_ok, argOkL, argOk, allOk, argOkN, List.drop_zero, lk, reduceIte, reduceCtorEq, Nat.reduceEqDiff, Option.some.injEq, Item.row.injEq, Item.box.injEq, AV.ro.injEq, exists_eq_left, exists_and_left, exists_eq_left', exists_eq_right, and_assoc, and_true, true_and, List.cons.injEq, exists_eq', exists_eq]) (by simp [outOk, argOkL, allOk, argOk, argOkN, lk, noIdR_ok]) rfl ?_
  (repeat' first | with_reducible (first | refine Asm.intro fun _ => ?_ | refine Chk.g ?_ | refine AnyI.i64 fun _ _ => ?_ | refine LetW.g ?_ | refine LetW.h ?_ | refine Ite.t fun _ => ?_ | refine Ite.f fun _ => ?_ | refine Ite.decide (fun _ => ?_) fun _ => ?_ | refine Ite.bool (fun _ => ?_) fun _ => ?_ | refine And.intro ?_ ?_) | omega | simp (maxSteps := 1000000) only [go_sem, reduceCtorEq, Nat.reduceLT, Nat.reduceLeDiff, reduceIte, ↓reduceIte, Nat.reduceEqDiff, Nat.reduceAdd, Nat.reduceMul, Nat.reduceSub, Int.reduceLE, Int.reduceLT, Int.reduceNeg, Int.reduceToNat])
  refine VcCall.fr (FnFr.of_ok (k2) rfl rfl) (by simp only [noIdR_ok, argOkL, argOk, allOk, argOkN, List.drop_zero, lk, reduceIte, reduceCtorEq, Nat.reduceEqDiff, Option.some.injEq, Item.row.injEq, Item.box.injEq, AV.ro.injEq, exists_eq_left, exists_and_left, exists_eq_left', exists_eq_right, and_assoc, and_true, true_and, List.cons.injEq, exists_eq', exists_eq]) 0 rfl (by simp [rowsB]) ?_
  (repeat' first | with_reducible (first | refine Asm.intro fun _ => ?_ | refine Chk.g ?_ | refine AnyI.i64 fun _ _ => ?_ | refine LetW.g ?_ | refine LetW.h ?_ | refine Ite.t fun _ => ?_ | refine Ite.f fun _ => ?_ | refine Ite.decide (fun _ => ?_) fun _ => ?_ | refine Ite.bool (fun _ => ?_) fun _ => ?_ | refine And.intro ?_ ?_) | omega | simp (maxSteps := 1000000) only [go_sem, reduceCtorEq, Nat.reduceLT, Nat.reduceLeDiff, reduceIte, ↓reduceIte, Nat.reduceEqDiff, Nat.reduceAdd, Nat.reduceMul, Nat.reduceSub, Int.reduceLE, Int.reduceLT, Int.reduceNeg, Int.reduceToNat])
  refine VcCall.fr (FnFr.of_ok (k4) rfl rfl) (by simp only [noIdR_ok, argOkL, argOk, allOk, argOkN, List.drop_zero, lk, reduceIte, reduceCtorEq, Nat.reduceEqDiff, Option.some.injEq, Item.row.injEq, Item.box.injEq, AV.ro.injEq, exists_eq_left, exists_and_left, exists_eq_left', exists_eq_right, and_assoc, and_true, true_and, List.cons.injEq, exists_eq', exists_eq]) 0 rfl (by simp [rowsB]) ?_
  cases bad with
  | true =>
    have hEn : E ≠ 0 := by
      rw [hE, if_pos rfl, firstErr_two]; split <;> omega
    have hF : firstErr [e1, 10] = E := by rw [hE, if_pos rfl]
    rw [hF] at f1
    rw [if_neg hEn]
    (repeat' first | with_reducible (first | refine Asm.intro fun _ => ?_ | refine Chk.g ?_ | refine AnyI.i64 fun _ _ => ?_ | refine LetW.g ?_ | refine LetW.h ?_ | refine Ite.t fun _ => ?_ | refine Ite.f fun _ => ?_ | refine Ite.decide (fun _ => ?_) fun _ => ?_ | refine Ite.bool (fun _ => ?_) fun _ => ?_ | refine And.intro ?_ ?_) | omega | simp (maxSteps := 1000000) only [go_sem, reduceCtorEq, Nat.reduceLT, Nat.reduceLeDiff, reduceIte, ↓reduceIte, Nat.reduceEqDiff, Nat.reduceAdd, Nat.reduceMul, Nat.reduceSub, Int.reduceLE, Int.reduceLT, Int.reduceNeg, Int.reduceToNat])
    refine VcCall.fr (FnFr.of_ok (f1) rfl rfl) (by simp only [noIdR_ok, argOkL, argOk, allOk, argOkN, List.drop_zero, lk, reduceIte, reduceCtorEq, Nat.reduceEqDiff, Option.some.injEq, Item.row.injEq, Item.box.injEq, AV.ro.injEq, exists_eq_left, exists_and_left, exists_eq_left', exists_eq_right, and_assoc, and_true, true_and, List.cons.injEq, exists_eq', exists_eq]) 0 rfl (by simp [rowsB]) ?_
    (repeat' first | with_reducible (first | refine Asm.intro fun _ => ?_ | refine Chk.g ?_ | refine AnyI.i64 fun _ _ => ?_ | refine LetW.g ?_ | refine LetW.h ?_ | refine Ite.t fun _ => ?_ | refine Ite.f fun _ => ?_ | refine Ite.decide (fun _ => ?_) fun _ => ?_ | refine Ite.bool (fun _ => ?_) fun _ => ?_ | refine And.intro ?_ ?_) | omega | simp (maxSteps := 1000000) only [go_sem, reduceCtorEq, Nat.reduceLT, Nat.reduceLeDiff, reduceIte, ↓reduceIte, Nat.reduceEqDiff, Nat.reduceAdd, Nat.reduceMul, Nat.reduceSub, Int.reduceLE, Int.reduceLT, Int.reduceNeg, Int.reduceToNat, hEn, List.map_nil])
    refine Ret.auto 0 ?_ rfl ?_ <;> simp only [go_sem, reduceCtorEq, reduceIte, Nat.reduceEqDiff, Nat.reduceLT, Nat.reduceLeDiff, Int.natCast_succ, Post]
  | false =>
    have hEe : E = e1 := by
      rw [hE, if_neg (by decide), firstErr_two]; split <;> omega
    subst hEe
    by_cases h0 : E = 0
    · subst h0
      rw [if_pos rfl]
      have k3 := k3 rfl
      (repeat' first | with_reducible (first | refine Asm.intro fun _ => ?_ | refine Chk.g ?_ | refine AnyI.i64 fun _ _ => ?_ | refine LetW.g ?_ | refine LetW.h ?_ | refine Ite.t fun _ => ?_ | refine Ite.f fun _ => ?_ | refine Ite.decide (fun _ => ?_) fun _ => ?_ | refine Ite.bool (fun _ => ?_) fun _ => ?_ | refine And.intro ?_ ?_) | omega | simp (maxSteps := 1000000) only [go_sem, reduceCtorEq, Nat.reduceLT, Nat.reduceLeDiff, reduceIte, ↓reduceIte, Nat.reduceEqDiff, Nat.reduceAdd, Nat.reduceMul, Nat.reduceSub, Int.reduceLE, Int.reduceLT, Int.reduceNeg, Int.reduceToNat])
      refine VcCall.ro (.ro (fas F)) (FnFr.of_ok k3 rfl (by simp [noRoRows, noRoItem, noRoRow, noRoL, noRo, Fa.av])) (by simp only [noIdR_ok, argOkL, argOk, allOk, argOkN, List.drop_zero, lk, reduceIte, reduceCtorEq, Nat.reduceEqDiff, Option.some.injEq, Item.row.injEq, Item.box.injEq, AV.ro.injEq, exists_eq_left, exists_and_left, exists_eq_left', exists_eq_right, and_assoc, and_true, true_and, List.cons.injEq, exists_eq', exists_eq]) (by simp [outOk, argOkL, allOk, argOk, argOkN, lk, noIdR_ok]) rfl ?_
      (repeat' first | with_reducible (first | refine Asm.intro fun _ => ?_ | refine Chk.g ?_ | refine AnyI.i64 fun _ _ => ?_ | refine LetW.g ?_ | refine LetW.h ?_ | refine Ite.t fun _ => ?_ | refine Ite.f fun _ => ?_ | refine Ite.decide (fun _ => ?_) fun _ => ?_ | refine Ite.bool (fun _ => ?_) fun _ => ?_ | refine And.intro ?_ ?_) | omega | simp (maxSteps := 1000000) only [go_sem, reduceCtorEq, Nat.reduceLT, Nat.reduceLeDiff, reduceIte, ↓reduceIte, Nat.reduceEqDiff, Nat.reduceAdd, Nat.reduceMul, Nat.reduceSub, Int.reduceLE, Int.reduceLT, Int.reduceNeg, Int.reduceToNat])
      refine VcCall.fr (FnFr.of_ok (k5) rfl rfl) (by simp only [noIdR_ok, argOkL, argOk, allOk, argOkN, List.drop_zero, lk, reduceIte, reduceCtorEq, Nat.reduceEqDiff, Option.some.injEq, Item.row.injEq, Item.box.injEq, AV.ro.injEq, exists_eq_left, exists_and_left, exists_eq_left', exists_eq_right, and_assoc, and_true, true_and, List.cons.injEq, exists_eq', exists_eq]) 0 rfl (by simp [rowsB]) ?_
      (repeat' first | with_reducible (first | refine Asm.intro fun _ => ?_ | refine Chk.g ?_ | refine AnyI.i64 fun _ _ => ?_ | refine LetW.g ?_ | refine LetW.h ?_ | refine Ite.t fun _ => ?_ | refine Ite.f fun _ => ?_ | refine Ite.decide (fun _ => ?_) fun _ => ?_ | refine Ite.bool (fun _ => ?_) fun _ => ?_ | refine And.intro ?_ ?_) | omega | simp (maxSteps := 1000000) only [go_sem, reduceCtorEq, Nat.reduceLT, Nat.reduceLeDiff, reduceIte, ↓reduceIte, Nat.reduceEqDiff, Nat.reduceAdd, Nat.reduceMul, Nat.reduceSub, Int.reduceLE, Int.reduceLT, Int.reduceNeg, Int.reduceToNat])
      refine Ret.auto 0 ?_ rfl ?_ <;> simp only [go_sem, reduceCtorEq, reduceIte, Nat.reduceEqDiff, Nat.reduceLT, Nat.reduceLeDiff, Int.natCast_succ, Post]
    · rw [if_neg h0]
      (repeat' first | with_reducible (first | refine Asm.intro fun _ => ?_ | refine Chk.g ?_ | refine AnyI.i64 fun _ _ => ?_ | refine LetW.g ?_ | refine LetW.h ?_ | refine Ite.t fun _ => ?_ | refine Ite.f fun _ => ?_ | refine Ite.decide (fun _ => ?_) fun _ => ?_ | refine Ite.bool (fun _ => ?_) fun _ => ?_ | refine And.intro ?_ ?_) | omega | simp (maxSteps := 1000000) only [go_sem, reduceCtorEq, Nat.reduceLT, Nat.reduceLeDiff, reduceIte, ↓reduceIte, Nat.reduceEqDiff, Nat.reduceAdd, Nat.reduceMul, Nat.reduceSub, Int.reduceLE, Int.reduceLT, Int.reduceNeg, Int.reduceToNat, h0, List.map_nil])
      refine Ret.auto 0 ?_ rfl ?_ <;> simp only [go_sem, reduceCtorEq, reduceIte, Nat.reduceEqDiff, Nat.reduceLT, Nat.reduceLeDiff, Int.natCast_succ, Post]
end Go.Fv.S
