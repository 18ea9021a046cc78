/-
  A part of the proof of the claim: walks over the program's functions and the plain laws that these need. No condition of its own.
-/
import Derived.Test.YtolhkphiifgblaaDoorMParagraphsMatchCardPart1
import Derived.Test.YtolhkphiifgblaaDoorMParagraphsMatchCardPart3
import Derived.Test.YtolhkphiifgblaaDoorFvPart10
/- Paragraphs and the reference's: the walk. -/
namespace Go.Fv.M
open Go Go.Proofs
set_option linter.unusedSimpArgs false
set_option linter.unusedVariables false
set_option linter.unnecessarySimpa false
set_option maxRecDepth 8000

theorem ren_pl (p : Nat → Nat) (l : List (List Int)) (x : List AV) : renR p (.objs 1 (l.map gAv ++ [x])) = .objs 1 (l.map gAv ++ [renL p x]) := by
  simp only [renR, List.map_append, List.map_cons, List.map_nil]
  rw [lall_ren p (l.map gAv) (by simp [List.all_eq_true, gAv, noIdL, noId])]
theorem below_pl {N : Nat} {l : List (List Int)} {x : List AV} (h : belowL N x = true) : belowR N (.objs 1 (l.map gAv ++ [x])) = true := by
  simp only [belowR, List.all_append, Bool.and_eq_true]
  refine ⟨?_, by simp [h]⟩
  rw [List.all_eq_true]
  intro y hy
  obtain ⟨d, _, rfl⟩ := List.mem_map.1 hy
  rfl
theorem pl_get {F : List (List Int)} {x : List AV} : (F.map gAv ++ [x]).getD F.length [] = x := by simp [List.getD_eq_getElem?_getD]
theorem pl_set {F : List (List Int)} {x y : List AV} : (F.map gAv ++ [x]).set F.length y = F.map gAv ++ [y] := by
  rw [List.set_append_right _ _ (by simp)]; simp
theorem last_p (n : Nat) : (((n + 1 : Nat) : Int) - 1).toNat = n := by omega
def paRows (s : PSt) : List (Nat × Item) := match s.cur with
  | none => [(0, .row 53 (.objs 1 (s.F.map gAv)))]
  | some c => [(0, .row 53 (.objs 1 (s.F.map gAv ++ [[.own 1]]))), (1, .row 3 (.ints .i64 c))]
theorem paras_bad (l : List Bx) (ind gap : Int) (hl : l.length ≤ 60) (hb : firstBad l = 3) : FnOk Tryd.prog 25 [.ro (bxs l), .int .i64 ind, .int .i64 gap] (.tup [.own 0, .int .i64 3]) [(0, .row 53 (.objs 1 []))] := by
  have kc := groups_bad l 0 0 (by omega) hb
  refine FnOk.of_vc Tryd.func25 rfl (by decide) (by simp [Tryd.f25]) [.tmp 6, .tmp 7] rfl fun w0 T0 _ => ?_
  simp only [Tryd.f25, argEnv]
  (repeat' first | with_reducible (first | refine Asm.intro fun _ => ?_ | refine Chk.g ?_ | refine AnyI.i64 fun _ _ => ?_ | refine LetW.g ?_ | refine LetW.h ?_ | refine Ite.t fun _ => ?_ | refine Ite.f fun _ => ?_ | refine Ite.decide (fun _ => ?_) fun _ => ?_ | refine Ite.bool (fun _ => ?_) fun _ => ?_ | refine And.intro ?_ ?_) | omega | simp (maxSteps := 1000000) only [go_sem, reduceCtorEq, Nat.reduceLT, Nat.reduceLeDiff, reduceIte, ↓reduceIte, Nat.reduceEqDiff, Nat.reduceAdd, Nat.reduceMul, Nat.reduceSub, Int.reduceLE, Int.reduceLT, Int.reduceNeg, Int.reduceToNat, List.length_map])
  refine VcCall.ro (.tup [.ro (.objs 1 []), .int .i64 3]) (FnFr.of_ok kc rfl rfl) (by simp only [noIdR_ok, argOkL, argOk, allOk, argOkN, List.drop_zero, lk, reduceIte, reduceCtorEq, Nat.reduceEqDiff, Option.some.injEq, Item.row.injEq, Item.box.injEq, AV.ro.injEq, exists_eq_left, exists_and_left, exists_eq_left', exists_eq_right, and_assoc, and_true, true_and, List.cons.injEq, exists_eq', exists_eq]) (by simp [outOk, argOkL, allOk, argOk, argOkN, lk, noIdR_ok]) rfl ?_
  (repeat' first | with_reducible (first | refine Asm.intro fun _ => ?_ | refine Chk.g ?_ | refine AnyI.i64 fun _ _ => ?_ | refine LetW.g ?_ | refine LetW.h ?_ | refine Ite.t fun _ => ?_ | refine Ite.f fun _ => ?_ | refine Ite.decide (fun _ => ?_) fun _ => ?_ | refine Ite.bool (fun _ => ?_) fun _ => ?_ | refine And.intro ?_ ?_) | omega | simp (maxSteps := 1000000) only [go_sem, reduceCtorEq, Nat.reduceLT, Nat.reduceLeDiff, reduceIte, ↓reduceIte, Nat.reduceEqDiff, Nat.reduceAdd, Nat.reduceMul, Nat.reduceSub, Int.reduceLE, Int.reduceLT, Int.reduceNeg, Int.reduceToNat, List.length_map])
  refine Ret.auto 1 ?_ rfl ?_ <;> simp only [go_sem, reduceCtorEq, reduceIte, Nat.reduceEqDiff, Nat.reduceLT, Nat.reduceLeDiff, Int.natCast_succ, Post]
theorem paras_range (l : List Bx) (ind gap : Int) (hl : l.length ≤ 60) (hok : ∀ b, b ∈ l → BxOk b) (hd : ¬ ((0 ≤ ind ∧ ind ≤ 1048576) ∧ (0 ≤ gap ∧ gap ≤ 1048576))) : FnOk Tryd.prog 25 [.ro (bxs l), .int .i64 ind, .int .i64 gap] (.tup [.own 0, .int .i64 3]) [(0, .row 53 (.objs 1 []))] := by
  have kc := groups_ok l 0 0 (by omega) hok ⟨by omega, by omega⟩
  generalize (groupsOf l 0 0).map sortI = GG at *
  refine FnOk.of_vc Tryd.func25 rfl (by decide) (by simp [Tryd.f25]) [.tmp 6, .tmp 7] rfl fun w0 T0 _ => ?_
  simp only [Tryd.f25, argEnv]
  (repeat' first | with_reducible (first | refine Asm.intro fun _ => ?_ | refine Chk.g ?_ | refine AnyI.i64 fun _ _ => ?_ | refine LetW.g ?_ | refine LetW.h ?_ | refine Ite.t fun _ => ?_ | refine Ite.f fun _ => ?_ | refine Ite.decide (fun _ => ?_) fun _ => ?_ | refine Ite.bool (fun _ => ?_) fun _ => ?_ | refine And.intro ?_ ?_) | omega | simp (maxSteps := 1000000) only [go_sem, reduceCtorEq, Nat.reduceLT, Nat.reduceLeDiff, reduceIte, ↓reduceIte, Nat.reduceEqDiff, Nat.reduceAdd, Nat.reduceMul, Nat.reduceSub, Int.reduceLE, Int.reduceLT, Int.reduceNeg, Int.reduceToNat, List.length_map])
  refine VcCall.ros (.tup [.ro (.objs 1 (GG.map gAv)), .int .i64 0]) kc (by simp only [noIdR_ok, argOkL, argOk, allOk, argOkN, List.drop_zero, lk, reduceIte, reduceCtorEq, Nat.reduceEqDiff, Option.some.injEq, Item.row.injEq, Item.box.injEq, AV.ro.injEq, exists_eq_left, exists_and_left, exists_eq_left', exists_eq_right, and_assoc, and_true, true_and, List.cons.injEq, exists_eq', exists_eq]) (by simp [outOk, argOkL, allOk, argOk, argOkN, lk, noIdR_ok]) rfl ?_
  (repeat' first | with_reducible (first | refine Asm.intro fun _ => ?_ | refine Chk.g ?_ | refine AnyI.i64 fun _ _ => ?_ | refine LetW.g ?_ | refine LetW.h ?_ | refine Ite.t fun _ => ?_ | refine Ite.f fun _ => ?_ | refine Ite.decide (fun _ => ?_) fun _ => ?_ | refine Ite.bool (fun _ => ?_) fun _ => ?_ | refine And.intro ?_ ?_) | omega | simp (maxSteps := 1000000) only [go_sem, reduceCtorEq, Nat.reduceLT, Nat.reduceLeDiff, reduceIte, ↓reduceIte, Nat.reduceEqDiff, Nat.reduceAdd, Nat.reduceMul, Nat.reduceSub, Int.reduceLE, Int.reduceLT, Int.reduceNeg, Int.reduceToNat, List.length_map])
  refine Ret.auto 1 ?_ rfl ?_ <;> simp only [go_sem, reduceCtorEq, reduceIte, Nat.reduceEqDiff, Nat.reduceLT, Nat.reduceLeDiff, Int.natCast_succ, Post]
theorem refParas_bad (l : List Bx) (ind gap : Int) (hl : l.length ≤ 60) (hb : firstBad l = 3) : FnOk Tryd.prog 26 [.ro (bxs l), .int .i64 ind, .int .i64 gap] (.tup [.own 0, .int .i64 3]) [(0, .row 53 (.objs 1 []))] := by
  have kc := boxesError_ok l
  rw [if_neg (by omega), hb] at kc
  refine FnOk.of_vc Tryd.func26 rfl (by decide) (by simp [Tryd.f26]) [.tmp 6, .tmp 7] rfl fun w0 T0 _ => ?_
  simp only [Tryd.f26, argEnv]
  (repeat' first | with_reducible (first | refine Asm.intro fun _ => ?_ | refine Chk.g ?_ | refine AnyI.i64 fun _ _ => ?_ | refine LetW.g ?_ | refine LetW.h ?_ | refine Ite.t fun _ => ?_ | refine Ite.f fun _ => ?_ | refine Ite.decide (fun _ => ?_) fun _ => ?_ | refine Ite.bool (fun _ => ?_) fun _ => ?_ | refine And.intro ?_ ?_) | omega | simp (maxSteps := 1000000) only [go_sem, reduceCtorEq, Nat.reduceLT, Nat.reduceLeDiff, reduceIte, ↓reduceIte, Nat.reduceEqDiff, Nat.reduceAdd, Nat.reduceMul, Nat.reduceSub, Int.reduceLE, Int.reduceLT, Int.reduceNeg, Int.reduceToNat, List.length_map])
  refine VcCall.fr (FnFr.of_ok (kc) rfl rfl) (by simp only [noIdR_ok, argOkL, argOk, allOk, argOkN, List.drop_zero, lk, reduceIte, reduceCtorEq, Nat.reduceEqDiff, Option.some.injEq, Item.row.injEq, Item.box.injEq, AV.ro.injEq, exists_eq_left, exists_and_left, exists_eq_left', exists_eq_right, and_assoc, and_true, true_and, List.cons.injEq, exists_eq', exists_eq]) 0 rfl (by simp [rowsB]) ?_
  (repeat' first | with_reducible (first | refine Asm.intro fun _ => ?_ | refine Chk.g ?_ | refine AnyI.i64 fun _ _ => ?_ | refine LetW.g ?_ | refine LetW.h ?_ | refine Ite.t fun _ => ?_ | refine Ite.f fun _ => ?_ | refine Ite.decide (fun _ => ?_) fun _ => ?_ | refine Ite.bool (fun _ => ?_) fun _ => ?_ | refine And.intro ?_ ?_) | omega | simp (maxSteps := 1000000) only [go_sem, reduceCtorEq, Nat.reduceLT, Nat.reduceLeDiff, reduceIte, ↓reduceIte, Nat.reduceEqDiff, Nat.reduceAdd, Nat.reduceMul, Nat.reduceSub, Int.reduceLE, Int.reduceLT, Int.reduceNeg, Int.reduceToNat, List.length_map])
  refine Ret.auto 1 ?_ rfl ?_ <;> simp only [go_sem, reduceCtorEq, reduceIte, Nat.reduceEqDiff, Nat.reduceLT, Nat.reduceLeDiff, Int.natCast_succ, Post]
theorem refParas_range (l : List Bx) (ind gap : Int) (hl : l.length ≤ 60) (hok : ∀ b, b ∈ l → BxOk b) (hd : ¬ ((0 ≤ ind ∧ ind ≤ 1048576) ∧ (0 ≤ gap ∧ gap ≤ 1048576))) : FnOk Tryd.prog 26 [.ro (bxs l), .int .i64 ind, .int .i64 gap] (.tup [.own 0, .int .i64 3]) [(0, .row 53 (.objs 1 []))] := by
  have kc := boxesError_ok l
  rw [if_neg (by omega), firstBad_zero.2 hok] at kc
  refine FnOk.of_vc Tryd.func26 rfl (by decide) (by simp [Tryd.f26]) [.tmp 6, .tmp 7] rfl fun w0 T0 _ => ?_
  simp only [Tryd.f26, argEnv]
  (repeat' first | with_reducible (first | refine Asm.intro fun _ => ?_ | refine Chk.g ?_ | refine AnyI.i64 fun _ _ => ?_ | refine LetW.g ?_ | refine LetW.h ?_ | refine Ite.t fun _ => ?_ | refine Ite.f fun _ => ?_ | refine Ite.decide (fun _ => ?_) fun _ => ?_ | refine Ite.bool (fun _ => ?_) fun _ => ?_ | refine And.intro ?_ ?_) | omega | simp (maxSteps := 1000000) only [go_sem, reduceCtorEq, Nat.reduceLT, Nat.reduceLeDiff, reduceIte, ↓reduceIte, Nat.reduceEqDiff, Nat.reduceAdd, Nat.reduceMul, Nat.reduceSub, Int.reduceLE, Int.reduceLT, Int.reduceNeg, Int.reduceToNat, List.length_map])
  refine VcCall.fr (FnFr.of_ok (kc) rfl rfl) (by simp only [noIdR_ok, argOkL, argOk, allOk, argOkN, List.drop_zero, lk, reduceIte, reduceCtorEq, Nat.reduceEqDiff, Option.some.injEq, Item.row.injEq, Item.box.injEq, AV.ro.injEq, exists_eq_left, exists_and_left, exists_eq_left', exists_eq_right, and_assoc, and_true, true_and, List.cons.injEq, exists_eq', exists_eq]) 0 rfl (by simp [rowsB]) ?_
  (repeat' first | with_reducible (first | refine Asm.intro fun _ => ?_ | refine Chk.g ?_ | refine AnyI.i64 fun _ _ => ?_ | refine LetW.g ?_ | refine LetW.h ?_ | refine Ite.t fun _ => ?_ | refine Ite.f fun _ => ?_ | refine Ite.decide (fun _ => ?_) fun _ => ?_ | refine Ite.bool (fun _ => ?_) fun _ => ?_ | refine And.intro ?_ ?_) | omega | simp (maxSteps := 1000000) only [go_sem, reduceCtorEq, Nat.reduceLT, Nat.reduceLeDiff, reduceIte, ↓reduceIte, Nat.reduceEqDiff, Nat.reduceAdd, Nat.reduceMul, Nat.reduceSub, Int.reduceLE, Int.reduceLT, Int.reduceNeg, Int.reduceToNat, List.length_map])
  refine Ret.auto 1 ?_ rfl ?_ <;> simp only [go_sem, reduceCtorEq, reduceIte, Nat.reduceEqDiff, Nat.reduceLT, Nat.reduceLeDiff, Int.natCast_succ, Post]
set_option maxHeartbeats 16000000 in
theorem paras_ok (l : List Bx) (ind gap : Int) (hl : l.length ≤ 60) (hok : ∀ b, b ∈ l → BxOk b) (hd : (0 ≤ ind ∧ ind ≤ 1048576) ∧ (0 ≤ gap ∧ gap ≤ 1048576)) : FnOk Tryd.prog 25 [.ro (bxs l), .int .i64 ind, .int .i64 gap] (.tup [.own 0, .int .i64 0]) [(0, .row 53 (.objs 1 ((paN l ind gap l.length).all.map gAv)))] := by
  have kc := groups_ok l 0 0 (by omega) hok ⟨by omega, by omega⟩
  generalize (groupsOf l 0 0).map sortI = GG at *
  refine FnOk.of_vc Tryd.func25 rfl (by decide) (by simp [Tryd.f25]) [.tmp 6, .tmp 7] rfl fun w0 T0 _ => ?_
  simp only [Tryd.f25, argEnv]
  (repeat' first | with_reducible (first | refine Asm.intro fun _ => ?_ | refine Chk.g ?_ | refine AnyI.i64 fun _ _ => ?_ | refine LetW.g ?_ | refine LetW.h ?_ | refine Ite.t fun _ => ?_ | refine Ite.f fun _ => ?_ | refine Ite.decide (fun _ => ?_) fun _ => ?_ | refine Ite.bool (fun _ => ?_) fun _ => ?_ | refine And.intro ?_ ?_) | omega | simp (maxSteps := 1000000) only [go_sem, reduceCtorEq, Nat.reduceLT, Nat.reduceLeDiff, reduceIte, ↓reduceIte, Nat.reduceEqDiff, Nat.reduceAdd, Nat.reduceMul, Nat.reduceSub, Int.reduceLE, Int.reduceLT, Int.reduceNeg, Int.reduceToNat, List.length_map])
  refine VcCall.ros (.tup [.ro (.objs 1 (GG.map gAv)), .int .i64 0]) kc (by simp only [noIdR_ok, argOkL, argOk, allOk, argOkN, List.drop_zero, lk, reduceIte, reduceCtorEq, Nat.reduceEqDiff, Option.some.injEq, Item.row.injEq, Item.box.injEq, AV.ro.injEq, exists_eq_left, exists_and_left, exists_eq_left', exists_eq_right, and_assoc, and_true, true_and, List.cons.injEq, exists_eq', exists_eq]) (by simp [outOk, argOkL, allOk, argOk, argOkN, lk, noIdR_ok]) rfl ?_
  (repeat' first | with_reducible (first | refine Asm.intro fun _ => ?_ | refine Chk.g ?_ | refine AnyI.i64 fun _ _ => ?_ | refine LetW.g ?_ | refine LetW.h ?_ | refine Ite.t fun _ => ?_ | refine Ite.f fun _ => ?_ | refine Ite.decide (fun _ => ?_) fun _ => ?_ | refine Ite.bool (fun _ => ?_) fun _ => ?_ | refine And.intro ?_ ?_) | omega | simp (maxSteps := 1000000) only [go_sem, reduceCtorEq, Nat.reduceLT, Nat.reduceLeDiff, reduceIte, ↓reduceIte, Nat.reduceEqDiff, Nat.reduceAdd, Nat.reduceMul, Nat.reduceSub, Int.reduceLE, Int.reduceLT, Int.reduceNeg, Int.reduceToNat, List.length_map])
  refine VcLoop.intro (fun i : Nat => ⟨105, [(40, .int .i64 i), (39, .int .i64 l.length), (38, .ro (bxs l)), (10, .int .i64 (leftB (l.take i))), (0, .ro (bxs l)), (1, .int .i64 ind), (2, .int .i64 gap)], [], 0⟩) (fun i => i ≤ l.length) (fun i => l.length - i) 0 ?_ (Nat.zero_le _) fun i hi => ?_
  · refine Ent.auto0 rfl ?_ ?_ <;> simp only [go_sem, reduceCtorEq, reduceIte, Nat.reduceEqDiff, Nat.reduceLT, Nat.reduceLeDiff, Int.natCast_succ, List.take_zero, leftB, mnF, List.foldl_nil]
  by_cases hlt : i < l.length
  · have hel := bx_elem l hlt
    have hts : leftB (l.take (i + 1)) = min (leftB (l.take i)) (l.getD i Bx.zero).x := by
      rw [bx_take hlt]; exact mnF_snoc _ _ _ _
    generalize l.getD i Bx.zero = b at *
    (repeat' first | with_reducible (first | refine Asm.intro fun _ => ?_ | refine Chk.g ?_ | refine AnyI.i64 fun _ _ => ?_ | refine LetW.g ?_ | refine LetW.h ?_ | refine Ite.t fun _ => ?_ | refine Ite.f fun _ => ?_ | refine Ite.decide (fun _ => ?_) fun _ => ?_ | refine Ite.bool (fun _ => ?_) fun _ => ?_ | refine And.intro ?_ ?_) | omega | simp (maxSteps := 1000000) only [go_sem, reduceCtorEq, Nat.reduceLT, Nat.reduceLeDiff, reduceIte, ↓reduceIte, Nat.reduceEqDiff, Nat.reduceAdd, Nat.reduceMul, Nat.reduceSub, Int.reduceLE, Int.reduceLT, Int.reduceNeg, Int.reduceToNat, List.length_map, elemA, hel, Int.toNat_natCast, minmax])
    refine ⟨i + 1, Ent.auto0 rfl ?_ ?_, by omega, by omega⟩ <;> simp only [go_sem, reduceCtorEq, reduceIte, Nat.reduceEqDiff, Nat.reduceLT, Nat.reduceLeDiff, Int.natCast_succ, hts]
  have e : i = l.length := by omega
  subst e
  rw [List.take_length]
  (repeat' first | with_reducible (first | refine Asm.intro fun _ => ?_ | refine Chk.g ?_ | refine AnyI.i64 fun _ _ => ?_ | refine LetW.g ?_ | refine LetW.h ?_ | refine Ite.t fun _ => ?_ | refine Ite.f fun _ => ?_ | refine Ite.decide (fun _ => ?_) fun _ => ?_ | refine Ite.bool (fun _ => ?_) fun _ => ?_ | refine And.intro ?_ ?_) | omega | simp (maxSteps := 1000000) only [go_sem, reduceCtorEq, Nat.reduceLT, Nat.reduceLeDiff, reduceIte, ↓reduceIte, Nat.reduceEqDiff, Nat.reduceAdd, Nat.reduceMul, Nat.reduceSub, Int.reduceLE, Int.reduceLT, Int.reduceNeg, Int.reduceToNat, List.length_map])
  refine VcLoop.run (fun i : Nat => ⟨105, [(51, .int .i64 i), (50, .int .i64 l.length), (49, .ro (bxs l)), (13, .own 0), (10, .int .i64 (leftB l)), (0, .ro (bxs l)), (1, .int .i64 ind), (2, .int .i64 gap), (999999, .dead)], paRows (paN l ind gap i), 2⟩) (fun i => i ≤ l.length) (fun i => l.length - i) 0 ?_ (Nat.zero_le _) fun i hi => ?_
  · unfold paRows
    refine Ent.auto0 rfl ?_ ?_ <;> simp only [go_sem, reduceCtorEq, reduceIte, Nat.reduceEqDiff, Nat.reduceLT, Nat.reduceLeDiff, Int.natCast_succ, paN, List.map_nil]
    all_goals simp
  obtain ⟨n1, n2, n3⟩ := paN_len l ind gap i
  have hcur := fun h => paN_cur l ind gap (i := i) h
  by_cases hlt : i < l.length
  · have hA := bx_elem l hlt
    have oA := hok _ (bx_mem hlt)
    have hstep : paN l ind gap (i + 1) = if newP l ind gap i then ⟨(paN l ind gap i).all, some [(i : Int)]⟩ else ⟨(paN l ind gap i).F, some ((paN l ind gap i).cur.getD [] ++ [(i : Int)])⟩ := rfl
    have hlf := leftB_bd hok l.length
    rw [List.take_length] at hlf
    have hnew : newP l ind gap i ↔ (i = 0 ∨ ind ≤ (l.getD i Bx.zero).x - leftB l ∨ gap < (l.getD i Bx.zero).y - ((l.getD (i - 1) Bx.zero).y + (l.getD (i - 1) Bx.zero).h)) := Iff.rfl
    by_cases h0 : i = 0
    case pos =>
      subst h0
      rw [if_pos (hnew.2 (.inl rfl))] at hstep
      have ez : ((0 : Nat) : Int).toNat = 0 := rfl
      have e0 : paN l ind gap 0 = ⟨[], none⟩ := rfl
      rw [e0] at hstep ⊢
      unfold paRows
      have em : ((0 : Int) - 1).toNat = 0 := rfl
      have e11 : (((1 : Nat) : Int) - 1).toNat = 0 := rfl
      unfold BxOk at oA
      refine VcRun.of ?_
      (repeat' first | with_reducible (first | refine Asm.intro fun _ => ?_ | refine Chk.g ?_ | refine AnyI.i64 fun _ _ => ?_ | refine LetW.g ?_ | refine LetW.h ?_ | refine Ite.t fun _ => ?_ | refine Ite.f fun _ => ?_ | refine Ite.decide (fun _ => ?_) fun _ => ?_ | refine Ite.bool (fun _ => ?_) fun _ => ?_ | refine And.intro ?_ ?_) | omega | simp (maxSteps := 1000000) only [go_sem, reduceCtorEq, Nat.reduceLT, Nat.reduceLeDiff, reduceIte, ↓reduceIte, Nat.reduceEqDiff, Nat.reduceAdd, Nat.reduceMul, Nat.reduceSub, Int.reduceLE, Int.reduceLT, Int.reduceNeg, Int.reduceToNat, List.length_map, elemA, hA, Int.toNat_natCast, List.map_nil, Int.natCast_zero, em])
      refine VcDraw.lex [] [] (by kernel_rfl) (by kernel_rfl) ?_
      (repeat' first | with_reducible (first | refine Asm.intro fun _ => ?_ | refine Chk.g ?_ | refine AnyI.i64 fun _ _ => ?_ | refine LetW.g ?_ | refine LetW.h ?_ | refine Ite.t fun _ => ?_ | refine Ite.f fun _ => ?_ | refine Ite.decide (fun _ => ?_) fun _ => ?_ | refine Ite.bool (fun _ => ?_) fun _ => ?_ | refine And.intro ?_ ?_) | omega | simp (maxSteps := 1000000) only [go_sem, reduceCtorEq, Nat.reduceLT, Nat.reduceLeDiff, reduceIte, ↓reduceIte, Nat.reduceEqDiff, Nat.reduceAdd, Nat.reduceMul, Nat.reduceSub, Int.reduceLE, Int.reduceLT, Int.reduceNeg, Int.reduceToNat, List.length_map, elemA, hA, Int.toNat_natCast, List.map_nil, Int.natCast_zero, em, ez, e11, List.getD_cons_zero, List.set_cons_zero])
      refine ⟨0 + 1, ?_, by omega, by omega⟩
      rw [hstep]
      try unfold paRows
      dsimp only [Option.getD, PSt.all, Option.toList]
      refine Ent.of [(0, 4), (1, 7)] rfl (Nat.zero_le _) (by simp) ?_ ?_
      · simp only [go_sem, reduceCtorEq, reduceIte, Nat.reduceEqDiff, Nat.reduceLT, Nat.reduceLeDiff, Int.natCast_succ]
      · simp only [go_sem, reduceCtorEq, reduceIte, Nat.reduceEqDiff, Nat.reduceLT, Nat.reduceLeDiff, Int.natCast_succ, ren_pl, List.map_nil, List.nil_append, List.append_nil]
        all_goals first | exact below_pl (by decide) | exact ⟨rfl, rfl⟩ | skip
    obtain ⟨c, hc⟩ := hcur (by omega)
    have hB := bx_elem l (show i - 1 < l.length by omega)
    have oB := hok _ (bx_mem (show i - 1 < l.length by omega))
    have ei : ((i : Int) - 1).toNat = i - 1 := by omega
    generalize l.getD i Bx.zero = A at *
    generalize l.getD (i - 1) Bx.zero = B at *
    generalize paN l ind gap i = s at *
    obtain ⟨F, cur⟩ := s
    dsimp only at hc n2 n3 hstep
    subst hc
    have hcl : c.length ≤ i := n3
    unfold BxOk at oA oB
    by_cases hn : newP l ind gap i
    · rw [if_pos hn] at hstep
      have hn' := hnew.1 hn
      have e1 := last_p (F ++ [c]).length
      have hall : PSt.all ⟨F, some c⟩ = F ++ [c] := rfl
      rw [hall] at hstep
      refine VcRun.ent (Ent.trans (Ent.fz 1 (e := 3) (r := .ints .i64 c) rfl rfl (Nat.zero_le _)) (Ent.auto0 (s' := ⟨105, [(51, .int .i64 i), (50, .int .i64 l.length), (49, .ro (bxs l)), (13, .own 0), (10, .int .i64 (leftB l)), (0, .ro (bxs l)), (1, .int .i64 ind), (2, .int .i64 gap), (999999, .dead)], [(0, .row 53 (.objs 1 ((F ++ [c]).map gAv)))], 1⟩) rfl ?_ ?_)) (VcRun.of ?_)
      · unfold paRows
        simp only [go_sem, reduceCtorEq, reduceIte, Nat.reduceEqDiff, Nat.reduceLT, Nat.reduceLeDiff, Int.natCast_succ]
      · unfold paRows
        simp only [go_sem, reduceCtorEq, reduceIte, Nat.reduceEqDiff, Nat.reduceLT, Nat.reduceLeDiff, Int.natCast_succ, List.map_append, gAv]
        rw [List.map_map]
        rfl
      have hF2 : (F ++ [c]).length = F.length + 1 := by simp
      generalize F ++ [c] = F2 at *
      (repeat' first | with_reducible (first | refine Asm.intro fun _ => ?_ | refine Chk.g ?_ | refine AnyI.i64 fun _ _ => ?_ | refine LetW.g ?_ | refine LetW.h ?_ | refine Ite.t fun _ => ?_ | refine Ite.f fun _ => ?_ | refine Ite.decide (fun _ => ?_) fun _ => ?_ | refine Ite.bool (fun _ => ?_) fun _ => ?_ | refine And.intro ?_ ?_) | omega | simp (maxSteps := 1000000) only [go_sem, reduceCtorEq, Nat.reduceLT, Nat.reduceLeDiff, reduceIte, ↓reduceIte, Nat.reduceEqDiff, Nat.reduceAdd, Nat.reduceMul, Nat.reduceSub, Int.reduceLE, Int.reduceLT, Int.reduceNeg, Int.reduceToNat, List.length_map, elemA, hA, hB, Int.toNat_natCast, ei])
      refine VcDraw.lex [] [] (by kernel_rfl) (by kernel_rfl) ?_
      (repeat' first | with_reducible (first | refine Asm.intro fun _ => ?_ | refine Chk.g ?_ | refine AnyI.i64 fun _ _ => ?_ | refine LetW.g ?_ | refine LetW.h ?_ | refine Ite.t fun _ => ?_ | refine Ite.f fun _ => ?_ | refine Ite.decide (fun _ => ?_) fun _ => ?_ | refine Ite.bool (fun _ => ?_) fun _ => ?_ | refine And.intro ?_ ?_) | omega | simp (maxSteps := 1000000) only [go_sem, reduceCtorEq, Nat.reduceLT, Nat.reduceLeDiff, reduceIte, ↓reduceIte, Nat.reduceEqDiff, Nat.reduceAdd, Nat.reduceMul, Nat.reduceSub, Int.reduceLE, Int.reduceLT, Int.reduceNeg, Int.reduceToNat, List.length_map, elemA, hA, hB, Int.toNat_natCast, ei, e1, pl_get, pl_set])
      refine ⟨i + 1, ?_, by omega, by omega⟩
      rw [hstep]
      try unfold paRows
      dsimp only [Option.getD, PSt.all, Option.toList]
      refine Ent.of [(0, 3), (1, 6)] rfl (Nat.zero_le _) (by simp) ?_ ?_
      · simp only [go_sem, reduceCtorEq, reduceIte, Nat.reduceEqDiff, Nat.reduceLT, Nat.reduceLeDiff, Int.natCast_succ]
      · simp only [go_sem, reduceCtorEq, reduceIte, Nat.reduceEqDiff, Nat.reduceLT, Nat.reduceLeDiff, Int.natCast_succ, ren_pl, List.map_nil, List.nil_append, List.append_nil]
        all_goals first | exact below_pl (by decide) | exact ⟨rfl, rfl⟩ | skip
    · rw [if_neg hn] at hstep
      have hn' := mt hnew.2 hn
      unfold paRows
      have e1 := last_p F.length
      refine VcRun.of ?_
      (repeat' first | with_reducible (first | refine Asm.intro fun _ => ?_ | refine Chk.g ?_ | refine AnyI.i64 fun _ _ => ?_ | refine LetW.g ?_ | refine LetW.h ?_ | refine Ite.t fun _ => ?_ | refine Ite.f fun _ => ?_ | refine Ite.decide (fun _ => ?_) fun _ => ?_ | refine Ite.bool (fun _ => ?_) fun _ => ?_ | refine And.intro ?_ ?_) | omega | simp (maxSteps := 1000000) only [go_sem, reduceCtorEq, Nat.reduceLT, Nat.reduceLeDiff, reduceIte, ↓reduceIte, Nat.reduceEqDiff, Nat.reduceAdd, Nat.reduceMul, Nat.reduceSub, Int.reduceLE, Int.reduceLT, Int.reduceNeg, Int.reduceToNat, List.length_map, elemA, hA, hB, Int.toNat_natCast, ei, e1, pl_get, pl_set])
      refine VcDraw.lex [] [] (by kernel_rfl) (by kernel_rfl) ?_
      (repeat' first | with_reducible (first | refine Asm.intro fun _ => ?_ | refine Chk.g ?_ | refine AnyI.i64 fun _ _ => ?_ | refine LetW.g ?_ | refine LetW.h ?_ | refine Ite.t fun _ => ?_ | refine Ite.f fun _ => ?_ | refine Ite.decide (fun _ => ?_) fun _ => ?_ | refine Ite.bool (fun _ => ?_) fun _ => ?_ | refine And.intro ?_ ?_) | omega | simp (maxSteps := 1000000) only [go_sem, reduceCtorEq, Nat.reduceLT, Nat.reduceLeDiff, reduceIte, ↓reduceIte, Nat.reduceEqDiff, Nat.reduceAdd, Nat.reduceMul, Nat.reduceSub, Int.reduceLE, Int.reduceLT, Int.reduceNeg, Int.reduceToNat, List.length_map, elemA, hA, hB, Int.toNat_natCast, ei, e1, pl_get, pl_set])
      refine ⟨i + 1, ?_, by omega, by omega⟩
      rw [hstep]
      try unfold paRows
      dsimp only [Option.getD, PSt.all, Option.toList]
      refine Ent.of [(1, 4)] rfl (Nat.zero_le _) (by simp) ?_ ?_
      · simp only [go_sem, reduceCtorEq, reduceIte, Nat.reduceEqDiff, Nat.reduceLT, Nat.reduceLeDiff, Int.natCast_succ]
      · simp only [go_sem, reduceCtorEq, reduceIte, Nat.reduceEqDiff, Nat.reduceLT, Nat.reduceLeDiff, Int.natCast_succ, ren_pl, List.map_nil, List.nil_append, List.append_nil]
        all_goals first | exact below_pl (by decide) | exact ⟨rfl, rfl⟩ | skip
  · have e : i = l.length := by omega
    subst e
    by_cases h0 : l.length = 0
    · rw [h0]
      unfold paRows
      refine VcRun.of ?_
      (repeat' first | with_reducible (first | refine Asm.intro fun _ => ?_ | refine Chk.g ?_ | refine AnyI.i64 fun _ _ => ?_ | refine LetW.g ?_ | refine LetW.h ?_ | refine Ite.t fun _ => ?_ | refine Ite.f fun _ => ?_ | refine Ite.decide (fun _ => ?_) fun _ => ?_ | refine Ite.bool (fun _ => ?_) fun _ => ?_ | refine And.intro ?_ ?_) | omega | simp (maxSteps := 1000000) only [go_sem, reduceCtorEq, Nat.reduceLT, Nat.reduceLeDiff, reduceIte, ↓reduceIte, Nat.reduceEqDiff, Nat.reduceAdd, Nat.reduceMul, Nat.reduceSub, Int.reduceLE, Int.reduceLT, Int.reduceNeg, Int.reduceToNat, paN, List.map_nil])
      refine Ret.auto 1 ?_ rfl ?_ <;> simp only [go_sem, reduceCtorEq, reduceIte, Nat.reduceEqDiff, Nat.reduceLT, Nat.reduceLeDiff, Int.natCast_succ, Post, PSt.all, Option.toList, List.append_nil, List.map_nil]
    · obtain ⟨c, hc⟩ := hcur (by omega)
      generalize paN l ind gap l.length = s at *
      obtain ⟨F, cur⟩ := s
      dsimp only at hc
      subst hc
      have hall : PSt.all ⟨F, some c⟩ = F ++ [c] := rfl
      rw [hall]
      refine VcRun.ent (Ent.trans (Ent.fz 1 (e := 3) (r := .ints .i64 c) rfl rfl (Nat.zero_le _)) (Ent.auto0 (s' := ⟨105, [(51, .int .i64 l.length), (50, .int .i64 l.length), (49, .ro (bxs l)), (13, .own 0), (999999, .dead)], [(0, .row 53 (.objs 1 ((F ++ [c]).map gAv)))], 1⟩) rfl ?_ ?_)) (VcRun.of ?_)
      · unfold paRows
        simp only [go_sem, reduceCtorEq, reduceIte, Nat.reduceEqDiff, Nat.reduceLT, Nat.reduceLeDiff, Int.natCast_succ]
      · unfold paRows
        simp only [go_sem, reduceCtorEq, reduceIte, Nat.reduceEqDiff, Nat.reduceLT, Nat.reduceLeDiff, Int.natCast_succ, List.map_append, gAv]
        rw [List.map_map]
        rfl
      generalize F ++ [c] = F2 at *
      (repeat' first | with_reducible (first | refine Asm.intro fun _ => ?_ | refine Chk.g ?_ | refine AnyI.i64 fun _ _ => ?_ | refine LetW.g ?_ | refine LetW.h ?_ | refine Ite.t fun _ => ?_ | refine Ite.f fun _ => ?_ | refine Ite.decide (fun _ => ?_) fun _ => ?_ | refine Ite.bool (fun _ => ?_) fun _ => ?_ | refine And.intro ?_ ?_) | omega | simp (maxSteps := 1000000) only [go_sem, reduceCtorEq, Nat.reduceLT, Nat.reduceLeDiff, reduceIte, ↓reduceIte, Nat.reduceEqDiff, Nat.reduceAdd, Nat.reduceMul, Nat.reduceSub, Int.reduceLE, Int.reduceLT, Int.reduceNeg, Int.reduceToNat])
      refine Ret.auto 1 ?_ rfl ?_ <;> simp only [go_sem, reduceCtorEq, reduceIte, Nat.reduceEqDiff, Nat.reduceLT, Nat.reduceLeDiff, Int.natCast_succ, Post]
set_option maxHeartbeats 16000000 in
theorem refParas_ok (l : List Bx) (ind gap : Int) (hl : l.length ≤ 60) (hok : ∀ b, b ∈ l → BxOk b) (hd : (0 ≤ ind ∧ ind ≤ 1048576) ∧ (0 ≤ gap ∧ gap ≤ 1048576)) : FnOk Tryd.prog 26 [.ro (bxs l), .int .i64 ind, .int .i64 gap] (.tup [.own 0, .int .i64 0]) [(0, .row 53 (.objs 1 ((paN l ind gap l.length).all.map gAv)))] := by
  have kc := boxesError_ok l
  rw [if_neg (by omega), firstBad_zero.2 hok] at kc
  refine FnOk.of_vc Tryd.func26 rfl (by decide) (by simp [Tryd.f26]) [.tmp 6, .tmp 7] rfl fun w0 T0 _ => ?_
  simp only [Tryd.f26, argEnv]
  (repeat' first | with_reducible (first | refine Asm.intro fun _ => ?_ | refine Chk.g ?_ | refine AnyI.i64 fun _ _ => ?_ | refine LetW.g ?_ | refine LetW.h ?_ | refine Ite.t fun _ => ?_ | refine Ite.f fun _ => ?_ | refine Ite.decide (fun _ => ?_) fun _ => ?_ | refine Ite.bool (fun _ => ?_) fun _ => ?_ | refine And.intro ?_ ?_) | omega | simp (maxSteps := 1000000) only [go_sem, reduceCtorEq, Nat.reduceLT, Nat.reduceLeDiff, reduceIte, ↓reduceIte, Nat.reduceEqDiff, Nat.reduceAdd, Nat.reduceMul, Nat.reduceSub, Int.reduceLE, Int.reduceLT, Int.reduceNeg, Int.reduceToNat, List.length_map])
  refine VcCall.fr (FnFr.of_ok (kc) rfl rfl) (by simp only [noIdR_ok, argOkL, argOk, allOk, argOkN, List.drop_zero, lk, reduceIte, reduceCtorEq, Nat.reduceEqDiff, Option.some.injEq, Item.row.injEq, Item.box.injEq, AV.ro.injEq, exists_eq_left, exists_and_left, exists_eq_left', exists_eq_right, and_assoc, and_true, true_and, List.cons.injEq, exists_eq', exists_eq]) 0 rfl (by simp [rowsB]) ?_
  (repeat' first | with_reducible (first | refine Asm.intro fun _ => ?_ | refine Chk.g ?_ | refine AnyI.i64 fun _ _ => ?_ | refine LetW.g ?_ | refine LetW.h ?_ | refine Ite.t fun _ => ?_ | refine Ite.f fun _ => ?_ | refine Ite.decide (fun _ => ?_) fun _ => ?_ | refine Ite.bool (fun _ => ?_) fun _ => ?_ | refine And.intro ?_ ?_) | omega | simp (maxSteps := 1000000) only [go_sem, reduceCtorEq, Nat.reduceLT, Nat.reduceLeDiff, reduceIte, ↓reduceIte, Nat.reduceEqDiff, Nat.reduceAdd, Nat.reduceMul, Nat.reduceSub, Int.reduceLE, Int.reduceLT, Int.reduceNeg, Int.reduceToNat, List.length_map])
  refine VcLoop.run (fun i : Nat => ⟨103, [(36, .int .i64 i), (35, .int .i64 l.length), (34, .ro (bxs l)), (9, .own 0), (0, .ro (bxs l)), (1, .int .i64 ind), (2, .int .i64 gap), (999999, .dead)], paRows (paN l ind gap i), 2⟩) (fun i => i ≤ l.length) (fun i => l.length - i) 0 ?_ (Nat.zero_le _) fun i hi => ?_
  · unfold paRows
    refine Ent.auto0 rfl ?_ ?_ <;> simp only [go_sem, reduceCtorEq, reduceIte, Nat.reduceEqDiff, Nat.reduceLT, Nat.reduceLeDiff, Int.natCast_succ, paN, List.map_nil]
    all_goals simp
  obtain ⟨n1, n2, n3⟩ := paN_len l ind gap i
  have hcur := fun h => paN_cur l ind gap (i := i) h
  by_cases hlt : i < l.length
  · have hA := bx_elem l hlt
    have oA := hok _ (bx_mem hlt)
    have hstep : paN l ind gap (i + 1) = if newP l ind gap i then ⟨(paN l ind gap i).all, some [(i : Int)]⟩ else ⟨(paN l ind gap i).F, some ((paN l ind gap i).cur.getD [] ++ [(i : Int)])⟩ := rfl
    have hlf := leftB_bd hok l.length
    rw [List.take_length] at hlf
    have hnew : newP l ind gap i ↔ (i = 0 ∨ ind ≤ (l.getD i Bx.zero).x - leftB l ∨ gap < (l.getD i Bx.zero).y - ((l.getD (i - 1) Bx.zero).y + (l.getD (i - 1) Bx.zero).h)) := Iff.rfl
    have hle := leftB_eq hok hlt
    by_cases h0 : i = 0
    case pos =>
      subst h0
      rw [if_pos (hnew.2 (.inl rfl))] at hstep
      have ez : ((0 : Nat) : Int).toNat = 0 := rfl
      have e0 : paN l ind gap 0 = ⟨[], none⟩ := rfl
      rw [e0] at hstep ⊢
      unfold paRows
      have em : ((0 : Int) - 1).toNat = 0 := rfl
      have e11 : (((1 : Nat) : Int) - 1).toNat = 0 := rfl
      unfold BxOk at oA
      refine VcRun.of ?_
      generalize l.getD 0 Bx.zero = A at *
      (repeat' first | with_reducible (first | refine Asm.intro fun _ => ?_ | refine Chk.g ?_ | refine AnyI.i64 fun _ _ => ?_ | refine LetW.g ?_ | refine LetW.h ?_ | refine Ite.t fun _ => ?_ | refine Ite.f fun _ => ?_ | refine Ite.decide (fun _ => ?_) fun _ => ?_ | refine Ite.bool (fun _ => ?_) fun _ => ?_ | refine And.intro ?_ ?_) | omega | simp (maxSteps := 1000000) only [go_sem, reduceCtorEq, Nat.reduceLT, Nat.reduceLeDiff, reduceIte, ↓reduceIte, Nat.reduceEqDiff, Nat.reduceAdd, Nat.reduceMul, Nat.reduceSub, Int.reduceLE, Int.reduceLT, Int.reduceNeg, Int.reduceToNat, List.length_map, elemA, hA, Int.toNat_natCast, List.map_nil, Int.natCast_zero, em])
      refine VcLoop.intro (fun k : Nat => ⟨103, [(45, .int .i64 k), (44, .int .i64 l.length), (43, .ro (bxs l)), (12, .int .i64 (mnF Bx.x A.x (l.take k))), (11, .ptr 2 0), (10, .int .i64 0), (36, .int .i64 0), (35, .int .i64 l.length), (34, .ro (bxs l)), (9, .own 0), (0, .ro (bxs l)), (1, .int .i64 ind), (2, .int .i64 gap), (999999, .dead)], [(0, .row 53 (.objs 1 [])), (2, .box 32 [.int .i64 A.x, .int .i64 A.y, .int .i64 A.w, .int .i64 A.h])], 3⟩) (fun k => k ≤ l.length) (fun k => l.length - k) 0 ?_ (Nat.zero_le _) fun k hk => ?_
      · refine Ent.auto0 rfl ?_ ?_ <;> simp only [go_sem, reduceCtorEq, reduceIte, Nat.reduceEqDiff, Nat.reduceLT, Nat.reduceLeDiff, Int.natCast_succ, List.take_zero, mnF, List.foldl_nil]
        all_goals first | exact below_pl (by decide) | skip
        all_goals trace_state
      by_cases hkl : k < l.length
      · have hel := bx_elem l hkl
        have hts : mnF Bx.x A.x (l.take (k + 1)) = min (mnF Bx.x A.x (l.take k)) (l.getD k Bx.zero).x := by
          rw [bx_take hkl]; exact mnF_snoc _ _ _ _
        generalize l.getD k Bx.zero = b at *
        (repeat' first | with_reducible (first | refine Asm.intro fun _ => ?_ | refine Chk.g ?_ | refine AnyI.i64 fun _ _ => ?_ | refine LetW.g ?_ | refine LetW.h ?_ | refine Ite.t fun _ => ?_ | refine Ite.f fun _ => ?_ | refine Ite.decide (fun _ => ?_) fun _ => ?_ | refine Ite.bool (fun _ => ?_) fun _ => ?_ | refine And.intro ?_ ?_) | omega | simp (maxSteps := 1000000) only [go_sem, reduceCtorEq, Nat.reduceLT, Nat.reduceLeDiff, reduceIte, ↓reduceIte, Nat.reduceEqDiff, Nat.reduceAdd, Nat.reduceMul, Nat.reduceSub, Int.reduceLE, Int.reduceLT, Int.reduceNeg, Int.reduceToNat, List.length_map, elemA, hel, Int.toNat_natCast, minmax])
        refine ⟨k + 1, Ent.auto0 rfl ?_ ?_, by omega, by omega⟩ <;> simp only [go_sem, reduceCtorEq, reduceIte, Nat.reduceEqDiff, Nat.reduceLT, Nat.reduceLeDiff, Int.natCast_succ, hts]
        all_goals first | exact below_pl (by decide) | skip
        all_goals trace_state
      have ek : k = l.length := by omega
      subst ek
      rw [List.take_length, hle]
      (repeat' first | with_reducible (first | refine Asm.intro fun _ => ?_ | refine Chk.g ?_ | refine AnyI.i64 fun _ _ => ?_ | refine LetW.g ?_ | refine LetW.h ?_ | refine Ite.t fun _ => ?_ | refine Ite.f fun _ => ?_ | refine Ite.decide (fun _ => ?_) fun _ => ?_ | refine Ite.bool (fun _ => ?_) fun _ => ?_ | refine And.intro ?_ ?_) | omega | simp (maxSteps := 1000000) only [go_sem, reduceCtorEq, Nat.reduceLT, Nat.reduceLeDiff, reduceIte, ↓reduceIte, Nat.reduceEqDiff, Nat.reduceAdd, Nat.reduceMul, Nat.reduceSub, Int.reduceLE, Int.reduceLT, Int.reduceNeg, Int.reduceToNat, List.length_map, elemA, hA, Int.toNat_natCast, List.map_nil, Int.natCast_zero, em])
      refine VcDraw.lex [] [] (by kernel_rfl) (by kernel_rfl) ?_
      (repeat' first | with_reducible (first | refine Asm.intro fun _ => ?_ | refine Chk.g ?_ | refine AnyI.i64 fun _ _ => ?_ | refine LetW.g ?_ | refine LetW.h ?_ | refine Ite.t fun _ => ?_ | refine Ite.f fun _ => ?_ | refine Ite.decide (fun _ => ?_) fun _ => ?_ | refine Ite.bool (fun _ => ?_) fun _ => ?_ | refine And.intro ?_ ?_) | omega | simp (maxSteps := 1000000) only [go_sem, reduceCtorEq, Nat.reduceLT, Nat.reduceLeDiff, reduceIte, ↓reduceIte, Nat.reduceEqDiff, Nat.reduceAdd, Nat.reduceMul, Nat.reduceSub, Int.reduceLE, Int.reduceLT, Int.reduceNeg, Int.reduceToNat, List.length_map, elemA, hA, Int.toNat_natCast, List.map_nil, Int.natCast_zero, em, ez, e11, List.getD_cons_zero, List.set_cons_zero])
      refine ⟨0 + 1, ?_, by omega, by omega⟩
      rw [hstep]
      try unfold paRows
      dsimp only [Option.getD, PSt.all, Option.toList]
      refine Ent.of [(0, 4), (1, 7)] rfl (Nat.zero_le _) (by simp) ?_ ?_
      · simp only [go_sem, reduceCtorEq, reduceIte, Nat.reduceEqDiff, Nat.reduceLT, Nat.reduceLeDiff, Int.natCast_succ]
      · simp only [go_sem, reduceCtorEq, reduceIte, Nat.reduceEqDiff, Nat.reduceLT, Nat.reduceLeDiff, Int.natCast_succ, ren_pl, List.map_nil, List.nil_append, List.append_nil]
        all_goals first | exact below_pl (by decide) | exact ⟨rfl, rfl⟩ | skip
    obtain ⟨c, hc⟩ := hcur (by omega)
    have hB := bx_elem l (show i - 1 < l.length by omega)
    have oB := hok _ (bx_mem (show i - 1 < l.length by omega))
    have ei : ((i : Int) - 1).toNat = i - 1 := by omega
    generalize l.getD i Bx.zero = A at *
    generalize l.getD (i - 1) Bx.zero = B at *
    generalize paN l ind gap i = s at *
    obtain ⟨F, cur⟩ := s
    dsimp only at hc n2 n3 hstep
    subst hc
    have hcl : c.length ≤ i := n3
    unfold BxOk at oA oB
    by_cases hn : newP l ind gap i
    · rw [if_pos hn] at hstep
      have hn' := hnew.1 hn
      have e1 := last_p (F ++ [c]).length
      have hall : PSt.all ⟨F, some c⟩ = F ++ [c] := rfl
      rw [hall] at hstep
      refine VcRun.ent (Ent.trans (Ent.fz 1 (e := 3) (r := .ints .i64 c) rfl rfl (Nat.zero_le _)) (Ent.auto0 (s' := ⟨103, [(36, .int .i64 i), (35, .int .i64 l.length), (34, .ro (bxs l)), (9, .own 0), (0, .ro (bxs l)), (1, .int .i64 ind), (2, .int .i64 gap), (999999, .dead)], [(0, .row 53 (.objs 1 ((F ++ [c]).map gAv)))], 1⟩) rfl ?_ ?_)) (VcRun.of ?_)
      · unfold paRows
        simp only [go_sem, reduceCtorEq, reduceIte, Nat.reduceEqDiff, Nat.reduceLT, Nat.reduceLeDiff, Int.natCast_succ]
      · unfold paRows
        simp only [go_sem, reduceCtorEq, reduceIte, Nat.reduceEqDiff, Nat.reduceLT, Nat.reduceLeDiff, Int.natCast_succ, List.map_append, gAv]
        rw [List.map_map]
        rfl
      have hF2 : (F ++ [c]).length = F.length + 1 := by simp
      generalize F ++ [c] = F2 at *
      (repeat' first | with_reducible (first | refine Asm.intro fun _ => ?_ | refine Chk.g ?_ | refine AnyI.i64 fun _ _ => ?_ | refine LetW.g ?_ | refine LetW.h ?_ | refine Ite.t fun _ => ?_ | refine Ite.f fun _ => ?_ | refine Ite.decide (fun _ => ?_) fun _ => ?_ | refine Ite.bool (fun _ => ?_) fun _ => ?_ | refine And.intro ?_ ?_) | omega | simp (maxSteps := 1000000) only [go_sem, reduceCtorEq, Nat.reduceLT, Nat.reduceLeDiff, reduceIte, ↓reduceIte, Nat.reduceEqDiff, Nat.reduceAdd, Nat.reduceMul, Nat.reduceSub, Int.reduceLE, Int.reduceLT, Int.reduceNeg, Int.reduceToNat, List.length_map, elemA, hA, hB, Int.toNat_natCast, ei])
      refine VcLoop.intro (fun k : Nat => ⟨103, [(45, .int .i64 k), (44, .int .i64 l.length), (43, .ro (bxs l)), (12, .int .i64 (mnF Bx.x A.x (l.take k))), (11, .ptr 1 0), (10, .int .i64 i), (36, .int .i64 i), (35, .int .i64 l.length), (34, .ro (bxs l)), (9, .own 0), (0, .ro (bxs l)), (1, .int .i64 ind), (2, .int .i64 gap), (999999, .dead)], [(0, .row 53 (.objs 1 (F2.map gAv))), (1, .box 32 [.int .i64 A.x, .int .i64 A.y, .int .i64 A.w, .int .i64 A.h])], 2⟩) (fun k => k ≤ l.length) (fun k => l.length - k) 0 ?_ (Nat.zero_le _) fun k hk => ?_
      · refine Ent.auto0 rfl ?_ ?_ <;> simp only [go_sem, reduceCtorEq, reduceIte, Nat.reduceEqDiff, Nat.reduceLT, Nat.reduceLeDiff, Int.natCast_succ, List.take_zero, mnF, List.foldl_nil]
        all_goals first | exact below_pl (by decide) | skip
        all_goals trace_state
      by_cases hkl : k < l.length
      · have hel := bx_elem l hkl
        have hts : mnF Bx.x A.x (l.take (k + 1)) = min (mnF Bx.x A.x (l.take k)) (l.getD k Bx.zero).x := by
          rw [bx_take hkl]; exact mnF_snoc _ _ _ _
        generalize l.getD k Bx.zero = b at *
        (repeat' first | with_reducible (first | refine Asm.intro fun _ => ?_ | refine Chk.g ?_ | refine AnyI.i64 fun _ _ => ?_ | refine LetW.g ?_ | refine LetW.h ?_ | refine Ite.t fun _ => ?_ | refine Ite.f fun _ => ?_ | refine Ite.decide (fun _ => ?_) fun _ => ?_ | refine Ite.bool (fun _ => ?_) fun _ => ?_ | refine And.intro ?_ ?_) | omega | simp (maxSteps := 1000000) only [go_sem, reduceCtorEq, Nat.reduceLT, Nat.reduceLeDiff, reduceIte, ↓reduceIte, Nat.reduceEqDiff, Nat.reduceAdd, Nat.reduceMul, Nat.reduceSub, Int.reduceLE, Int.reduceLT, Int.reduceNeg, Int.reduceToNat, List.length_map, elemA, hel, Int.toNat_natCast, minmax])
        refine ⟨k + 1, Ent.auto0 rfl ?_ ?_, by omega, by omega⟩ <;> simp only [go_sem, reduceCtorEq, reduceIte, Nat.reduceEqDiff, Nat.reduceLT, Nat.reduceLeDiff, Int.natCast_succ, hts]
        all_goals first | exact below_pl (by decide) | skip
        all_goals trace_state
      have ek : k = l.length := by omega
      subst ek
      rw [List.take_length, hle]
      (repeat' first | with_reducible (first | refine Asm.intro fun _ => ?_ | refine Chk.g ?_ | refine AnyI.i64 fun _ _ => ?_ | refine LetW.g ?_ | refine LetW.h ?_ | refine Ite.t fun _ => ?_ | refine Ite.f fun _ => ?_ | refine Ite.decide (fun _ => ?_) fun _ => ?_ | refine Ite.bool (fun _ => ?_) fun _ => ?_ | refine And.intro ?_ ?_) | omega | simp (maxSteps := 1000000) only [go_sem, reduceCtorEq, Nat.reduceLT, Nat.reduceLeDiff, reduceIte, ↓reduceIte, Nat.reduceEqDiff, Nat.reduceAdd, Nat.reduceMul, Nat.reduceSub, Int.reduceLE, Int.reduceLT, Int.reduceNeg, Int.reduceToNat, List.length_map, elemA, hA, hB, Int.toNat_natCast, List.map_nil, Int.natCast_zero, ei])
      refine VcDraw.lex [] [] (by kernel_rfl) (by kernel_rfl) ?_
      (repeat' first | with_reducible (first | refine Asm.intro fun _ => ?_ | refine Chk.g ?_ | refine AnyI.i64 fun _ _ => ?_ | refine LetW.g ?_ | refine LetW.h ?_ | refine Ite.t fun _ => ?_ | refine Ite.f fun _ => ?_ | refine Ite.decide (fun _ => ?_) fun _ => ?_ | refine Ite.bool (fun _ => ?_) fun _ => ?_ | refine And.intro ?_ ?_) | omega | simp (maxSteps := 1000000) only [go_sem, reduceCtorEq, Nat.reduceLT, Nat.reduceLeDiff, reduceIte, ↓reduceIte, Nat.reduceEqDiff, Nat.reduceAdd, Nat.reduceMul, Nat.reduceSub, Int.reduceLE, Int.reduceLT, Int.reduceNeg, Int.reduceToNat, List.length_map, elemA, hA, hB, Int.toNat_natCast, ei, e1, pl_get, pl_set])
      refine ⟨i + 1, ?_, by omega, by omega⟩
      rw [hstep]
      try unfold paRows
      dsimp only [Option.getD, PSt.all, Option.toList]
      refine Ent.of [(0, 3), (1, 6)] rfl (Nat.zero_le _) (by simp) ?_ ?_
      · simp only [go_sem, reduceCtorEq, reduceIte, Nat.reduceEqDiff, Nat.reduceLT, Nat.reduceLeDiff, Int.natCast_succ]
      · simp only [go_sem, reduceCtorEq, reduceIte, Nat.reduceEqDiff, Nat.reduceLT, Nat.reduceLeDiff, Int.natCast_succ, ren_pl, List.map_nil, List.nil_append, List.append_nil]
        all_goals first | exact below_pl (by decide) | exact ⟨rfl, rfl⟩ | skip
    · rw [if_neg hn] at hstep
      have hn' := mt hnew.2 hn
      unfold paRows
      have e1 := last_p F.length
      refine VcRun.of ?_
      (repeat' first | with_reducible (first | refine Asm.intro fun _ => ?_ | refine Chk.g ?_ | refine AnyI.i64 fun _ _ => ?_ | refine LetW.g ?_ | refine LetW.h ?_ | refine Ite.t fun _ => ?_ | refine Ite.f fun _ => ?_ | refine Ite.decide (fun _ => ?_) fun _ => ?_ | refine Ite.bool (fun _ => ?_) fun _ => ?_ | refine And.intro ?_ ?_) | omega | simp (maxSteps := 1000000) only [go_sem, reduceCtorEq, Nat.reduceLT, Nat.reduceLeDiff, reduceIte, ↓reduceIte, Nat.reduceEqDiff, Nat.reduceAdd, Nat.reduceMul, Nat.reduceSub, Int.reduceLE, Int.reduceLT, Int.reduceNeg, Int.reduceToNat, List.length_map, elemA, hA, hB, Int.toNat_natCast, ei, e1, pl_get, pl_set])
      refine VcLoop.intro (fun k : Nat => ⟨103, [(45, .int .i64 k), (44, .int .i64 l.length), (43, .ro (bxs l)), (12, .int .i64 (mnF Bx.x A.x (l.take k))), (11, .ptr 2 0), (10, .int .i64 i), (36, .int .i64 i), (35, .int .i64 l.length), (34, .ro (bxs l)), (9, .own 0), (0, .ro (bxs l)), (1, .int .i64 ind), (2, .int .i64 gap), (999999, .dead)], [(0, .row 53 (.objs 1 (F.map gAv ++ [[.own 1]]))), (1, .row 3 (.ints .i64 c)), (2, .box 32 [.int .i64 A.x, .int .i64 A.y, .int .i64 A.w, .int .i64 A.h])], 3⟩) (fun k => k ≤ l.length) (fun k => l.length - k) 0 ?_ (Nat.zero_le _) fun k hk => ?_
      · refine Ent.same rfl (Nat.zero_le _) ?_ ?_ <;> simp only [go_sem, reduceCtorEq, reduceIte, Nat.reduceEqDiff, Nat.reduceLT, Nat.reduceLeDiff, Int.natCast_succ, List.take_zero, mnF, List.foldl_nil]
        all_goals first | exact below_pl (by decide) | skip
        all_goals trace_state
      by_cases hkl : k < l.length
      · have hel := bx_elem l hkl
        have hts : mnF Bx.x A.x (l.take (k + 1)) = min (mnF Bx.x A.x (l.take k)) (l.getD k Bx.zero).x := by
          rw [bx_take hkl]; exact mnF_snoc _ _ _ _
        generalize l.getD k Bx.zero = b at *
        (repeat' first | with_reducible (first | refine Asm.intro fun _ => ?_ | refine Chk.g ?_ | refine AnyI.i64 fun _ _ => ?_ | refine LetW.g ?_ | refine LetW.h ?_ | refine Ite.t fun _ => ?_ | refine Ite.f fun _ => ?_ | refine Ite.decide (fun _ => ?_) fun _ => ?_ | refine Ite.bool (fun _ => ?_) fun _ => ?_ | refine And.intro ?_ ?_) | omega | simp (maxSteps := 1000000) only [go_sem, reduceCtorEq, Nat.reduceLT, Nat.reduceLeDiff, reduceIte, ↓reduceIte, Nat.reduceEqDiff, Nat.reduceAdd, Nat.reduceMul, Nat.reduceSub, Int.reduceLE, Int.reduceLT, Int.reduceNeg, Int.reduceToNat, List.length_map, elemA, hel, Int.toNat_natCast, minmax])
        refine ⟨k + 1, Ent.same rfl (Nat.zero_le _) ?_ ?_, by omega, by omega⟩ <;> simp only [go_sem, reduceCtorEq, reduceIte, Nat.reduceEqDiff, Nat.reduceLT, Nat.reduceLeDiff, Int.natCast_succ, hts]
        all_goals first | exact below_pl (by decide) | skip
        all_goals trace_state
      have ek : k = l.length := by omega
      subst ek
      rw [List.take_length, hle]
      (repeat' first | with_reducible (first | refine Asm.intro fun _ => ?_ | refine Chk.g ?_ | refine AnyI.i64 fun _ _ => ?_ | refine LetW.g ?_ | refine LetW.h ?_ | refine Ite.t fun _ => ?_ | refine Ite.f fun _ => ?_ | refine Ite.decide (fun _ => ?_) fun _ => ?_ | refine Ite.bool (fun _ => ?_) fun _ => ?_ | refine And.intro ?_ ?_) | omega | simp (maxSteps := 1000000) only [go_sem, reduceCtorEq, Nat.reduceLT, Nat.reduceLeDiff, reduceIte, ↓reduceIte, Nat.reduceEqDiff, Nat.reduceAdd, Nat.reduceMul, Nat.reduceSub, Int.reduceLE, Int.reduceLT, Int.reduceNeg, Int.reduceToNat, List.length_map, elemA, hA, hB, Int.toNat_natCast, List.map_nil, Int.natCast_zero, ei, e1, pl_get, pl_set])
      refine VcDraw.lex [] [] (by kernel_rfl) (by kernel_rfl) ?_
      (repeat' first | with_reducible (first | refine Asm.intro fun _ => ?_ | refine Chk.g ?_ | refine AnyI.i64 fun _ _ => ?_ | refine LetW.g ?_ | refine LetW.h ?_ | refine Ite.t fun _ => ?_ | refine Ite.f fun _ => ?_ | refine Ite.decide (fun _ => ?_) fun _ => ?_ | refine Ite.bool (fun _ => ?_) fun _ => ?_ | refine And.intro ?_ ?_) | omega | simp (maxSteps := 1000000) only [go_sem, reduceCtorEq, Nat.reduceLT, Nat.reduceLeDiff, reduceIte, ↓reduceIte, Nat.reduceEqDiff, Nat.reduceAdd, Nat.reduceMul, Nat.reduceSub, Int.reduceLE, Int.reduceLT, Int.reduceNeg, Int.reduceToNat, List.length_map, elemA, hA, hB, Int.toNat_natCast, ei, e1, pl_get, pl_set])
      refine ⟨i + 1, ?_, by omega, by omega⟩
      rw [hstep]
      try unfold paRows
      dsimp only [Option.getD, PSt.all, Option.toList]
      refine Ent.of [(1, 4)] rfl (Nat.zero_le _) (by simp) ?_ ?_
      · simp only [go_sem, reduceCtorEq, reduceIte, Nat.reduceEqDiff, Nat.reduceLT, Nat.reduceLeDiff, Int.natCast_succ]
      · simp only [go_sem, reduceCtorEq, reduceIte, Nat.reduceEqDiff, Nat.reduceLT, Nat.reduceLeDiff, Int.natCast_succ, ren_pl, List.map_nil, List.nil_append, List.append_nil]
        all_goals first | exact below_pl (by decide) | exact ⟨rfl, rfl⟩ | skip
  · have e : i = l.length := by omega
    subst e
    by_cases h0 : l.length = 0
    · rw [h0]
      unfold paRows
      refine VcRun.of ?_
      (repeat' first | with_reducible (first | refine Asm.intro fun _ => ?_ | refine Chk.g ?_ | refine AnyI.i64 fun _ _ => ?_ | refine LetW.g ?_ | refine LetW.h ?_ | refine Ite.t fun _ => ?_ | refine Ite.f fun _ => ?_ | refine Ite.decide (fun _ => ?_) fun _ => ?_ | refine Ite.bool (fun _ => ?_) fun _ => ?_ | refine And.intro ?_ ?_) | omega | simp (maxSteps := 1000000) only [go_sem, reduceCtorEq, Nat.reduceLT, Nat.reduceLeDiff, reduceIte, ↓reduceIte, Nat.reduceEqDiff, Nat.reduceAdd, Nat.reduceMul, Nat.reduceSub, Int.reduceLE, Int.reduceLT, Int.reduceNeg, Int.reduceToNat, paN, List.map_nil])
      refine Ret.auto 1 ?_ rfl ?_ <;> simp only [go_sem, reduceCtorEq, reduceIte, Nat.reduceEqDiff, Nat.reduceLT, Nat.reduceLeDiff, Int.natCast_succ, Post, PSt.all, Option.toList, List.append_nil, List.map_nil]
    · obtain ⟨c, hc⟩ := hcur (by omega)
      generalize paN l ind gap l.length = s at *
      obtain ⟨F, cur⟩ := s
      dsimp only at hc
      subst hc
      have hall : PSt.all ⟨F, some c⟩ = F ++ [c] := rfl
      rw [hall]
      refine VcRun.ent (Ent.trans (Ent.fz 1 (e := 3) (r := .ints .i64 c) rfl rfl (Nat.zero_le _)) (Ent.auto0 (s' := ⟨103, [(36, .int .i64 l.length), (35, .int .i64 l.length), (34, .ro (bxs l)), (9, .own 0), (999999, .dead)], [(0, .row 53 (.objs 1 ((F ++ [c]).map gAv)))], 1⟩) rfl ?_ ?_)) (VcRun.of ?_)
      · unfold paRows
        simp only [go_sem, reduceCtorEq, reduceIte, Nat.reduceEqDiff, Nat.reduceLT, Nat.reduceLeDiff, Int.natCast_succ]
      · unfold paRows
        simp only [go_sem, reduceCtorEq, reduceIte, Nat.reduceEqDiff, Nat.reduceLT, Nat.reduceLeDiff, Int.natCast_succ, List.map_append, gAv]
        rw [List.map_map]
        rfl
      generalize F ++ [c] = F2 at *
      (repeat' first | with_reducible (first | refine Asm.intro fun _ => ?_ | refine Chk.g ?_ | refine AnyI.i64 fun _ _ => ?_ | refine LetW.g ?_ | refine LetW.h ?_ | refine Ite.t fun _ => ?_ | refine Ite.f fun _ => ?_ | refine Ite.decide (fun _ => ?_) fun _ => ?_ | refine Ite.bool (fun _ => ?_) fun _ => ?_ | refine And.intro ?_ ?_) | omega | simp (maxSteps := 1000000) only [go_sem, reduceCtorEq, Nat.reduceLT, Nat.reduceLeDiff, reduceIte, ↓reduceIte, Nat.reduceEqDiff, Nat.reduceAdd, Nat.reduceMul, Nat.reduceSub, Int.reduceLE, Int.reduceLT, Int.reduceNeg, Int.reduceToNat])
      refine Ret.auto 1 ?_ rfl ?_ <;> simp only [go_sem, reduceCtorEq, reduceIte, Nat.reduceEqDiff, Nat.reduceLT, Nat.reduceLeDiff, Int.natCast_succ, Post]
end Go.Fv.M
