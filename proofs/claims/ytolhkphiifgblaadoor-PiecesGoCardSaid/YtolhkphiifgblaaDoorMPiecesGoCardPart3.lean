/-
  A part of the proof of the claim: walks over the program's functions and the plain laws that these need. No condition of its own.
-/
import Derived.Test.YtolhkphiifgblaaDoorMPiecesGoCardPart2
import Derived.Test.YtolhkphiifgblaaDoorMPiecesGoCardPart1
import Derived.Test.YtolhkphiifgblaaDoorFvPart9
/- Boxes of pixels; regions that are chosen change: the walk. -/
namespace Go.Fv.M
open Go Go.Proofs
set_option linter.unusedSimpArgs false
set_option linter.unusedVariables false
set_option linter.unnecessarySimpa false
set_option maxRecDepth 8000

theorem take_snoc {l : List Int} {k : Nat} (h : k < l.length) : l.take (k + 1) = l.take k ++ [l.getD k 0] := by
  rw [List.take_succ_eq_append_getElem h, getD_lt h]
theorem InPg.take {w h : Nat} {l : List Int} (hb : InPg w h l) (k : Nat) : InPg w h (l.take k) := fun i hi => hb i (List.mem_of_mem_take hi)
theorem box_bd {w h : Nat} {l : List Int} (hb : InPg w h l) : (0 ≤ leftP w l ∧ leftP w l ≤ w) ∧ (0 ≤ topP w h l ∧ topP w h l ≤ h) ∧ (-1 ≤ rightP w l ∧ rightP w l ≤ w) ∧ (-1 ≤ botP w l ∧ botP w l ≤ h) := by
  have hbd := fun i hi => xy_bd' (hb i hi).1 (hb i hi).2
  have a1 := le_mnF (fun i => i % (w : Int)) l w
  have a2 := le_mnF (fun i => i / (w : Int)) l h
  have a3 := mxF_le (fun i => i % (w : Int)) l (-1)
  have a4 := mxF_le (fun i => i / (w : Int)) l (-1)
  change (∀ m, m ≤ leftP w l ↔ _) at a1
  change (∀ m, m ≤ topP w h l ↔ _) at a2
  change (∀ m, rightP w l ≤ m ↔ _) at a3
  change (∀ m, botP w l ≤ m ↔ _) at a4
  refine ⟨⟨(a1 0).2 ⟨by omega, fun i hi => (hbd i hi).1.1⟩, ((a1 _).1 (Int.le_refl _)).1⟩, ⟨(a2 0).2 ⟨by omega, fun i hi => (hbd i hi).2.1⟩, ((a2 _).1 (Int.le_refl _)).1⟩, ⟨((a3 _).1 (Int.le_refl _)).1, (a3 _).2 ⟨by omega, fun i hi => by have := (hbd i hi).1.2; (try dsimp only); omega⟩⟩, ⟨((a4 _).1 (Int.le_refl _)).1, (a4 _).2 ⟨by omega, fun i hi => by have := (hbd i hi).2.2; (try dsimp only); omega⟩⟩⟩
set_option maxHeartbeats 4000000 in
theorem boxOf_ok (w h : Nat) (hw : w ≤ 4000) (hh : h ≤ 4000) (hw1 : 1 ≤ w) (p : List Bool) (l : List Int) (hb : InPg w h l) :
    FnOk Tryd.prog 50 [.agg [.int .i64 w, .int .i64 h, .ro (.bools p)], .ro (.ints .i64 l)] (.agg (boxOf w h l).av) [] := by
  obtain ⟨⟨g1, g2⟩, ⟨g3, g4⟩, ⟨g5, g6⟩, ⟨g7, g8⟩⟩ := box_bd hb
  refine FnOk.of_vc Tryd.func50 rfl (by decide) (by simp [Tryd.f50]) [.cell 4 32] rfl fun w0 T0 _ => ?_
  simp only [Tryd.f50, argEnv]
  (repeat' first | with_reducible (first | refine Asm.intro fun _ => ?_ | refine Chk.g ?_ | refine AnyI.i64 fun _ _ => ?_ | refine LetW.g ?_ | refine LetW.h ?_ | refine Ite.t fun _ => ?_ | refine Ite.f fun _ => ?_ | refine Ite.decide (fun _ => ?_) fun _ => ?_ | refine Ite.bool (fun _ => ?_) fun _ => ?_ | refine And.intro ?_ ?_) | omega | simp (maxSteps := 1000000) only [go_sem, reduceCtorEq, Nat.reduceLT, Nat.reduceLeDiff, reduceIte, ↓reduceIte, Nat.reduceEqDiff, Nat.reduceAdd, Nat.reduceMul, Nat.reduceSub, Int.reduceLE, Int.reduceLT, Int.reduceNeg, Int.reduceToNat])
  refine VcDraw.lex [] [] (by kernel_rfl) (by kernel_rfl) ?_
  (repeat' first | with_reducible (first | refine Asm.intro fun _ => ?_ | refine Chk.g ?_ | refine AnyI.i64 fun _ _ => ?_ | refine LetW.g ?_ | refine LetW.h ?_ | refine Ite.t fun _ => ?_ | refine Ite.f fun _ => ?_ | refine Ite.decide (fun _ => ?_) fun _ => ?_ | refine Ite.bool (fun _ => ?_) fun _ => ?_ | refine And.intro ?_ ?_) | omega | simp (maxSteps := 1000000) only [go_sem, reduceCtorEq, Nat.reduceLT, Nat.reduceLeDiff, reduceIte, ↓reduceIte, Nat.reduceEqDiff, Nat.reduceAdd, Nat.reduceMul, Nat.reduceSub, Int.reduceLE, Int.reduceLT, Int.reduceNeg, Int.reduceToNat])
  refine VcLoop.intro (fun k : Nat => ⟨55, [(19, .int .i64 k), (18, .int .i64 l.length), (17, .ro (.ints .i64 l)), (5, .int .i64 (leftP w (l.take k))), (6, .int .i64 (topP w h (l.take k))), (7, .int .i64 (rightP w (l.take k))), (8, .int .i64 (botP w (l.take k))), (2, .ptr 0 0), (4, .ptr 1 0)], [(0, .box 24 [.int .i64 w, .int .i64 h, .ro (.bools p)]), (1, .box 32 [.int .i64 0, .int .i64 0, .int .i64 0, .int .i64 0])], 2⟩) (fun k => k ≤ l.length) (fun k => l.length - k) 0 ?_ (Nat.zero_le _) fun k hk => ?_
  · refine Ent.auto0 rfl ?_ ?_ <;> simp only [go_sem, reduceCtorEq, reduceIte, Nat.reduceEqDiff, Nat.reduceLT, Nat.reduceLeDiff, Int.natCast_succ, List.take_zero, leftP, topP, rightP, botP, mnF, mxF, List.foldl_nil]
  by_cases hlt : k < l.length
  · obtain ⟨b1, b2⟩ := hb _ (getD_mem hlt)
    have hts := take_snoc hlt
    have hx : (l.getD k 0).tmod w = l.getD k 0 % w := Int.tmod_eq_emod_of_nonneg b1
    have hy : (l.getD k 0).tdiv w = l.getD k 0 / w := Int.tdiv_eq_ediv_of_nonneg b1
    have hxy := xy_bd' b1 b2
    (repeat' first | with_reducible (first | refine Asm.intro fun _ => ?_ | refine Chk.g ?_ | refine AnyI.i64 fun _ _ => ?_ | refine LetW.g ?_ | refine LetW.h ?_ | refine Ite.t fun _ => ?_ | refine Ite.f fun _ => ?_ | refine Ite.decide (fun _ => ?_) fun _ => ?_ | refine Ite.bool (fun _ => ?_) fun _ => ?_ | refine And.intro ?_ ?_) | omega | simp (maxSteps := 1000000) only [go_sem, reduceCtorEq, Nat.reduceLT, Nat.reduceLeDiff, reduceIte, ↓reduceIte, Nat.reduceEqDiff, Nat.reduceAdd, Nat.reduceMul, Nat.reduceSub, Int.reduceLE, Int.reduceLT, Int.reduceNeg, Int.reduceToNat, Int.toNat_natCast])
    refine VcDraw.lex [] [] (by kernel_rfl) (by kernel_rfl) ?_
    (repeat' first | with_reducible (first | refine Asm.intro fun _ => ?_ | refine Chk.g ?_ | refine AnyI.i64 fun _ _ => ?_ | refine LetW.g ?_ | refine LetW.h ?_ | refine Ite.t fun _ => ?_ | refine Ite.f fun _ => ?_ | refine Ite.decide (fun _ => ?_) fun _ => ?_ | refine Ite.bool (fun _ => ?_) fun _ => ?_ | refine And.intro ?_ ?_) | omega | simp (maxSteps := 1000000) only [go_sem, reduceCtorEq, Nat.reduceLT, Nat.reduceLeDiff, reduceIte, ↓reduceIte, Nat.reduceEqDiff, Nat.reduceAdd, Nat.reduceMul, Nat.reduceSub, Int.reduceLE, Int.reduceLT, Int.reduceNeg, Int.reduceToNat, Int.toNat_natCast, hx, hy, minmax])
    refine ⟨k + 1, Ent.auto0 rfl ?_ ?_, by omega, by omega⟩ <;> simp only [go_sem, reduceCtorEq, reduceIte, Nat.reduceEqDiff, Nat.reduceLT, Nat.reduceLeDiff, Int.natCast_succ, hts, leftP, topP, rightP, botP, mnF_snoc, mxF_snoc]
  · have e : k = l.length := by omega
    subst e
    rw [List.take_length]
    (repeat' first | with_reducible (first | refine Asm.intro fun _ => ?_ | refine Chk.g ?_ | refine AnyI.i64 fun _ _ => ?_ | refine LetW.g ?_ | refine LetW.h ?_ | refine Ite.t fun _ => ?_ | refine Ite.f fun _ => ?_ | refine Ite.decide (fun _ => ?_) fun _ => ?_ | refine Ite.bool (fun _ => ?_) fun _ => ?_ | refine And.intro ?_ ?_) | omega | simp (maxSteps := 1000000) only [go_sem, reduceCtorEq, Nat.reduceLT, Nat.reduceLeDiff, reduceIte, ↓reduceIte, Nat.reduceEqDiff, Nat.reduceAdd, Nat.reduceMul, Nat.reduceSub, Int.reduceLE, Int.reduceLT, Int.reduceNeg, Int.reduceToNat])
    refine Ret.auto 0 ?_ rfl ?_ <;> simp only [go_sem, reduceCtorEq, reduceIte, Nat.reduceEqDiff, Nat.reduceLT, Nat.reduceLeDiff, Int.natCast_succ, Post, Bx.av, boxOf, List.drop_zero]
set_option maxHeartbeats 4000000 in
theorem atBorder_ok (w h : Nat) (hw : w ≤ 4000) (hh : h ≤ 4000) (p : List Bool) (b : Bx) (h1 : -10000 ≤ b.x ∧ b.x ≤ 10000 ∧ -10000 ≤ b.y ∧ b.y ≤ 10000 ∧ -10000 ≤ b.w ∧ b.w ≤ 10000 ∧ -10000 ≤ b.h ∧ b.h ≤ 10000) :
    FnOk Tryd.prog 78 [.agg [.int .i64 w, .int .i64 h, .ro (.bools p)], .agg b.av] (.bool (brdB w h b)) [] := by
  obtain ⟨x, y, a, c⟩ := b
  dsimp only at h1
  unfold Bx.av brdB
  refine FnOk.of_vc Tryd.func78 rfl (by decide) (by simp [Tryd.f78]) [.tmp 4] rfl fun w0 T0 _ => ?_
  simp only [Tryd.f78, argEnv]
  (repeat' first | with_reducible (first | refine Asm.intro fun _ => ?_ | refine Chk.g ?_ | refine AnyI.i64 fun _ _ => ?_ | refine LetW.g ?_ | refine LetW.h ?_ | refine Ite.t fun _ => ?_ | refine Ite.f fun _ => ?_ | refine Ite.decide (fun _ => ?_) fun _ => ?_ | refine Ite.bool (fun _ => ?_) fun _ => ?_ | refine And.intro ?_ ?_) | omega | simp (maxSteps := 1000000) only [go_sem, reduceCtorEq, Nat.reduceLT, Nat.reduceLeDiff, reduceIte, ↓reduceIte, Nat.reduceEqDiff, Nat.reduceAdd, Nat.reduceMul, Nat.reduceSub, Int.reduceLE, Int.reduceLT, Int.reduceNeg, Int.reduceToNat])
  refine Ret.auto 0 ?_ rfl ?_ <;> simp only [go_sem, reduceCtorEq, reduceIte, Nat.reduceEqDiff, Nat.reduceLT, Nat.reduceLeDiff, Int.natCast_succ, Post, or_assoc]
def BxBd (b : Bx) : Prop := -10000 ≤ b.x ∧ b.x ≤ 10000 ∧ -10000 ≤ b.y ∧ b.y ≤ 10000 ∧ -10000 ≤ b.w ∧ b.w ≤ 10000 ∧ -10000 ≤ b.h ∧ b.h ≤ 10000
theorem boxOf_bd {w h : Nat} (hw : w ≤ 4000) (hh : h ≤ 4000) {l : List Int} (hb : InPg w h l) : BxBd (boxOf w h l) := by
  obtain ⟨⟨g1, g2⟩, ⟨g3, g4⟩, ⟨g5, g6⟩, ⟨g7, g8⟩⟩ := box_bd hb
  unfold BxBd boxOf
  dsimp only
  omega
theorem specks1_ok (l : List Int) (b : Bx) (most : Int) :
    FnOk Tryd.prog 76 [.ro (.ints .i64 l), .agg b.av, .cell [.int .i64 most]] (.bool (speckB most l)) [] := by
  unfold Bx.av speckB
  refine FnOk.of_vc Tryd.func76 rfl (by decide) (by simp [Tryd.f76]) [.tmp 5] rfl fun w0 T0 _ => ?_
  simp only [Tryd.f76, argEnv]
  (repeat' first | with_reducible (first | refine Asm.intro fun _ => ?_ | refine Chk.g ?_ | refine AnyI.i64 fun _ _ => ?_ | refine LetW.g ?_ | refine LetW.h ?_ | refine Ite.t fun _ => ?_ | refine Ite.f fun _ => ?_ | refine Ite.decide (fun _ => ?_) fun _ => ?_ | refine Ite.bool (fun _ => ?_) fun _ => ?_ | refine And.intro ?_ ?_) | omega | simp (maxSteps := 1000000) only [go_sem, reduceCtorEq, Nat.reduceLT, Nat.reduceLeDiff, reduceIte, ↓reduceIte, Nat.reduceEqDiff, Nat.reduceAdd, Nat.reduceMul, Nat.reduceSub, Int.reduceLE, Int.reduceLT, Int.reduceNeg, Int.reduceToNat])
  refine Ret.auto 0 ?_ rfl ?_ <;> simp only [go_sem, reduceCtorEq, reduceIte, Nat.reduceEqDiff, Nat.reduceLT, Nat.reduceLeDiff, Int.natCast_succ, Post]
theorem holes1_ok (w h : Nat) (hw : w ≤ 4000) (hh : h ≤ 4000) (p : List Bool) (l : List Int) (hb : InPg w h l) (most : Int) :
    FnOk Tryd.prog 77 [.ro (.ints .i64 l), .agg (boxOf w h l).av, .cell [.int .i64 most], .cell [.int .i64 w, .int .i64 h, .ro (.bools p)]] (.bool (holeB w h most l)) [] := by
  have hbd := boxOf_bd hw hh hb
  unfold holeB
  generalize boxOf w h l = b at *
  have k := atBorder_ok w h hw hh p b hbd
  generalize brdB w h b = r at *
  obtain ⟨x, y, a, c⟩ := b
  unfold Bx.av at *
  refine FnOk.of_vc Tryd.func77 rfl (by decide) (by simp [Tryd.f77]) [.tmp 6] rfl fun w0 T0 _ => ?_
  simp only [Tryd.f77, argEnv]
  by_cases hle : (l.length : Int) ≤ most
  · (repeat' first | with_reducible (first | refine Asm.intro fun _ => ?_ | refine Chk.g ?_ | refine AnyI.i64 fun _ _ => ?_ | refine LetW.g ?_ | refine LetW.h ?_ | refine Ite.t fun _ => ?_ | refine Ite.f fun _ => ?_ | refine Ite.decide (fun _ => ?_) fun _ => ?_ | refine Ite.bool (fun _ => ?_) fun _ => ?_ | refine And.intro ?_ ?_) | omega | simp (maxSteps := 1000000) only [go_sem, reduceCtorEq, Nat.reduceLT, Nat.reduceLeDiff, reduceIte, ↓reduceIte, Nat.reduceEqDiff, Nat.reduceAdd, Nat.reduceMul, Nat.reduceSub, Int.reduceLE, Int.reduceLT, Int.reduceNeg, Int.reduceToNat, hle, decide_true])
    refine VcCall.fr (FnFr.of_ok k rfl rfl) (by simp only [noIdR_ok, argOkL, argOk, allOk, argOkN, List.drop_zero, lk, reduceIte, reduceCtorEq, Nat.reduceEqDiff, Option.some.injEq, Item.row.injEq, Item.box.injEq, AV.ro.injEq, exists_eq_left, exists_and_left, exists_eq_left', exists_eq_right, and_assoc, and_true, true_and, List.cons.injEq, exists_eq', exists_eq]) 0 rfl (by simp [rowsB]) ?_
    (repeat' first | with_reducible (first | refine Asm.intro fun _ => ?_ | refine Chk.g ?_ | refine AnyI.i64 fun _ _ => ?_ | refine LetW.g ?_ | refine LetW.h ?_ | refine Ite.t fun _ => ?_ | refine Ite.f fun _ => ?_ | refine Ite.decide (fun _ => ?_) fun _ => ?_ | refine Ite.bool (fun _ => ?_) fun _ => ?_ | refine And.intro ?_ ?_) | omega | simp (maxSteps := 1000000) only [go_sem, reduceCtorEq, Nat.reduceLT, Nat.reduceLeDiff, reduceIte, ↓reduceIte, Nat.reduceEqDiff, Nat.reduceAdd, Nat.reduceMul, Nat.reduceSub, Int.reduceLE, Int.reduceLT, Int.reduceNeg, Int.reduceToNat])
    refine Ret.auto 0 ?_ rfl ?_ <;> simp only [go_sem, reduceCtorEq, reduceIte, Nat.reduceEqDiff, Nat.reduceLT, Nat.reduceLeDiff, Int.natCast_succ, Post, hle, decide_true, Bool.true_and]
  · (repeat' first | with_reducible (first | refine Asm.intro fun _ => ?_ | refine Chk.g ?_ | refine AnyI.i64 fun _ _ => ?_ | refine LetW.g ?_ | refine LetW.h ?_ | refine Ite.t fun _ => ?_ | refine Ite.f fun _ => ?_ | refine Ite.decide (fun _ => ?_) fun _ => ?_ | refine Ite.bool (fun _ => ?_) fun _ => ?_ | refine And.intro ?_ ?_) | omega | simp (maxSteps := 1000000) only [go_sem, reduceCtorEq, Nat.reduceLT, Nat.reduceLeDiff, reduceIte, ↓reduceIte, Nat.reduceEqDiff, Nat.reduceAdd, Nat.reduceMul, Nat.reduceSub, Int.reduceLE, Int.reduceLT, Int.reduceNeg, Int.reduceToNat, hle, decide_false])
    refine Ret.auto 0 ?_ rfl ?_ <;> simp only [go_sem, reduceCtorEq, reduceIte, Nat.reduceEqDiff, Nat.reduceLT, Nat.reduceLeDiff, Int.natCast_succ, Post, hle, decide_false, Bool.false_and]
set_option maxHeartbeats 4000000 in
theorem border1_ok (w h : Nat) (hw : w ≤ 4000) (hh : h ≤ 4000) (p : List Bool) (l : List Int) (hb : InPg w h l) (most : Int) :
    FnOk Tryd.prog 79 [.ro (.ints .i64 l), .agg (boxOf w h l).av, .cell [.int .i64 most], .cell [.int .i64 w, .int .i64 h, .ro (.bools p)]] (.bool (borderB w h most l)) [] := by
  have hbd := boxOf_bd hw hh hb
  unfold borderB
  generalize boxOf w h l = b at *
  have k := atBorder_ok w h hw hh p b hbd
  generalize brdB w h b = r at *
  obtain ⟨x, y, a, c⟩ := b
  unfold BxBd at hbd
  dsimp only at hbd
  unfold nearB
  unfold Bx.av at *
  refine FnOk.of_vc Tryd.func79 rfl (by decide) (by simp [Tryd.f79]) [.tmp 6] rfl fun w0 T0 _ => ?_
  simp only [Tryd.f79, argEnv]
  (repeat' first | with_reducible (first | refine Asm.intro fun _ => ?_ | refine Chk.g ?_ | refine AnyI.i64 fun _ _ => ?_ | refine LetW.g ?_ | refine LetW.h ?_ | refine Ite.t fun _ => ?_ | refine Ite.f fun _ => ?_ | refine Ite.decide (fun _ => ?_) fun _ => ?_ | refine Ite.bool (fun _ => ?_) fun _ => ?_ | refine And.intro ?_ ?_) | omega | simp (maxSteps := 1000000) only [go_sem, reduceCtorEq, Nat.reduceLT, Nat.reduceLeDiff, reduceIte, ↓reduceIte, Nat.reduceEqDiff, Nat.reduceAdd, Nat.reduceMul, Nat.reduceSub, Int.reduceLE, Int.reduceLT, Int.reduceNeg, Int.reduceToNat])
  refine VcCall.fr (FnFr.of_ok k rfl rfl) (by simp only [noIdR_ok, argOkL, argOk, allOk, argOkN, List.drop_zero, lk, reduceIte, reduceCtorEq, Nat.reduceEqDiff, Option.some.injEq, Item.row.injEq, Item.box.injEq, AV.ro.injEq, exists_eq_left, exists_and_left, exists_eq_left', exists_eq_right, and_assoc, and_true, true_and, List.cons.injEq, exists_eq', exists_eq]) 0 rfl (by simp [rowsB]) ?_
  (repeat' first | with_reducible (first | refine Asm.intro fun _ => ?_ | refine Chk.g ?_ | refine AnyI.i64 fun _ _ => ?_ | refine LetW.g ?_ | refine LetW.h ?_ | refine Ite.t fun _ => ?_ | refine Ite.f fun _ => ?_ | refine Ite.decide (fun _ => ?_) fun _ => ?_ | refine Ite.bool (fun _ => ?_) fun _ => ?_ | refine And.intro ?_ ?_) | omega | simp (maxSteps := 1000000) only [go_sem, reduceCtorEq, Nat.reduceLT, Nat.reduceLeDiff, reduceIte, ↓reduceIte, Nat.reduceEqDiff, Nat.reduceAdd, Nat.reduceMul, Nat.reduceSub, Int.reduceLE, Int.reduceLT, Int.reduceNeg, Int.reduceToNat])
  all_goals refine Ret.auto 0 ?_ rfl ?_ <;> simp only [go_sem, reduceCtorEq, reduceIte, Nat.reduceEqDiff, Nat.reduceLT, Nat.reduceLeDiff, Int.natCast_succ, Post, or_assoc]
theorem changed1_ok (W H : Int) (p : List Bool) (i : Nat) (hi : i < p.length) :
    FnOk Tryd.prog 98 [.int .i64 i, .cell [.int .i64 W, .int .i64 H, .ro (.bools p)]] (.bool (p.getD i false)) [] := by
  refine FnOk.of_vc Tryd.func98 rfl (by decide) (by simp [Tryd.f98]) [.tmp 3] rfl fun w0 T0 _ => ?_
  simp only [Tryd.f98, argEnv]
  (repeat' first | with_reducible (first | refine Asm.intro fun _ => ?_ | refine Chk.g ?_ | refine AnyI.i64 fun _ _ => ?_ | refine LetW.g ?_ | refine LetW.h ?_ | refine Ite.t fun _ => ?_ | refine Ite.f fun _ => ?_ | refine Ite.decide (fun _ => ?_) fun _ => ?_ | refine Ite.bool (fun _ => ?_) fun _ => ?_ | refine And.intro ?_ ?_) | omega | simp (maxSteps := 1000000) only [go_sem, reduceCtorEq, Nat.reduceLT, Nat.reduceLeDiff, reduceIte, ↓reduceIte, Nat.reduceEqDiff, Nat.reduceAdd, Nat.reduceMul, Nat.reduceSub, Int.reduceLE, Int.reduceLT, Int.reduceNeg, Int.reduceToNat])
  refine Ret.auto 0 ?_ rfl ?_ <;> simp only [go_sem, reduceCtorEq, reduceIte, Nat.reduceEqDiff, Nat.reduceLT, Nat.reduceLeDiff, Int.natCast_succ, Post, Int.toNat_natCast]
theorem copyL (p : List Bool) {n : Nat} (h : p.length = n) : (List.range n).map (fun i => p.getD i false) = p := by
  subst h
  refine List.ext_getElem (by simp) fun k h1 h2 => ?_
  simp [h2]
set_option maxHeartbeats 8000000 in
theorem changed_err (w h : Nat) (hw1 : 1 ≤ w) (hw : w ≤ 1000) (hh1 : 1 ≤ h) (hh : h ≤ 1000) (p : List Bool) (hp : p.length = w * h) (ink cor : Bool) (f : Nat) (caps : List AV) [CapsOk caps] (most : Int) (hm : most < 0 ∨ 1048576 < most) :
    FnOk Tryd.prog 75 [.agg [.int .i64 w, .int .i64 h, .ro (.bools p)], .int .i64 most, .bool ink, .bool cor, .fn f caps] (.tup [.agg [.int .i64 0, .int .i64 0, .nilS], .int .i64 0, .int .i64 3]) [] := by
  refine FnOk.of_vc Tryd.func75 rfl (by decide) (by simp [Tryd.f75]) [.cell 10 24, .tmp 11, .tmp 12] rfl fun w0 T0 _ => ?_
  simp only [Tryd.f75, argEnv]
  (repeat' first | with_reducible (first | refine Asm.intro fun _ => ?_ | refine Chk.g ?_ | refine AnyI.i64 fun _ _ => ?_ | refine LetW.g ?_ | refine LetW.h ?_ | refine Ite.t fun _ => ?_ | refine Ite.f fun _ => ?_ | refine Ite.decide (fun _ => ?_) fun _ => ?_ | refine Ite.bool (fun _ => ?_) fun _ => ?_ | refine And.intro ?_ ?_) | omega | simp (maxSteps := 1000000) only [go_sem, reduceCtorEq, Nat.reduceLT, Nat.reduceLeDiff, reduceIte, ↓reduceIte, Nat.reduceEqDiff, Nat.reduceAdd, Nat.reduceMul, Nat.reduceSub, Int.reduceLE, Int.reduceLT, Int.reduceNeg, Int.reduceToNat])
  refine VcCall.fr (FnFr.of_ok (checkBits_ok w h p) rfl rfl) (by simp only [noIdR_ok, argOkL, argOk, allOk, argOkN, List.drop_zero, lk, reduceIte, reduceCtorEq, Nat.reduceEqDiff, Option.some.injEq, Item.row.injEq, Item.box.injEq, AV.ro.injEq, exists_eq_left, exists_and_left, exists_eq_left', exists_eq_right, and_assoc, and_true, true_and, List.cons.injEq, exists_eq', exists_eq]) 0 rfl (by simp [rowsB]) ?_
  rw [grayErr_ok hw1 hw hh1 hh hp]
  (repeat' first | with_reducible (first | refine Asm.intro fun _ => ?_ | refine Chk.g ?_ | refine AnyI.i64 fun _ _ => ?_ | refine LetW.g ?_ | refine LetW.h ?_ | refine Ite.t fun _ => ?_ | refine Ite.f fun _ => ?_ | refine Ite.decide (fun _ => ?_) fun _ => ?_ | refine Ite.bool (fun _ => ?_) fun _ => ?_ | refine And.intro ?_ ?_) | omega | simp (maxSteps := 1000000) only [go_sem, reduceCtorEq, Nat.reduceLT, Nat.reduceLeDiff, reduceIte, ↓reduceIte, Nat.reduceEqDiff, Nat.reduceAdd, Nat.reduceMul, Nat.reduceSub, Int.reduceLE, Int.reduceLT, Int.reduceNeg, Int.reduceToNat])
  refine Ret.auto 0 ?_ ?_ ?_ <;> simp only [go_sem, reduceCtorEq, reduceIte, Nat.reduceEqDiff, Nat.reduceLT, Nat.reduceLeDiff, Int.natCast_succ, Post, List.drop_zero]
set_option maxHeartbeats 8000000 in
theorem changed_ok (w h : Nat) (hw1 : 1 ≤ w) (hw : w ≤ 1000) (hh1 : 1 ≤ h) (hh : h ≤ 1000) (p : List Bool) (hp : p.length = w * h) (ink cor : Bool) (f : Nat) (caps : List AV) [CapsOk caps] (sel : List Int → Bool) (most : Int) (hm : 0 ≤ most ∧ most ≤ 1048576)
    (hsel : ∀ l, InPg w h l → FnFr Tryd.prog f ([.ro (.ints .i64 l), .agg (boxOf w h l).av] ++ caps) (.bool (sel l)) []) :
    FnOk Tryd.prog 75 [.agg [.int .i64 w, .int .i64 h, .ro (.bools p)], .int .i64 most, .bool ink, .bool cor, .fn f caps]
      (.tup [.agg [.int .i64 w, .int .i64 h, .own 0], .int .i64 (chgAll (!ink) sel p (pieces ⟨p, w, h, ink, cor⟩)).n, .int .i64 0]) [(0, .row 4 (.bools (chgAll (!ink) sel p (pieces ⟨p, w, h, ink, cor⟩)).p))] := by
  haveI c1 : CapsOk [.cell [.int .i64 w, .int .i64 h, .ro (.bools p)]] := ⟨rfl⟩
  have k1 := bits_ok w h (by omega) (by omega) 98 [.cell [.int .i64 w, .int .i64 h, .ro (.bools p)]] (fun i => p.getD i false) (fun i hi => FnFr.of_ok (changed1_ok w h p i (by omega)) rfl rfl)
  rw [copyL p hp] at k1
  have k2 := regions_ok w h hw1 hw hh1 hh p hp ink cor
  have hn : w * h ≤ 1000 * 1000 := Nat.mul_le_mul hw hh
  have hin : ∀ l, l ∈ pieces ⟨p, w, h, ink, cor⟩ → InPg w h l ∧ l.length ≤ w * h := fun l hl => by
    obtain ⟨j, hj, ho⟩ := pieces_ok _ l hl
    exact ⟨fun i hi => by have := ho.bd i hi; dsimp only at this; omega, ho.le⟩
  have hRl : (pieces ⟨p, w, h, ink, cor⟩).length ≤ w * h := pieces_len _
  generalize pieces ⟨p, w, h, ink, cor⟩ = R at *
  refine FnOk.of_vc Tryd.func75 rfl (by decide) (by simp [Tryd.f75]) [.cell 10 24, .tmp 11, .tmp 12] rfl fun w0 T0 _ => ?_
  simp only [Tryd.f75, argEnv]
  (repeat' first | with_reducible (first | refine Asm.intro fun _ => ?_ | refine Chk.g ?_ | refine AnyI.i64 fun _ _ => ?_ | refine LetW.g ?_ | refine LetW.h ?_ | refine Ite.t fun _ => ?_ | refine Ite.f fun _ => ?_ | refine Ite.decide (fun _ => ?_) fun _ => ?_ | refine Ite.bool (fun _ => ?_) fun _ => ?_ | refine And.intro ?_ ?_) | omega | simp (maxSteps := 1000000) only [go_sem, reduceCtorEq, Nat.reduceLT, Nat.reduceLeDiff, reduceIte, ↓reduceIte, Nat.reduceEqDiff, Nat.reduceAdd, Nat.reduceMul, Nat.reduceSub, Int.reduceLE, Int.reduceLT, Int.reduceNeg, Int.reduceToNat])
  refine VcCall.fr (FnFr.of_ok (checkBits_ok w h p) rfl rfl) (by simp only [noIdR_ok, argOkL, argOk, allOk, argOkN, List.drop_zero, lk, reduceIte, reduceCtorEq, Nat.reduceEqDiff, Option.some.injEq, Item.row.injEq, Item.box.injEq, AV.ro.injEq, exists_eq_left, exists_and_left, exists_eq_left', exists_eq_right, and_assoc, and_true, true_and, List.cons.injEq, exists_eq', exists_eq]) 0 rfl (by simp [rowsB]) ?_
  rw [grayErr_ok hw1 hw hh1 hh hp]
  (repeat' first | with_reducible (first | refine Asm.intro fun _ => ?_ | refine Chk.g ?_ | refine AnyI.i64 fun _ _ => ?_ | refine LetW.g ?_ | refine LetW.h ?_ | refine Ite.t fun _ => ?_ | refine Ite.f fun _ => ?_ | refine Ite.decide (fun _ => ?_) fun _ => ?_ | refine Ite.bool (fun _ => ?_) fun _ => ?_ | refine And.intro ?_ ?_) | omega | simp (maxSteps := 1000000) only [go_sem, reduceCtorEq, Nat.reduceLT, Nat.reduceLeDiff, reduceIte, ↓reduceIte, Nat.reduceEqDiff, Nat.reduceAdd, Nat.reduceMul, Nat.reduceSub, Int.reduceLE, Int.reduceLT, Int.reduceNeg, Int.reduceToNat])
  refine VcCall.fr (FnFr.of_ok k1 rfl rfl) (by simp only [noIdR_ok, argOkL, argOk, allOk, argOkN, List.drop_zero, lk, reduceIte, reduceCtorEq, Nat.reduceEqDiff, Option.some.injEq, Item.row.injEq, Item.box.injEq, AV.ro.injEq, exists_eq_left, exists_and_left, exists_eq_left', exists_eq_right, and_assoc, and_true, true_and, List.cons.injEq, exists_eq', exists_eq]) 1 rfl (by simp [rowsB, Item.below, Fv.below, belowL]) ?_
  (repeat' first | with_reducible (first | refine Asm.intro fun _ => ?_ | refine Chk.g ?_ | refine AnyI.i64 fun _ _ => ?_ | refine LetW.g ?_ | refine LetW.h ?_ | refine Ite.t fun _ => ?_ | refine Ite.f fun _ => ?_ | refine Ite.decide (fun _ => ?_) fun _ => ?_ | refine Ite.bool (fun _ => ?_) fun _ => ?_ | refine And.intro ?_ ?_) | omega | simp (maxSteps := 1000000) only [go_sem, reduceCtorEq, Nat.reduceLT, Nat.reduceLeDiff, reduceIte, ↓reduceIte, Nat.reduceEqDiff, Nat.reduceAdd, Nat.reduceMul, Nat.reduceSub, Int.reduceLE, Int.reduceLT, Int.reduceNeg, Int.reduceToNat])
  refine VcCall.ros (.ro (.objs 1 (R.map gAv))) k2 (by simp only [noIdR_ok, argOkL, argOk, allOk, argOkN, List.drop_zero, lk, reduceIte, reduceCtorEq, Nat.reduceEqDiff, Option.some.injEq, Item.row.injEq, Item.box.injEq, AV.ro.injEq, exists_eq_left, exists_and_left, exists_eq_left', exists_eq_right, and_assoc, and_true, true_and, List.cons.injEq, exists_eq', exists_eq]) (by simp [outOk, argOk, argOkN, lk, noIdR_ok]) rfl ?_
  (repeat' first | with_reducible (first | refine Asm.intro fun _ => ?_ | refine Chk.g ?_ | refine AnyI.i64 fun _ _ => ?_ | refine LetW.g ?_ | refine LetW.h ?_ | refine Ite.t fun _ => ?_ | refine Ite.f fun _ => ?_ | refine Ite.decide (fun _ => ?_) fun _ => ?_ | refine Ite.bool (fun _ => ?_) fun _ => ?_ | refine And.intro ?_ ?_) | omega | simp (maxSteps := 1000000) only [go_sem, reduceCtorEq, Nat.reduceLT, Nat.reduceLeDiff, reduceIte, ↓reduceIte, Nat.reduceEqDiff, Nat.reduceAdd, Nat.reduceMul, Nat.reduceSub, Int.reduceLE, Int.reduceLT, Int.reduceNeg, Int.reduceToNat])
  refine VcLoop.intro (fun k : Nat => ⟨72, [(44, .int .i64 k), (43, .int .i64 R.length), (42, .ro (.objs 1 (R.map gAv))), (15, .int .i64 (chgAll (!ink) sel p (R.take k)).n), (14, .ptr 2 0), (10, .ptr 1 0), (5, .ptr 0 0), (4, .fn f caps), (2, .bool ink)], [(0, .box 24 [.int .i64 w, .int .i64 h, .ro (.bools p)]), (1, .box 24 [.int .i64 0, .int .i64 0, .nilS]), (2, .box 24 [.int .i64 w, .int .i64 h, .own 3]), (3, .row 4 (.bools (chgAll (!ink) sel p (R.take k)).p))], 4⟩) (fun k => k ≤ R.length) (fun k => R.length - k) 0 ?_ (Nat.zero_le _) fun k hk => ?_
  · refine Ent.auto0 rfl ?_ ?_ <;> simp only [go_sem, reduceCtorEq, reduceIte, Nat.reduceEqDiff, Nat.reduceLT, Nat.reduceLeDiff, Int.natCast_succ, List.take_zero, chgAll, List.foldl_nil]
  by_cases hlt : k < R.length
  · have hel := g_elem R hlt
    have hts : R.take (k + 1) = R.take k ++ [R.getD k []] := by rw [List.take_succ_eq_append_getElem hlt, getD_lt hlt]
    obtain ⟨hb, hll⟩ := hin (R.getD k []) (by rw [getD_lt hlt]; exact List.getElem_mem hlt)
    have hcl := chgAll_len (!ink) sel p (R.take k)
    have hcs := chgAll_snoc (!ink) sel p (R.take k) (R.getD k [])
    rw [← hts] at hcs
    rw [List.length_take] at hcl
    generalize chgAll (!ink) sel p (R.take k) = C at *
    generalize R.getD k [] = l at *
    have ks := hsel l hb
    have kb := boxOf_ok w h (by omega) (by omega) hw1 p l hb
    generalize boxOf w h l = b at *
    unfold CS.step at hcs
    obtain ⟨P, n⟩ := C
    dsimp only at hcl hcs
    (repeat' first | with_reducible (first | refine Asm.intro fun _ => ?_ | refine Chk.g ?_ | refine AnyI.i64 fun _ _ => ?_ | refine LetW.g ?_ | refine LetW.h ?_ | refine Ite.t fun _ => ?_ | refine Ite.f fun _ => ?_ | refine Ite.decide (fun _ => ?_) fun _ => ?_ | refine Ite.bool (fun _ => ?_) fun _ => ?_ | refine And.intro ?_ ?_) | omega | simp (maxSteps := 1000000) only [go_sem, reduceCtorEq, Nat.reduceLT, Nat.reduceLeDiff, reduceIte, ↓reduceIte, Nat.reduceEqDiff, Nat.reduceAdd, Nat.reduceMul, Nat.reduceSub, Int.reduceLE, Int.reduceLT, Int.reduceNeg, Int.reduceToNat, elemA, hel])
    refine VcCall.fr (FnFr.of_ok kb rfl rfl) (by simp only [noIdR_ok, argOkL, argOk, allOk, argOkN, List.drop_zero, lk, reduceIte, reduceCtorEq, Nat.reduceEqDiff, Option.some.injEq, Item.row.injEq, Item.box.injEq, AV.ro.injEq, exists_eq_left, exists_and_left, exists_eq_left', exists_eq_right, and_assoc, and_true, true_and, List.cons.injEq, exists_eq', exists_eq]) 0 rfl (by simp [rowsB]) ?_
    unfold Bx.av at *
    (repeat' first | with_reducible (first | refine Asm.intro fun _ => ?_ | refine Chk.g ?_ | refine AnyI.i64 fun _ _ => ?_ | refine LetW.g ?_ | refine LetW.h ?_ | refine Ite.t fun _ => ?_ | refine Ite.f fun _ => ?_ | refine Ite.decide (fun _ => ?_) fun _ => ?_ | refine Ite.bool (fun _ => ?_) fun _ => ?_ | refine And.intro ?_ ?_) | omega | simp (maxSteps := 1000000) only [go_sem, reduceCtorEq, Nat.reduceLT, Nat.reduceLeDiff, reduceIte, ↓reduceIte, Nat.reduceEqDiff, Nat.reduceAdd, Nat.reduceMul, Nat.reduceSub, Int.reduceLE, Int.reduceLT, Int.reduceNeg, Int.reduceToNat, elemA, hel])
    refine VcCall.fr (args' := [.ro (.ints .i64 l), .agg [.int .i64 b.x, .int .i64 b.y, .int .i64 b.w, .int .i64 b.h]] ++ caps) ks (by simp [argOkL, allOk, argOkN, allOk_caps]) 0 rfl (by simp [rowsB]) ?_
    generalize sel l = sl at *
    cases sl
    · rw [if_neg (by decide)] at hcs
      (repeat' first | with_reducible (first | refine Asm.intro fun _ => ?_ | refine Chk.g ?_ | refine AnyI.i64 fun _ _ => ?_ | refine LetW.g ?_ | refine LetW.h ?_ | refine Ite.t fun _ => ?_ | refine Ite.f fun _ => ?_ | refine Ite.decide (fun _ => ?_) fun _ => ?_ | refine Ite.bool (fun _ => ?_) fun _ => ?_ | refine And.intro ?_ ?_) | omega | simp (maxSteps := 1000000) only [go_sem, reduceCtorEq, Nat.reduceLT, Nat.reduceLeDiff, reduceIte, ↓reduceIte, Nat.reduceEqDiff, Nat.reduceAdd, Nat.reduceMul, Nat.reduceSub, Int.reduceLE, Int.reduceLT, Int.reduceNeg, Int.reduceToNat])
      refine ⟨k + 1, Ent.auto0 rfl ?_ ?_, by omega, by omega⟩ <;> simp only [go_sem, reduceCtorEq, reduceIte, Nat.reduceEqDiff, Nat.reduceLT, Nat.reduceLeDiff, Int.natCast_succ, hcs]
    · rw [if_pos rfl] at hcs
      (repeat' first | with_reducible (first | refine Asm.intro fun _ => ?_ | refine Chk.g ?_ | refine AnyI.i64 fun _ _ => ?_ | refine LetW.g ?_ | refine LetW.h ?_ | refine Ite.t fun _ => ?_ | refine Ite.f fun _ => ?_ | refine Ite.decide (fun _ => ?_) fun _ => ?_ | refine Ite.bool (fun _ => ?_) fun _ => ?_ | refine And.intro ?_ ?_) | omega | simp (maxSteps := 1000000) only [go_sem, reduceCtorEq, Nat.reduceLT, Nat.reduceLeDiff, reduceIte, ↓reduceIte, Nat.reduceEqDiff, Nat.reduceAdd, Nat.reduceMul, Nat.reduceSub, Int.reduceLE, Int.reduceLT, Int.reduceNeg, Int.reduceToNat])
      refine VcLoop.intro (fun m : Nat => ⟨72, [(58, .int .i64 m), (57, .int .i64 l.length), (56, .ro (.ints .i64 l)), (44, .int .i64 k), (43, .int .i64 R.length), (42, .ro (.objs 1 (R.map gAv))), (15, .int .i64 (n + 1 : Nat)), (14, .ptr 2 0), (10, .ptr 1 0), (5, .ptr 0 0), (4, .fn f caps), (2, .bool ink)], [(0, .box 24 [.int .i64 w, .int .i64 h, .ro (.bools p)]), (1, .box 24 [.int .i64 0, .int .i64 0, .nilS]), (2, .box 24 [.int .i64 w, .int .i64 h, .own 3]), (3, .row 4 (.bools (chg (!ink) P (l.take m))))], 4⟩) (fun m => m ≤ l.length) (fun m => l.length - m) 0 ?_ (Nat.zero_le _) fun m hm => ?_
      · refine Ent.auto0 rfl ?_ ?_ <;> simp only [go_sem, reduceCtorEq, reduceIte, Nat.reduceEqDiff, Nat.reduceLT, Nat.reduceLeDiff, Int.natCast_succ, List.take_zero, chg, List.foldl_nil]
      by_cases hml : m < l.length
      · obtain ⟨b1, b2⟩ := hb _ (getD_mem hml)
        have hms := take_snoc hml
        have hpl := chg_len (!ink) (l.take m) P
        have hsn := chg_snoc (!ink) P (l.take m) (l.getD m 0)
        rw [← hms] at hsn
        (repeat' first | with_reducible (first | refine Asm.intro fun _ => ?_ | refine Chk.g ?_ | refine AnyI.i64 fun _ _ => ?_ | refine LetW.g ?_ | refine LetW.h ?_ | refine Ite.t fun _ => ?_ | refine Ite.f fun _ => ?_ | refine Ite.decide (fun _ => ?_) fun _ => ?_ | refine Ite.bool (fun _ => ?_) fun _ => ?_ | refine And.intro ?_ ?_) | omega | simp (maxSteps := 1000000) only [go_sem, reduceCtorEq, Nat.reduceLT, Nat.reduceLeDiff, reduceIte, ↓reduceIte, Nat.reduceEqDiff, Nat.reduceAdd, Nat.reduceMul, Nat.reduceSub, Int.reduceLE, Int.reduceLT, Int.reduceNeg, Int.reduceToNat, Int.toNat_natCast])
        refine ⟨m + 1, Ent.auto0 rfl ?_ ?_, by omega, by omega⟩ <;> simp only [go_sem, reduceCtorEq, reduceIte, Nat.reduceEqDiff, Nat.reduceLT, Nat.reduceLeDiff, Int.natCast_succ, hsn]
      · have e : m = l.length := by omega
        subst e
        rw [List.take_length]
        (repeat' first | with_reducible (first | refine Asm.intro fun _ => ?_ | refine Chk.g ?_ | refine AnyI.i64 fun _ _ => ?_ | refine LetW.g ?_ | refine LetW.h ?_ | refine Ite.t fun _ => ?_ | refine Ite.f fun _ => ?_ | refine Ite.decide (fun _ => ?_) fun _ => ?_ | refine Ite.bool (fun _ => ?_) fun _ => ?_ | refine And.intro ?_ ?_) | omega | simp (maxSteps := 1000000) only [go_sem, reduceCtorEq, Nat.reduceLT, Nat.reduceLeDiff, reduceIte, ↓reduceIte, Nat.reduceEqDiff, Nat.reduceAdd, Nat.reduceMul, Nat.reduceSub, Int.reduceLE, Int.reduceLT, Int.reduceNeg, Int.reduceToNat])
        refine ⟨k + 1, Ent.auto0 rfl ?_ ?_, by omega, by omega⟩ <;> simp only [go_sem, reduceCtorEq, reduceIte, Nat.reduceEqDiff, Nat.reduceLT, Nat.reduceLeDiff, Int.natCast_succ, hcs]
  · have e : k = R.length := by omega
    subst e
    rw [List.take_length]
    (repeat' first | with_reducible (first | refine Asm.intro fun _ => ?_ | refine Chk.g ?_ | refine AnyI.i64 fun _ _ => ?_ | refine LetW.g ?_ | refine LetW.h ?_ | refine Ite.t fun _ => ?_ | refine Ite.f fun _ => ?_ | refine Ite.decide (fun _ => ?_) fun _ => ?_ | refine Ite.bool (fun _ => ?_) fun _ => ?_ | refine And.intro ?_ ?_) | omega | simp (maxSteps := 1000000) only [go_sem, reduceCtorEq, Nat.reduceLT, Nat.reduceLeDiff, reduceIte, ↓reduceIte, Nat.reduceEqDiff, Nat.reduceAdd, Nat.reduceMul, Nat.reduceSub, Int.reduceLE, Int.reduceLT, Int.reduceNeg, Int.reduceToNat])
    refine Ret.auto 1 ?_ rfl ?_ <;> simp only [go_sem, reduceCtorEq, reduceIte, Nat.reduceEqDiff, Nat.reduceLT, Nat.reduceLeDiff, Int.natCast_succ, Post, List.drop_zero]
end Go.Fv.M

namespace Go.Fv.M
open Go Go.Proofs
set_option linter.unusedSimpArgs false
set_option linter.unusedVariables false
set_option maxRecDepth 8000
theorem cloneBools_ok (l : List Bool) (hl : l.length ≤ 137438953472) : FnOk Tryd.prog 99 [.ro (.bools l)] (.own 0) [(0, .row 4 (.bools l))] := by
  refine FnOk.of_vc Tryd.func99 rfl (by decide) (by simp [Tryd.f99]) [.tmp 2] rfl fun w0 T0 _ => ?_
  simp only [Tryd.f99, argEnv]
  (repeat' first | with_reducible (first | refine Asm.intro fun _ => ?_ | refine Chk.g ?_ | refine AnyI.i64 fun _ _ => ?_ | refine LetW.g ?_ | refine LetW.h ?_ | refine Ite.t fun _ => ?_ | refine Ite.f fun _ => ?_ | refine Ite.decide (fun _ => ?_) fun _ => ?_ | refine Ite.bool (fun _ => ?_) fun _ => ?_ | refine And.intro ?_ ?_) | omega | simp (maxSteps := 1000000) only [go_sem, reduceCtorEq, Nat.reduceLT, Nat.reduceLeDiff, reduceIte, ↓reduceIte, Nat.reduceEqDiff, Nat.reduceAdd, Nat.reduceMul, Nat.reduceSub, Int.reduceLE, Int.reduceLT, Int.reduceNeg, Int.reduceToNat])
  · rename_i h
    have : l = [] := List.eq_nil_of_length_eq_zero h
    refine Ret.auto 1 ?_ rfl ?_ <;> simp only [go_sem, reduceCtorEq, reduceIte, Nat.reduceEqDiff, Nat.reduceLT, Nat.reduceLeDiff, Int.natCast_succ, Post, this, zrow, List.replicate_zero]
  · refine Ret.auto 1 ?_ rfl ?_ <;> simp only [go_sem, reduceCtorEq, reduceIte, Nat.reduceEqDiff, Nat.reduceLT, Nat.reduceLeDiff, Int.natCast_succ, Post, zrow, List.replicate_zero]
end Go.Fv.M

namespace Go.Fv.M
open Go Go.Proofs
set_option linter.unusedSimpArgs false
set_option linter.unusedVariables false
set_option maxRecDepth 8000
/-- The first place where something holds, or -1. -/
def firstAt {α : Type} (q : α → Bool) : List α → Nat → Int
  | [], _ => -1
  | x :: l, i => if q x = true then i else firstAt q l (i + 1)
theorem firstAt_any {α : Type} (q : α → Bool) : ∀ (l : List α) (i : Nat), (0 ≤ firstAt q l i) ↔ l.any q = true
  | [], i => by simp [firstAt]
  | x :: l, i => by
    simp only [firstAt, List.any_cons]
    split
    · rename_i h; simp [h]
    · rename_i h; simp [h, firstAt_any q l (i + 1)]
theorem drop_at {α : Type} (l : List α) (d : α) {i : Nat} (h : i < l.length) : l.drop i = l.getD i d :: l.drop (i + 1) := by
  rw [List.drop_eq_getElem_cons h, getD_lt h]
end Go.Fv.M

/- slices.IndexFunc and ContainsFunc of integers. -/
namespace Go.Fv.M
open Go Go.Proofs
set_option linter.unusedSimpArgs false
set_option linter.unusedVariables false
set_option maxRecDepth 8000
set_option maxHeartbeats 1000000 in
theorem indexFuncI_ok (l : List Int) (f : Nat) (caps : List AV) [CapsOk caps] (q : Int → Bool) (hq : ∀ x : Int, x ∈ l → FnFr Tryd.prog f ([.int .i64 x] ++ caps) (.bool (q x)) []) :
    FnOk Tryd.prog 102 [.ro (.ints .i64 l), .fn f caps] (.int .i64 (firstAt q l 0)) [] := by
  refine FnOk.of_vc Tryd.func102 rfl (by decide) (by simp [Tryd.f102]) [.tmp 4] rfl fun w0 T0 _ => ?_
  simp only [Tryd.f102, argEnv]
  (repeat' first | with_reducible (first | refine Asm.intro fun _ => ?_ | refine Chk.g ?_ | refine AnyI.i64 fun _ _ => ?_ | refine LetW.g ?_ | refine LetW.h ?_ | refine Ite.t fun _ => ?_ | refine Ite.f fun _ => ?_ | refine Ite.decide (fun _ => ?_) fun _ => ?_ | refine Ite.bool (fun _ => ?_) fun _ => ?_ | refine And.intro ?_ ?_) | omega | simp (maxSteps := 1000000) only [go_sem, reduceCtorEq, Nat.reduceLT, Nat.reduceLeDiff, reduceIte, ↓reduceIte, Nat.reduceEqDiff, Nat.reduceAdd, Nat.reduceMul, Nat.reduceSub, Int.reduceLE, Int.reduceLT, Int.reduceNeg, Int.reduceToNat, List.length_map])
  refine VcLoop.intro (fun i : Nat => ⟨19, [(0, .ro (.ints .i64 l)), (1, .fn f caps), (7, .int .i64 l.length), (8, .int .i64 i)], [], 0⟩) (fun i => i ≤ l.length ∧ firstAt q (l.drop i) i = firstAt q l 0) (fun i => l.length - i) 0 ?_ ⟨Nat.zero_le _, rfl⟩ fun i hI => ?_
  · refine Ent.auto0 rfl ?_ ?_ <;> simp only [go_sem, reduceCtorEq, reduceIte, Nat.reduceEqDiff, Nat.reduceLT, Nat.reduceLeDiff, Int.natCast_succ]
  obtain ⟨hl, hI⟩ := hI
  by_cases hlt : i < l.length
  · have he := trivial
    have hd := drop_at l 0 hlt
    rw [hd, firstAt] at hI
    (repeat' first | with_reducible (first | refine Asm.intro fun _ => ?_ | refine Chk.g ?_ | refine AnyI.i64 fun _ _ => ?_ | refine LetW.g ?_ | refine LetW.h ?_ | refine Ite.t fun _ => ?_ | refine Ite.f fun _ => ?_ | refine Ite.decide (fun _ => ?_) fun _ => ?_ | refine Ite.bool (fun _ => ?_) fun _ => ?_ | refine And.intro ?_ ?_) | omega | simp (maxSteps := 1000000) only [go_sem, reduceCtorEq, Nat.reduceLT, Nat.reduceLeDiff, reduceIte, ↓reduceIte, Nat.reduceEqDiff, Nat.reduceAdd, Nat.reduceMul, Nat.reduceSub, Int.reduceLE, Int.reduceLT, Int.reduceNeg, Int.reduceToNat, List.length_map, true_and])
    refine VcCall.fr (args' := [.int .i64 (l.getD i 0)] ++ caps) (hq _ (by rw [getD_lt hlt]; exact List.getElem_mem hlt)) (by simp [argOkL, allOk, argOkN, allOk_caps]) 0 rfl (by simp [rowsB]) ?_
    (repeat' first | with_reducible (first | refine Asm.intro fun _ => ?_ | refine Chk.g ?_ | refine AnyI.i64 fun _ _ => ?_ | refine LetW.g ?_ | refine LetW.h ?_ | refine Ite.t fun _ => ?_ | refine Ite.f fun _ => ?_ | refine Ite.decide (fun _ => ?_) fun _ => ?_ | refine Ite.bool (fun _ => ?_) fun _ => ?_ | refine And.intro ?_ ?_) | omega | simp (maxSteps := 1000000) only [go_sem, reduceCtorEq, Nat.reduceLT, Nat.reduceLeDiff, reduceIte, ↓reduceIte, Nat.reduceEqDiff, Nat.reduceAdd, Nat.reduceMul, Nat.reduceSub, Int.reduceLE, Int.reduceLT, Int.reduceNeg, Int.reduceToNat])
    · rename_i h2
      rw [if_pos h2] at hI
      refine Ret.auto 0 ?_ rfl ?_ <;> simp only [go_sem, reduceCtorEq, reduceIte, Nat.reduceEqDiff, Nat.reduceLT, Nat.reduceLeDiff, Int.natCast_succ, Post]
      rw [← hI]
    · rename_i h2
      rw [if_neg (by rw [h2]; exact Bool.false_ne_true)] at hI
      refine ⟨i + 1, Ent.auto0 rfl ?_ ?_, ⟨by omega, hI⟩, by omega⟩ <;> simp only [go_sem, reduceCtorEq, reduceIte, Nat.reduceEqDiff, Nat.reduceLT, Nat.reduceLeDiff, Int.natCast_succ]
      all_goals rfl
  · have e : i = l.length := by omega
    subst e
    rw [List.drop_length] at hI
    (repeat' first | with_reducible (first | refine Asm.intro fun _ => ?_ | refine Chk.g ?_ | refine AnyI.i64 fun _ _ => ?_ | refine LetW.g ?_ | refine LetW.h ?_ | refine Ite.t fun _ => ?_ | refine Ite.f fun _ => ?_ | refine Ite.decide (fun _ => ?_) fun _ => ?_ | refine Ite.bool (fun _ => ?_) fun _ => ?_ | refine And.intro ?_ ?_) | omega | simp (maxSteps := 1000000) only [go_sem, reduceCtorEq, Nat.reduceLT, Nat.reduceLeDiff, reduceIte, ↓reduceIte, Nat.reduceEqDiff, Nat.reduceAdd, Nat.reduceMul, Nat.reduceSub, Int.reduceLE, Int.reduceLT, Int.reduceNeg, Int.reduceToNat, List.length_map])
    refine Ret.auto 0 ?_ rfl ?_ <;> simp only [go_sem, reduceCtorEq, reduceIte, Nat.reduceEqDiff, Nat.reduceLT, Nat.reduceLeDiff, Int.natCast_succ, Post]
    rw [← hI]; rfl

theorem contFuncI_ok (l : List Int) (f : Nat) (caps : List AV) [CapsOk caps] (q : Int → Bool) (hq : ∀ s : Int, s ∈ l → FnFr Tryd.prog f ([.int .i64 s] ++ caps) (.bool (q s)) []) :
    FnOk Tryd.prog 85 [.ro (.ints .i64 l), .fn f caps] (.bool (l.any q)) [] := by
  have k := indexFuncI_ok l f caps q hq
  have e : l.any q = decide (0 ≤ firstAt q l 0) := by rw [Bool.eq_iff_iff, decide_eq_true_eq, firstAt_any]
  rw [e]
  refine FnOk.of_vc Tryd.func85 rfl (by decide) (by simp [Tryd.f85]) [.tmp 4] rfl fun w0 T0 _ => ?_
  simp only [Tryd.f85, argEnv]
  (repeat' first | with_reducible (first | refine Asm.intro fun _ => ?_ | refine Chk.g ?_ | refine AnyI.i64 fun _ _ => ?_ | refine LetW.g ?_ | refine LetW.h ?_ | refine Ite.t fun _ => ?_ | refine Ite.f fun _ => ?_ | refine Ite.decide (fun _ => ?_) fun _ => ?_ | refine Ite.bool (fun _ => ?_) fun _ => ?_ | refine And.intro ?_ ?_) | omega | simp (maxSteps := 1000000) only [go_sem, reduceCtorEq, Nat.reduceLT, Nat.reduceLeDiff, reduceIte, ↓reduceIte, Nat.reduceEqDiff, Nat.reduceAdd, Nat.reduceMul, Nat.reduceSub, Int.reduceLE, Int.reduceLT, Int.reduceNeg, Int.reduceToNat])
  refine VcCall.fr (args' := [.ro (.ints .i64 l), .fn f caps]) (FnFr.of_ok k rfl rfl) (by simp [argOkL, allOk, argOkN, allOk_caps5]) 0 rfl (by simp [rowsB]) ?_
  (repeat' first | with_reducible (first | refine Asm.intro fun _ => ?_ | refine Chk.g ?_ | refine AnyI.i64 fun _ _ => ?_ | refine LetW.g ?_ | refine LetW.h ?_ | refine Ite.t fun _ => ?_ | refine Ite.f fun _ => ?_ | refine Ite.decide (fun _ => ?_) fun _ => ?_ | refine Ite.bool (fun _ => ?_) fun _ => ?_ | refine And.intro ?_ ?_) | omega | simp (maxSteps := 1000000) only [go_sem, reduceCtorEq, Nat.reduceLT, Nat.reduceLeDiff, reduceIte, ↓reduceIte, Nat.reduceEqDiff, Nat.reduceAdd, Nat.reduceMul, Nat.reduceSub, Int.reduceLE, Int.reduceLT, Int.reduceNeg, Int.reduceToNat])
  refine Ret.auto 0 ?_ rfl ?_ <;> simp only [go_sem, reduceCtorEq, reduceIte, Nat.reduceEqDiff, Nat.reduceLT, Nat.reduceLeDiff, Int.natCast_succ, Post]
end Go.Fv.M
