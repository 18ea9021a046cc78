/-
  A part of the proof of the claim: walks over the program's functions and the plain laws that these need. No condition of its own.
-/
import Derived.Test.YtingcghleidhmaaGreatDoorQLinesMatchCardPart2
import Derived.Test.YtingcghleidhmaaGreatDoorQLinesMatchCardPart4
import Derived.Test.YtingcghleidhmaaGreatDoorQLinesMatchCardPart1
import Derived.Test.YtingcghleidhmaaGreatDoorQLinesMatchCardPart3
/-! The reference's bounds of the ink of a page: the walk. -/
namespace Go.Fv.Q
open Go Go.Proofs
set_option linter.unusedSimpArgs false
set_option linter.unusedVariables false
set_option linter.unnecessarySimpa false
set_option maxRecDepth 8000

theorem firstAt_is {q : Int → Bool} : ∀ (l : List Int) (i k : Nat), k < l.length → (∀ j, j < k → q (l.getD j 0) = false) → q (l.getD k 0) = true → firstAt q l i = ((i + k : Nat) : Int)
  | x :: l, i, 0, _, _, h => by
    unfold firstAt; rw [if_pos (by simpa using h)]; simp
  | x :: l, i, k + 1, hk, hn, h => by
    have h0 := hn 0 (by omega)
    unfold firstAt
    rw [if_neg (by simp at h0; simp [h0])]
    rw [firstAt_is l (i + 1) k (by simpa using hk) (fun j hj => by have := hn (j + 1) (by omega); simpa using this) (by simpa using h)]
    congr 1; omega
theorem firstAt_not {q : Int → Bool} : ∀ (l : List Int) (i : Nat), (∀ x, x ∈ l → q x = false) → firstAt q l i = -1
  | [], _, _ => rfl
  | x :: l, i, h => by
    unfold firstAt
    rw [if_neg (by simp [h x (.head _)])]
    exact firstAt_not l (i + 1) fun y hy => h y (.tail _ hy)
def natL (g : Nat → Nat) (n : Nat) : List Int := (List.range n).map fun i => ((g i : Nat) : Int)
theorem natL_len (g : Nat → Nat) (n : Nat) : (natL g n).length = n := by simp [natL]
theorem natL_get (g : Nat → Nat) {n i : Nat} (h : i < n) : (natL g n).getD i 0 = g i := range_getD (fun i => ((g i : Nat) : Int)) h
theorem natL_succ (g : Nat → Nat) (n : Nat) : natL g (n + 1) = natL g n ++ [(g n : Int)] := by
  unfold natL; rw [List.range_succ, List.map_append]; rfl
theorem refCut1_ok (w h : Nat) (hw : w ≤ 4000) (hh : h ≤ 4000) (p : List Bool) (hp : p.length = w * h) (b : Nb) (hX : b.x + b.w ≤ w) (hY : b.y + b.h ≤ h) (x y : Nat) (hx : x < b.w) (hy : y < b.h) :
    FnOk Tryz.prog 67 [.int .i64 x, .int .i64 y, .cell [.int .i64 w, .int .i64 h, .ro (.bools p)], .cell b.av] (.bool (cutAt p w b.x b.y x y)) [] := by
  have k := refAt_ok w h hw hh p hp ((b.x + x : Nat) : Int) ((b.y + y : Nat) : Int)
  rw [atB_in p (by omega) (by omega)] at k
  rw [show cutAt p w b.x b.y x y = p.getD ((b.y + y) * w + (b.x + x)) false by unfold cutAt; rw [Nat.add_assoc]]
  generalize p.getD ((b.y + y) * w + (b.x + x)) false = q at *
  rw [Int.natCast_add, Int.natCast_add] at k
  unfold Nb.av
  refine FnOk.of_vc Tryz.func67 rfl (by decide) (by simp [Tryz.f67]) [.tmp 6] rfl fun w0 T0 _ => ?_
  simp only [Tryz.f67, argEnv]
  (repeat' first | with_reducible (first | refine Asm.intro fun _ => ?_ | refine Chk.g ?_ | refine AnyI.i64 fun _ _ => ?_ | refine LetW.g ?_ | refine LetW.h ?_ | refine Ite.t fun _ => ?_ | refine Ite.f fun _ => ?_ | refine Ite.decide (fun _ => ?_) fun _ => ?_ | refine Ite.bool (fun _ => ?_) fun _ => ?_ | refine And.intro ?_ ?_) | omega | simp (maxSteps := 1000000) only [go_sem, reduceCtorEq, Nat.reduceLT, Nat.reduceLeDiff, reduceIte, ↓reduceIte, Nat.reduceEqDiff, Nat.reduceAdd, Nat.reduceMul, Nat.reduceSub, Int.reduceLE, Int.reduceLT, Int.reduceNeg, Int.reduceToNat])
  refine VcCall.fr (FnFr.of_ok (k) rfl rfl) (by simp only [noIdR_ok, argOkL, argOk, allOk, argOkN, List.drop_zero, lk, reduceIte, reduceCtorEq, Nat.reduceEqDiff, Option.some.injEq, Item.row.injEq, Item.box.injEq, AV.ro.injEq, exists_eq_left, exists_and_left, exists_eq_left', exists_eq_right, and_assoc, and_true, true_and, List.cons.injEq, exists_eq', exists_eq]) 0 rfl (by simp [rowsB]) ?_
  (repeat' first | with_reducible (first | refine Asm.intro fun _ => ?_ | refine Chk.g ?_ | refine AnyI.i64 fun _ _ => ?_ | refine LetW.g ?_ | refine LetW.h ?_ | refine Ite.t fun _ => ?_ | refine Ite.f fun _ => ?_ | refine Ite.decide (fun _ => ?_) fun _ => ?_ | refine Ite.bool (fun _ => ?_) fun _ => ?_ | refine And.intro ?_ ?_) | omega | simp (maxSteps := 1000000) only [go_sem, reduceCtorEq, Nat.reduceLT, Nat.reduceLeDiff, reduceIte, ↓reduceIte, Nat.reduceEqDiff, Nat.reduceAdd, Nat.reduceMul, Nat.reduceSub, Int.reduceLE, Int.reduceLT, Int.reduceNeg, Int.reduceToNat])
  refine Ret.auto 0 ?_ rfl ?_ <;> simp only [go_sem, reduceCtorEq, reduceIte, Nat.reduceEqDiff, Nat.reduceLT, Nat.reduceLeDiff, Int.natCast_succ, Post]
def cutP (p : List Bool) (w : Nat) (b : Nb) : List Bool := rowsOf b.w (cutAt p w b.x b.y) (b.h * b.w)
instance (w h : Nat) (p : List Bool) (b : Nb) : CapsOk [.cell [.int .i64 w, .int .i64 h, .ro (.bools p)], .cell b.av] := ⟨by simp [Nb.av, lendB]⟩
set_option maxHeartbeats 2000000 in
theorem refCut_ok (w h : Nat) (hw : w ≤ 4000) (hh : h ≤ 4000) (p : List Bool) (hp : p.length = w * h) (b : Nb) (hX : b.x + b.w ≤ w) (hY : b.y + b.h ≤ h) :
    FnOk Tryz.prog 35 [.agg [.int .i64 w, .int .i64 h, .ro (.bools p)], .agg b.av] (.agg [.int .i64 b.w, .int .i64 b.h, .own 0]) [(0, .row 4 (.bools (cutP p w b)))] := by
  have k := made_ok b.w b.h (by omega) (by omega) 67 [.cell [.int .i64 w, .int .i64 h, .ro (.bools p)], .cell b.av] (cutAt p w b.x b.y) fun x y hx hy => FnFr.of_ok (refCut1_ok w h hw hh p hp b hX hY x y hx hy) rfl rfl
  unfold cutP
  generalize rowsOf b.w (cutAt p w b.x b.y) (b.h * b.w) = q at *
  obtain ⟨x, y, W, H⟩ := b
  unfold Nb.av at *
  dsimp only at *
  refine FnOk.of_vc Tryz.func35 rfl (by decide) (by simp [Tryz.f35]) [.cell 4 24] rfl fun w0 T0 _ => ?_
  simp only [Tryz.f35, argEnv]
  (repeat' first | with_reducible (first | refine Asm.intro fun _ => ?_ | refine Chk.g ?_ | refine AnyI.i64 fun _ _ => ?_ | refine LetW.g ?_ | refine LetW.h ?_ | refine Ite.t fun _ => ?_ | refine Ite.f fun _ => ?_ | refine Ite.decide (fun _ => ?_) fun _ => ?_ | refine Ite.bool (fun _ => ?_) fun _ => ?_ | refine And.intro ?_ ?_) | omega | simp (maxSteps := 1000000) only [go_sem, reduceCtorEq, Nat.reduceLT, Nat.reduceLeDiff, reduceIte, ↓reduceIte, Nat.reduceEqDiff, Nat.reduceAdd, Nat.reduceMul, Nat.reduceSub, Int.reduceLE, Int.reduceLT, Int.reduceNeg, Int.reduceToNat])
  refine VcCall.fr (FnFr.of_ok k rfl rfl) (by simp only [noIdR_ok, argOkL, argOk, allOk, argOkN, List.drop_zero, lk, reduceIte, reduceCtorEq, Nat.reduceEqDiff, Option.some.injEq, Item.row.injEq, Item.box.injEq, AV.ro.injEq, exists_eq_left, exists_and_left, exists_eq_left', exists_eq_right, and_assoc, and_true, true_and, List.cons.injEq, exists_eq', exists_eq]) 1 rfl (by simp [rowsB, Item.below, Fv.below, belowR]) ?_
  (repeat' first | with_reducible (first | refine Asm.intro fun _ => ?_ | refine Chk.g ?_ | refine AnyI.i64 fun _ _ => ?_ | refine LetW.g ?_ | refine LetW.h ?_ | refine Ite.t fun _ => ?_ | refine Ite.f fun _ => ?_ | refine Ite.decide (fun _ => ?_) fun _ => ?_ | refine Ite.bool (fun _ => ?_) fun _ => ?_ | refine And.intro ?_ ?_) | omega | simp (maxSteps := 1000000) only [go_sem, reduceCtorEq, Nat.reduceLT, Nat.reduceLeDiff, reduceIte, ↓reduceIte, Nat.reduceEqDiff, Nat.reduceAdd, Nat.reduceMul, Nat.reduceSub, Int.reduceLE, Int.reduceLT, Int.reduceNeg, Int.reduceToNat])
  refine Ret.auto 1 ?_ rfl ?_ <;> simp only [go_sem, reduceCtorEq, reduceIte, Nat.reduceEqDiff, Nat.reduceLT, Nat.reduceLeDiff, Int.natCast_succ, Post]
set_option maxHeartbeats 2000000 in
theorem columnsOf_ok (w h : Nat) (hw : w ≤ 4000) (hh : h ≤ 4000) (p : List Bool) (hp : p.length = w * h) :
    FnOk Tryz.prog 37 [.agg [.int .i64 w, .int .i64 h, .ro (.bools p)]] (.own 0) [(0, .row 3 (.ints .i64 (natL (fun i => inkN p w i 0 1 h) w)))] := by
  refine FnOk.of_vc Tryz.func37 rfl (by decide) (by simp [Tryz.f37]) [.tmp 2] rfl fun w0 T0 _ => ?_
  simp only [Tryz.f37, argEnv]
  (repeat' first | with_reducible (first | refine Asm.intro fun _ => ?_ | refine Chk.g ?_ | refine AnyI.i64 fun _ _ => ?_ | refine LetW.g ?_ | refine LetW.h ?_ | refine Ite.t fun _ => ?_ | refine Ite.f fun _ => ?_ | refine Ite.decide (fun _ => ?_) fun _ => ?_ | refine Ite.bool (fun _ => ?_) fun _ => ?_ | refine And.intro ?_ ?_) | omega | simp (maxSteps := 1000000) only [go_sem, reduceCtorEq, Nat.reduceLT, Nat.reduceLeDiff, reduceIte, ↓reduceIte, Nat.reduceEqDiff, Nat.reduceAdd, Nat.reduceMul, Nat.reduceSub, Int.reduceLE, Int.reduceLT, Int.reduceNeg, Int.reduceToNat])
  refine VcLoop.intro (fun i : Nat => ⟨21, [(7, .int .i64 i), (6, .int .i64 w), (3, .own 0), (1, .ptr 1 0)], [(0, .row 3 (.ints .i64 (natL (fun i => inkN p w i 0 1 h) i))), (1, .box 24 [.int .i64 w, .int .i64 h, .ro (.bools p)])], 2⟩) (fun i => i ≤ w) (fun i => w - i) 0 ?_ (Nat.zero_le _) fun i hi => ?_
  · refine Ent.auto0 rfl ?_ ?_ <;> simp only [go_sem, reduceCtorEq, reduceIte, Nat.reduceEqDiff, Nat.reduceLT, Nat.reduceLeDiff, Int.natCast_succ, natL, List.range_zero, List.map_nil]
  (repeat' first | with_reducible (first | refine Asm.intro fun _ => ?_ | refine Chk.g ?_ | refine AnyI.i64 fun _ _ => ?_ | refine LetW.g ?_ | refine LetW.h ?_ | refine Ite.t fun _ => ?_ | refine Ite.f fun _ => ?_ | refine Ite.decide (fun _ => ?_) fun _ => ?_ | refine Ite.bool (fun _ => ?_) fun _ => ?_ | refine And.intro ?_ ?_) | omega | simp (maxSteps := 1000000) only [go_sem, reduceCtorEq, Nat.reduceLT, Nat.reduceLeDiff, reduceIte, ↓reduceIte, Nat.reduceEqDiff, Nat.reduceAdd, Nat.reduceMul, Nat.reduceSub, Int.reduceLE, Int.reduceLT, Int.reduceNeg, Int.reduceToNat])
  · have k : FnOk Tryz.prog 16 [.agg [.int .i64 w, .int .i64 h, .ro (.bools p)], .agg [.int .i64 i, .int .i64 0, .int .i64 1, .int .i64 h]] (.int .i64 (inkN p w i 0 1 h)) [] := inkOf_ok w h i 0 1 h hw hh p hp (by omega) (by omega)
    have hs := natL_succ (fun i => inkN p w i 0 1 h) i
    have hll := natL_len (fun i => inkN p w i 0 1 h) i
    generalize inkN p w i 0 1 h = n at *
    refine VcCall.fr (FnFr.of_ok (k) rfl rfl) (by simp only [noIdR_ok, argOkL, argOk, allOk, argOkN, List.drop_zero, lk, reduceIte, reduceCtorEq, Nat.reduceEqDiff, Option.some.injEq, Item.row.injEq, Item.box.injEq, AV.ro.injEq, exists_eq_left, exists_and_left, exists_eq_left', exists_eq_right, and_assoc, and_true, true_and, List.cons.injEq, exists_eq', exists_eq]) 0 rfl (by simp [rowsB]) ?_
    generalize natL (fun i => inkN p w i 0 1 h) i = l at *
    (repeat' first | with_reducible (first | refine Asm.intro fun _ => ?_ | refine Chk.g ?_ | refine AnyI.i64 fun _ _ => ?_ | refine LetW.g ?_ | refine LetW.h ?_ | refine Ite.t fun _ => ?_ | refine Ite.f fun _ => ?_ | refine Ite.decide (fun _ => ?_) fun _ => ?_ | refine Ite.bool (fun _ => ?_) fun _ => ?_ | refine And.intro ?_ ?_) | omega | simp (maxSteps := 1000000) only [go_sem, reduceCtorEq, Nat.reduceLT, Nat.reduceLeDiff, reduceIte, ↓reduceIte, Nat.reduceEqDiff, Nat.reduceAdd, Nat.reduceMul, Nat.reduceSub, Int.reduceLE, Int.reduceLT, Int.reduceNeg, Int.reduceToNat])
    refine ⟨i + 1, Ent.auto0 rfl ?_ ?_, by omega, by omega⟩ <;> simp only [go_sem, reduceCtorEq, reduceIte, Nat.reduceEqDiff, Nat.reduceLT, Nat.reduceLeDiff, Int.natCast_succ, hs]
  · have e : i = w := by omega
    subst e
    refine Ret.auto 1 ?_ rfl ?_ <;> simp only [go_sem, reduceCtorEq, reduceIte, Nat.reduceEqDiff, Nat.reduceLT, Nat.reduceLeDiff, Int.natCast_succ, Post]
set_option maxHeartbeats 2000000 in
theorem rowsOfP_ok (w h : Nat) (hw : w ≤ 4000) (hh : h ≤ 4000) (p : List Bool) (hp : p.length = w * h) :
    FnOk Tryz.prog 34 [.agg [.int .i64 w, .int .i64 h, .ro (.bools p)]] (.own 0) [(0, .row 3 (.ints .i64 (natL (fun i => inkN p w 0 i w 1) h)))] := by
  refine FnOk.of_vc Tryz.func34 rfl (by decide) (by simp [Tryz.f34]) [.tmp 2] rfl fun w0 T0 _ => ?_
  simp only [Tryz.f34, argEnv]
  (repeat' first | with_reducible (first | refine Asm.intro fun _ => ?_ | refine Chk.g ?_ | refine AnyI.i64 fun _ _ => ?_ | refine LetW.g ?_ | refine LetW.h ?_ | refine Ite.t fun _ => ?_ | refine Ite.f fun _ => ?_ | refine Ite.decide (fun _ => ?_) fun _ => ?_ | refine Ite.bool (fun _ => ?_) fun _ => ?_ | refine And.intro ?_ ?_) | omega | simp (maxSteps := 1000000) only [go_sem, reduceCtorEq, Nat.reduceLT, Nat.reduceLeDiff, reduceIte, ↓reduceIte, Nat.reduceEqDiff, Nat.reduceAdd, Nat.reduceMul, Nat.reduceSub, Int.reduceLE, Int.reduceLT, Int.reduceNeg, Int.reduceToNat])
  refine VcLoop.intro (fun i : Nat => ⟨21, [(7, .int .i64 i), (6, .int .i64 h), (3, .own 0), (1, .ptr 1 0)], [(0, .row 3 (.ints .i64 (natL (fun i => inkN p w 0 i w 1) i))), (1, .box 24 [.int .i64 w, .int .i64 h, .ro (.bools p)])], 2⟩) (fun i => i ≤ h) (fun i => h - i) 0 ?_ (Nat.zero_le _) fun i hi => ?_
  · refine Ent.auto0 rfl ?_ ?_ <;> simp only [go_sem, reduceCtorEq, reduceIte, Nat.reduceEqDiff, Nat.reduceLT, Nat.reduceLeDiff, Int.natCast_succ, natL, List.range_zero, List.map_nil]
  (repeat' first | with_reducible (first | refine Asm.intro fun _ => ?_ | refine Chk.g ?_ | refine AnyI.i64 fun _ _ => ?_ | refine LetW.g ?_ | refine LetW.h ?_ | refine Ite.t fun _ => ?_ | refine Ite.f fun _ => ?_ | refine Ite.decide (fun _ => ?_) fun _ => ?_ | refine Ite.bool (fun _ => ?_) fun _ => ?_ | refine And.intro ?_ ?_) | omega | simp (maxSteps := 1000000) only [go_sem, reduceCtorEq, Nat.reduceLT, Nat.reduceLeDiff, reduceIte, ↓reduceIte, Nat.reduceEqDiff, Nat.reduceAdd, Nat.reduceMul, Nat.reduceSub, Int.reduceLE, Int.reduceLT, Int.reduceNeg, Int.reduceToNat])
  · have k : FnOk Tryz.prog 16 [.agg [.int .i64 w, .int .i64 h, .ro (.bools p)], .agg [.int .i64 0, .int .i64 i, .int .i64 w, .int .i64 1]] (.int .i64 (inkN p w 0 i w 1)) [] := inkOf_ok w h 0 i w 1 hw hh p hp (by omega) (by omega)
    have hs := natL_succ (fun i => inkN p w 0 i w 1) i
    have hll := natL_len (fun i => inkN p w 0 i w 1) i
    generalize inkN p w 0 i w 1 = n at *
    refine VcCall.fr (FnFr.of_ok (k) rfl rfl) (by simp only [noIdR_ok, argOkL, argOk, allOk, argOkN, List.drop_zero, lk, reduceIte, reduceCtorEq, Nat.reduceEqDiff, Option.some.injEq, Item.row.injEq, Item.box.injEq, AV.ro.injEq, exists_eq_left, exists_and_left, exists_eq_left', exists_eq_right, and_assoc, and_true, true_and, List.cons.injEq, exists_eq', exists_eq]) 0 rfl (by simp [rowsB]) ?_
    generalize natL (fun i => inkN p w 0 i w 1) i = l at *
    (repeat' first | with_reducible (first | refine Asm.intro fun _ => ?_ | refine Chk.g ?_ | refine AnyI.i64 fun _ _ => ?_ | refine LetW.g ?_ | refine LetW.h ?_ | refine Ite.t fun _ => ?_ | refine Ite.f fun _ => ?_ | refine Ite.decide (fun _ => ?_) fun _ => ?_ | refine Ite.bool (fun _ => ?_) fun _ => ?_ | refine And.intro ?_ ?_) | omega | simp (maxSteps := 1000000) only [go_sem, reduceCtorEq, Nat.reduceLT, Nat.reduceLeDiff, reduceIte, ↓reduceIte, Nat.reduceEqDiff, Nat.reduceAdd, Nat.reduceMul, Nat.reduceSub, Int.reduceLE, Int.reduceLT, Int.reduceNeg, Int.reduceToNat])
    refine ⟨i + 1, Ent.auto0 rfl ?_ ?_, by omega, by omega⟩ <;> simp only [go_sem, reduceCtorEq, reduceIte, Nat.reduceEqDiff, Nat.reduceLT, Nat.reduceLeDiff, Int.natCast_succ, hs]
  · have e : i = h := by omega
    subst e
    refine Ret.auto 1 ?_ rfl ?_ <;> simp only [go_sem, reduceCtorEq, reduceIte, Nat.reduceEqDiff, Nat.reduceLT, Nat.reduceLeDiff, Int.natCast_succ, Post]
theorem ends1_ok (n : Int) : FnOk Tryz.prog 121 [.int .i64 n] (.bool (decide (0 < n))) [] := by
  refine FnOk.of_vc Tryz.func121 rfl (by decide) (by simp [Tryz.f121]) [.tmp 2] rfl fun w0 T0 _ => ?_
  simp only [Tryz.f121, argEnv]
  (repeat' first | with_reducible (first | refine Asm.intro fun _ => ?_ | refine Chk.g ?_ | refine AnyI.i64 fun _ _ => ?_ | refine LetW.g ?_ | refine LetW.h ?_ | refine Ite.t fun _ => ?_ | refine Ite.f fun _ => ?_ | refine Ite.decide (fun _ => ?_) fun _ => ?_ | refine Ite.bool (fun _ => ?_) fun _ => ?_ | refine And.intro ?_ ?_) | omega | simp (maxSteps := 1000000) only [go_sem, reduceCtorEq, Nat.reduceLT, Nat.reduceLeDiff, reduceIte, ↓reduceIte, Nat.reduceEqDiff, Nat.reduceAdd, Nat.reduceMul, Nat.reduceSub, Int.reduceLE, Int.reduceLT, Int.reduceNeg, Int.reduceToNat])
  refine Ret.auto 0 ?_ rfl ?_ <;> simp only [go_sem, reduceCtorEq, reduceIte, Nat.reduceEqDiff, Nat.reduceLT, Nat.reduceLeDiff, Int.natCast_succ, Post]
theorem endsNo_ok (g : Nat → Nat) (n : Nat) (h0 : ∀ i, i < n → g i = 0) : FnOk Tryz.prog 97 [.ro (.ints .i64 (natL g n))] (.tup [.int .i64 0, .int .i64 0, .bool false]) [] := by
  haveI c1 : CapsOk [] := ⟨rfl⟩
  have k := indexFuncI_ok (natL g n) 121 [] (fun x => decide (0 < x)) fun x _ => FnFr.of_ok (ends1_ok x) rfl rfl
  rw [firstAt_not _ 0 (fun x hx => by
    unfold natL at hx
    obtain ⟨i, hi, rfl⟩ := List.mem_map.1 hx
    rw [h0 i (List.mem_range.1 hi)]; rfl)] at k
  generalize natL g n = l at *
  refine FnOk.of_vc Tryz.func97 rfl (by decide) (by simp [Tryz.f97]) [.tmp 2, .tmp 3, .tmp 4] rfl fun w0 T0 _ => ?_
  simp only [Tryz.f97, argEnv]
  (repeat' first | with_reducible (first | refine Asm.intro fun _ => ?_ | refine Chk.g ?_ | refine AnyI.i64 fun _ _ => ?_ | refine LetW.g ?_ | refine LetW.h ?_ | refine Ite.t fun _ => ?_ | refine Ite.f fun _ => ?_ | refine Ite.decide (fun _ => ?_) fun _ => ?_ | refine Ite.bool (fun _ => ?_) fun _ => ?_ | refine And.intro ?_ ?_) | omega | simp (maxSteps := 1000000) only [go_sem, reduceCtorEq, Nat.reduceLT, Nat.reduceLeDiff, reduceIte, ↓reduceIte, Nat.reduceEqDiff, Nat.reduceAdd, Nat.reduceMul, Nat.reduceSub, Int.reduceLE, Int.reduceLT, Int.reduceNeg, Int.reduceToNat])
  refine VcCall.fr (FnFr.of_ok (k) rfl rfl) (by simp only [noIdR_ok, argOkL, argOk, allOk, argOkN, List.drop_zero, lk, reduceIte, reduceCtorEq, Nat.reduceEqDiff, Option.some.injEq, Item.row.injEq, Item.box.injEq, AV.ro.injEq, exists_eq_left, exists_and_left, exists_eq_left', exists_eq_right, and_assoc, and_true, true_and, List.cons.injEq, exists_eq', exists_eq]) 0 rfl (by simp [rowsB]) ?_
  (repeat' first | with_reducible (first | refine Asm.intro fun _ => ?_ | refine Chk.g ?_ | refine AnyI.i64 fun _ _ => ?_ | refine LetW.g ?_ | refine LetW.h ?_ | refine Ite.t fun _ => ?_ | refine Ite.f fun _ => ?_ | refine Ite.decide (fun _ => ?_) fun _ => ?_ | refine Ite.bool (fun _ => ?_) fun _ => ?_ | refine And.intro ?_ ?_) | omega | simp (maxSteps := 1000000) only [go_sem, reduceCtorEq, Nat.reduceLT, Nat.reduceLeDiff, reduceIte, ↓reduceIte, Nat.reduceEqDiff, Nat.reduceAdd, Nat.reduceMul, Nat.reduceSub, Int.reduceLE, Int.reduceLT, Int.reduceNeg, Int.reduceToNat])
  refine Ret.auto 0 ?_ rfl ?_ <;> simp only [go_sem, reduceCtorEq, reduceIte, Nat.reduceEqDiff, Nat.reduceLT, Nat.reduceLeDiff, Int.natCast_succ, Post]
set_option maxHeartbeats 2000000 in
theorem ends_ok (g : Nat → Nat) (n f l : Nat) (he : EndsAt g n f l) (hn : n ≤ 4000) : FnOk Tryz.prog 97 [.ro (.ints .i64 (natL g n))] (.tup [.int .i64 f, .int .i64 l, .bool true]) [] := by
  haveI c1 : CapsOk [] := ⟨rfl⟩
  have h1 := he.fl
  have h2 := he.ln
  have hll := natL_len g n
  have k := indexFuncI_ok (natL g n) 121 [] (fun x => decide (0 < x)) fun x _ => FnFr.of_ok (ends1_ok x) rfl rfl
  rw [firstAt_is (natL g n) 0 f (by omega) (fun j hj => by rw [natL_get g (by omega), he.lo j hj]; rfl) (by rw [natL_get g (by omega)]; have := he.atf; exact decide_eq_true (by omega)), Nat.zero_add] at k
  have hg : ∀ i, i < n → (natL g n).getD i 0 = g i := fun i hi => natL_get g hi
  generalize natL g n = L at *
  refine FnOk.of_vc Tryz.func97 rfl (by decide) (by simp [Tryz.f97]) [.tmp 2, .tmp 3, .tmp 4] rfl fun w0 T0 _ => ?_
  simp only [Tryz.f97, argEnv]
  (repeat' first | with_reducible (first | refine Asm.intro fun _ => ?_ | refine Chk.g ?_ | refine AnyI.i64 fun _ _ => ?_ | refine LetW.g ?_ | refine LetW.h ?_ | refine Ite.t fun _ => ?_ | refine Ite.f fun _ => ?_ | refine Ite.decide (fun _ => ?_) fun _ => ?_ | refine Ite.bool (fun _ => ?_) fun _ => ?_ | refine And.intro ?_ ?_) | omega | simp (maxSteps := 1000000) only [go_sem, reduceCtorEq, Nat.reduceLT, Nat.reduceLeDiff, reduceIte, ↓reduceIte, Nat.reduceEqDiff, Nat.reduceAdd, Nat.reduceMul, Nat.reduceSub, Int.reduceLE, Int.reduceLT, Int.reduceNeg, Int.reduceToNat])
  refine VcCall.fr (FnFr.of_ok (k) rfl rfl) (by simp only [noIdR_ok, argOkL, argOk, allOk, argOkN, List.drop_zero, lk, reduceIte, reduceCtorEq, Nat.reduceEqDiff, Option.some.injEq, Item.row.injEq, Item.box.injEq, AV.ro.injEq, exists_eq_left, exists_and_left, exists_eq_left', exists_eq_right, and_assoc, and_true, true_and, List.cons.injEq, exists_eq', exists_eq]) 0 rfl (by simp [rowsB]) ?_
  (repeat' first | with_reducible (first | refine Asm.intro fun _ => ?_ | refine Chk.g ?_ | refine AnyI.i64 fun _ _ => ?_ | refine LetW.g ?_ | refine LetW.h ?_ | refine Ite.t fun _ => ?_ | refine Ite.f fun _ => ?_ | refine Ite.decide (fun _ => ?_) fun _ => ?_ | refine Ite.bool (fun _ => ?_) fun _ => ?_ | refine And.intro ?_ ?_) | omega | simp (maxSteps := 1000000) only [go_sem, reduceCtorEq, Nat.reduceLT, Nat.reduceLeDiff, reduceIte, ↓reduceIte, Nat.reduceEqDiff, Nat.reduceAdd, Nat.reduceMul, Nat.reduceSub, Int.reduceLE, Int.reduceLT, Int.reduceNeg, Int.reduceToNat])
  refine VcLoop.intro (fun i : Nat => ⟨23, [(0, .ro (.ints .i64 L)), (5, .int .i64 f), (6, .int .i64 i)], [], 0⟩) (fun i => l ≤ i ∧ i < n) (fun i => i) (n - 1) ?_ ⟨by omega, by omega⟩ fun i hi => ?_
  · refine Ent.auto0 rfl ?_ ?_ <;> simp only [go_sem, reduceCtorEq, reduceIte, Nat.reduceEqDiff, Nat.reduceLT, Nat.reduceLeDiff, Int.natCast_succ]
    omega
  obtain ⟨hi1, hi2⟩ := hi
  have e := hg i hi2
  by_cases hil : i = l
  · subst hil
    have hne := he.atl
    (repeat' first | with_reducible (first | refine Asm.intro fun _ => ?_ | refine Chk.g ?_ | refine AnyI.i64 fun _ _ => ?_ | refine LetW.g ?_ | refine LetW.h ?_ | refine Ite.t fun _ => ?_ | refine Ite.f fun _ => ?_ | refine Ite.decide (fun _ => ?_) fun _ => ?_ | refine Ite.bool (fun _ => ?_) fun _ => ?_ | refine And.intro ?_ ?_) | omega | simp (maxSteps := 1000000) only [go_sem, reduceCtorEq, Nat.reduceLT, Nat.reduceLeDiff, reduceIte, ↓reduceIte, Nat.reduceEqDiff, Nat.reduceAdd, Nat.reduceMul, Nat.reduceSub, Int.reduceLE, Int.reduceLT, Int.reduceNeg, Int.reduceToNat, Int.toNat_natCast, e])
    refine Ret.auto 0 ?_ rfl ?_ <;> simp only [go_sem, reduceCtorEq, reduceIte, Nat.reduceEqDiff, Nat.reduceLT, Nat.reduceLeDiff, Int.natCast_succ, Post]
  · have hz := he.hi i (by omega) hi2
    rw [hz] at e
    (repeat' first | with_reducible (first | refine Asm.intro fun _ => ?_ | refine Chk.g ?_ | refine AnyI.i64 fun _ _ => ?_ | refine LetW.g ?_ | refine LetW.h ?_ | refine Ite.t fun _ => ?_ | refine Ite.f fun _ => ?_ | refine Ite.decide (fun _ => ?_) fun _ => ?_ | refine Ite.bool (fun _ => ?_) fun _ => ?_ | refine And.intro ?_ ?_) | omega | simp (maxSteps := 1000000) only [go_sem, reduceCtorEq, Nat.reduceLT, Nat.reduceLeDiff, reduceIte, ↓reduceIte, Nat.reduceEqDiff, Nat.reduceAdd, Nat.reduceMul, Nat.reduceSub, Int.reduceLE, Int.reduceLT, Int.reduceNeg, Int.reduceToNat, Int.toNat_natCast, e])
    refine ⟨i - 1, Ent.auto0 rfl ?_ ?_, ⟨by omega, by omega⟩, by omega⟩ <;> simp only [go_sem, reduceCtorEq, reduceIte, Nat.reduceEqDiff, Nat.reduceLT, Nat.reduceLeDiff, Int.natCast_succ]
    omega
end Go.Fv.Q

/-! The reference's stretches of lines: the walk. -/
namespace Go.Fv.Q
open Go Go.Proofs
set_option linter.unusedSimpArgs false
set_option linter.unusedVariables false
set_option linter.unnecessarySimpa false
set_option maxRecDepth 8000

def peAv (t : Nat × Nat) : List AV := [.int .i64 t.1, .int .i64 t.2]
instance : FNoId peAv := ⟨fun _ => rfl⟩
def peR (l : List (Nat × Nat)) : RowV := .objs 2 (l.map peAv)
theorem pe_elem (l : List (Nat × Nat)) {i : Nat} (h : i < l.length) : (l.map peAv).getD i [] = [.int .i64 (l.getD i (0, 0)).1, .int .i64 (l.getD i (0, 0)).2] := by
  rw [getD_lt (by simpa using h), getD_lt h, List.getElem_map]; rfl
def RfB (i : Nat) (l : List (Nat × Nat)) : Prop := ∀ t, t ∈ l → t.1 ≤ i ∧ t.2 ≤ i
theorem rfB_step {gap i : Nat} {out : List (Nat × Nat)} (h : RfB i out) : RfB (i + 1) (jnE gap out (i, 1)) ∧ (jnE gap out (i, 1)).length ≤ out.length + 1 := by
  rcases List.eq_nil_or_concat out with rfl | ⟨o, t, rfl⟩
  · rw [jnE_nil]
    refine ⟨fun t ht => ?_, by simp⟩
    rw [List.mem_singleton] at ht; subst ht
    unfold toE; dsimp only; omega
  · rw [List.concat_eq_append] at h ⊢
    have ht := h t (by simp)
    have up : ∀ u : Nat × Nat, u.1 ≤ i ∧ u.2 ≤ i → u.1 ≤ i + 1 ∧ u.2 ≤ i + 1 := fun u h => by omega
    rw [jnE_snoc]
    split
    · refine ⟨fun u hu => ?_, by simp⟩
      rcases List.mem_append.1 hu with hu | hu
      · exact up u (h u (by simp [hu]))
      · rw [List.mem_singleton] at hu; subst hu
        dsimp only; omega
    · refine ⟨fun u hu => ?_, by simp⟩
      rcases List.mem_append.1 hu with hu | hu
      · exact up u (h u hu)
      · rw [List.mem_singleton] at hu; subst hu
        unfold toE; dsimp only; omega
set_option maxHeartbeats 4000000 in
theorem refStr_ok (g : Nat → Nat) (is : Nat → Bool) (his : ∀ j, is j = !decide (g j = 0)) (n : Nat) (hn : n ≤ 4000) (gap : Nat) (hg : gap ≤ 4000) :
    FnOk Tryz.prog 33 [.ro (.ints .i64 (natL g n)), .int .i64 gap] (.own 0) [(0, .row 72 (peR (rfGo is gap n 0 [])))] := by
  have hll := natL_len g n
  have hget := fun i (hi : i < n) => natL_get g hi
  generalize natL g n = l at *
  refine FnOk.of_vc Tryz.func33 rfl (by decide) (by simp [Tryz.f33]) [.tmp 4] rfl fun w0 T0 _ => ?_
  simp only [Tryz.f33, argEnv]
  unfold peR
  (repeat' first | with_reducible (first | refine Asm.intro fun _ => ?_ | refine Chk.g ?_ | refine AnyI.i64 fun _ _ => ?_ | refine LetW.g ?_ | refine LetW.h ?_ | refine Ite.t fun _ => ?_ | refine Ite.f fun _ => ?_ | refine Ite.decide (fun _ => ?_) fun _ => ?_ | refine Ite.bool (fun _ => ?_) fun _ => ?_ | refine And.intro ?_ ?_) | omega | simp (maxSteps := 1000000) only [go_sem, reduceCtorEq, Nat.reduceLT, Nat.reduceLeDiff, reduceIte, ↓reduceIte, Nat.reduceEqDiff, Nat.reduceAdd, Nat.reduceMul, Nat.reduceSub, Int.reduceLE, Int.reduceLT, Int.reduceNeg, Int.reduceToNat, List.length_map])
  refine VcLoop.intro (fun x : Nat × List (Nat × Nat) => ⟨49, [(11, .int .i64 x.1), (10, .int .i64 n), (9, .ro (.ints .i64 l)), (5, .own 0), (1, .int .i64 gap)], [(0, .row 72 (.objs 2 (x.2.map peAv)))], 1⟩) (fun x => x.1 ≤ n ∧ rfGo is gap (n - x.1) x.1 x.2 = rfGo is gap n 0 [] ∧ RfB x.1 x.2 ∧ x.2.length ≤ x.1) (fun x => n - x.1) (0, []) ?_ ⟨Nat.zero_le _, rfl, (fun _ ht => absurd ht List.not_mem_nil), Nat.le_refl _⟩ fun x hx => ?_
  · refine Ent.auto0 rfl ?_ ?_ <;> simp only [go_sem, reduceCtorEq, reduceIte, Nat.reduceEqDiff, Nat.reduceLT, Nat.reduceLeDiff, Int.natCast_succ, List.map_nil, zrow, hll]
  obtain ⟨i, out⟩ := x
  obtain ⟨h1, h2, h3, h4⟩ := hx
  dsimp only at h1 h2 h3 h4 ⊢
  by_cases hlt : i < n
  · have he := hget i hlt
    rw [show n - i = (n - (i + 1)) + 1 by omega, rfGo] at h2
    obtain ⟨hb, hbl⟩ := rfB_step (gap := gap) h3
    have up : RfB (i + 1) out := fun u hu => by have := h3 u hu; omega
    by_cases h0 : g i = 0
    · rw [h0] at he
      rw [if_neg (by rw [his]; simp [h0])] at h2
      (repeat' first | with_reducible (first | refine Asm.intro fun _ => ?_ | refine Chk.g ?_ | refine AnyI.i64 fun _ _ => ?_ | refine LetW.g ?_ | refine LetW.h ?_ | refine Ite.t fun _ => ?_ | refine Ite.f fun _ => ?_ | refine Ite.decide (fun _ => ?_) fun _ => ?_ | refine Ite.bool (fun _ => ?_) fun _ => ?_ | refine And.intro ?_ ?_) | omega | simp (maxSteps := 1000000) only [go_sem, reduceCtorEq, Nat.reduceLT, Nat.reduceLeDiff, reduceIte, ↓reduceIte, Nat.reduceEqDiff, Nat.reduceAdd, Nat.reduceMul, Nat.reduceSub, Int.reduceLE, Int.reduceLT, Int.reduceNeg, Int.reduceToNat, he])
      refine ⟨(i + 1, out), Ent.auto0 rfl ?_ ?_, ⟨by dsimp only; omega, h2, up, by dsimp only; omega⟩, by dsimp only; omega⟩ <;> simp only [go_sem, reduceCtorEq, reduceIte, Nat.reduceEqDiff, Nat.reduceLT, Nat.reduceLeDiff, Int.natCast_succ]
    · rw [if_pos (by rw [his]; simp [h0])] at h2
      clear his
      generalize g i = gi at *
      rcases List.eq_nil_or_concat out with rfl | ⟨o, t, rfl⟩
      · rw [jnE_nil] at h2 hb hbl
        have g2 : ∀ n, ([] : List (List AV)).getD n [] = [] := fun n => by simp
        (repeat' first | with_reducible (first | refine Asm.intro fun _ => ?_ | refine Chk.g ?_ | refine AnyI.i64 fun _ _ => ?_ | refine LetW.g ?_ | refine LetW.h ?_ | refine Ite.t fun _ => ?_ | refine Ite.f fun _ => ?_ | refine Ite.decide (fun _ => ?_) fun _ => ?_ | refine Ite.bool (fun _ => ?_) fun _ => ?_ | refine And.intro ?_ ?_) | omega | simp (maxSteps := 1000000) only [go_sem, reduceCtorEq, Nat.reduceLT, Nat.reduceLeDiff, reduceIte, ↓reduceIte, Nat.reduceEqDiff, Nat.reduceAdd, Nat.reduceMul, Nat.reduceSub, Int.reduceLE, Int.reduceLT, Int.reduceNeg, Int.reduceToNat, he, List.length_map, List.map_nil, List.length_nil, g2, List.drop_nil])
        have g7 : [toE (i, 1)].map peAv = [[.int .i64 i, .int .i64 ((i : Int) + 1)]] := rfl
        refine ⟨(i + 1, [toE (i, 1)]), Ent.auto0 rfl ?_ ?_, ⟨by dsimp only; omega, h2, hb, by dsimp only; simp⟩, by dsimp only; omega⟩ <;> simp only [go_sem, reduceCtorEq, reduceIte, Nat.reduceEqDiff, Nat.reduceLT, Nat.reduceLeDiff, Int.natCast_succ, g7, List.nil_append]
      · rw [List.concat_eq_append] at *
        have ht := h3 t (by simp)
        rw [jnE_snoc] at h2 hb hbl
        obtain ⟨t1, t2⟩ := t
        dsimp only at ht h2 hb hbl
        have hol : (o ++ [(t1, t2)]).length = o.length + 1 := by simp
        have g4 : (((o.length + 1 : Nat) : Int) - 1).toNat = o.length := by omega
        have g1 : (0 : Int) ≤ ((o.length + 1 : Nat) : Int) - 1 := by omega
        have g3 : ((o ++ [(t1, t2)]).map peAv).getD o.length [] = [.int .i64 t1, .int .i64 t2] := by
          rw [List.map_append, List.getD_eq_getElem?_getD, List.getElem?_append_right (by simp)]; simp [peAv]
        have gd1 : decide ((0 : Int) ≤ ((o.length + 1 : Nat) : Int) - 1) = true := decide_eq_true g1
        (repeat' first | with_reducible (first | refine Asm.intro fun _ => ?_ | refine Chk.g ?_ | refine AnyI.i64 fun _ _ => ?_ | refine LetW.g ?_ | refine LetW.h ?_ | refine Ite.t fun _ => ?_ | refine Ite.f fun _ => ?_ | refine Ite.decide (fun _ => ?_) fun _ => ?_ | refine Ite.bool (fun _ => ?_) fun _ => ?_ | refine And.intro ?_ ?_) | omega | simp (maxSteps := 1000000) only [go_sem, reduceCtorEq, Nat.reduceLT, Nat.reduceLeDiff, reduceIte, ↓reduceIte, Nat.reduceEqDiff, Nat.reduceAdd, Nat.reduceMul, Nat.reduceSub, Int.reduceLE, Int.reduceLT, Int.reduceNeg, Int.reduceToNat, he, List.length_map, elemA, hol, g3, g4, gd1])
        · rename_i h9
          rw [if_pos (by omega)] at h2 hb hbl
          have g5 : ((o ++ [(t1, t2)]).map peAv).set o.length [.int .i64 t1, .int .i64 ((i : Int) + 1)] = (o ++ [(t1, i + 1)]).map peAv := by
            rw [List.map_append, List.map_append, List.set_append_right _ _ (by simp)]
            simp [peAv]
          refine ⟨(i + 1, o ++ [(t1, i + 1)]), Ent.auto0 rfl ?_ ?_, ⟨by dsimp only; omega, h2, hb, by dsimp only; rw [List.length_append] at h4 ⊢; simp at h4 ⊢; omega⟩, by dsimp only; omega⟩ <;> simp only [go_sem, reduceCtorEq, reduceIte, Nat.reduceEqDiff, Nat.reduceLT, Nat.reduceLeDiff, Int.natCast_succ, g5]
        · rename_i h9
          rw [if_neg (by omega)] at h2 hb hbl
          have g6 : (o ++ [(t1, t2)] ++ [toE (i, 1)]).map peAv = (o ++ [(t1, t2)]).map peAv ++ [[.int .i64 i, .int .i64 ((i : Int) + 1)]] := by
            rw [List.map_append]; rfl
          refine ⟨(i + 1, o ++ [(t1, t2)] ++ [toE (i, 1)]), Ent.auto0 rfl ?_ ?_, ⟨by dsimp only; omega, h2, hb, by dsimp only; omega⟩, by dsimp only; omega⟩ <;> simp only [go_sem, reduceCtorEq, reduceIte, Nat.reduceEqDiff, Nat.reduceLT, Nat.reduceLeDiff, Int.natCast_succ, g6]
  · have e : i = n := by omega
    subst e
    rw [Nat.sub_self, rfGo] at h2
    subst h2
    (repeat' first | with_reducible (first | refine Asm.intro fun _ => ?_ | refine Chk.g ?_ | refine AnyI.i64 fun _ _ => ?_ | refine LetW.g ?_ | refine LetW.h ?_ | refine Ite.t fun _ => ?_ | refine Ite.f fun _ => ?_ | refine Ite.decide (fun _ => ?_) fun _ => ?_ | refine Ite.bool (fun _ => ?_) fun _ => ?_ | refine And.intro ?_ ?_) | omega | simp (maxSteps := 1000000) only [go_sem, reduceCtorEq, Nat.reduceLT, Nat.reduceLeDiff, reduceIte, ↓reduceIte, Nat.reduceEqDiff, Nat.reduceAdd, Nat.reduceMul, Nat.reduceSub, Int.reduceLE, Int.reduceLT, Int.reduceNeg, Int.reduceToNat, List.length_map])
    refine Ret.auto 1 ?_ rfl ?_ <;> simp only [go_sem, reduceCtorEq, reduceIte, Nat.reduceEqDiff, Nat.reduceLT, Nat.reduceLeDiff, Int.natCast_succ, Post]
end Go.Fv.Q

/-! The reference's box as small as its ink permits: the walk. -/
namespace Go.Fv.Q
open Go Go.Proofs
set_option linter.unusedSimpArgs false
set_option linter.unusedVariables false
set_option linter.unnecessarySimpa false
set_option maxRecDepth 8000

theorem cutP_len (p : List Bool) (w : Nat) (b : Nb) : (cutP p w b).length = b.w * b.h := by
  unfold cutP; rw [rowsOf_len, Nat.mul_comm]
theorem natL_congr {g g' : Nat → Nat} {n : Nat} (h : ∀ i, i < n → g i = g' i) : natL g n = natL g' n := by
  unfold natL
  exact List.map_congr_left fun i hi => by rw [h i (List.mem_range.1 hi)]
theorem colsC_ok (p : List Bool) (w : Nat) (b : Nb) (hw : b.w ≤ 4000) (hh : b.h ≤ 4000) :
    FnOk Tryz.prog 37 [.agg [.int .i64 b.w, .int .i64 b.h, .ro (.bools (cutP p w b))]] (.own 0) [(0, .row 3 (.ints .i64 (natL (fun i => colN p w b (b.x + i)) b.w)))] := by
  have k := columnsOf_ok b.w b.h hw hh (cutP p w b) (cutP_len p w b)
  unfold cutP at k
  rw [natL_congr (g' := fun i => colN p w b (b.x + i)) fun i hi => cut_col p w b hi] at k
  exact k
theorem rowsC_ok (p : List Bool) (w : Nat) (b : Nb) (hw : b.w ≤ 4000) (hh : b.h ≤ 4000) :
    FnOk Tryz.prog 34 [.agg [.int .i64 b.w, .int .i64 b.h, .ro (.bools (cutP p w b))]] (.own 0) [(0, .row 3 (.ints .i64 (natL (fun i => rowN p w b (b.y + i)) b.h)))] := by
  have k := rowsOfP_ok b.w b.h hw hh (cutP p w b) (cutP_len p w b)
  unfold cutP at k
  rw [natL_congr (g' := fun i => rowN p w b (b.y + i)) fun i hi => cut_row p w b hi] at k
  exact k
theorem ink_no {p : List Bool} {w : Nat} {b : Nb} (h : inkB p w b = 0) : ∀ i, i < b.w → colN p w b (b.x + i) = 0 := by
  intro i hi
  have : colN p w b (b.x + i) ≤ inkB p w b := inkN_mono p w (by omega) (by omega) (Nat.le_refl _) (Nat.le_refl _)
  omega
set_option maxHeartbeats 4000000 in
theorem boundsNo_ok (p : List Bool) (w : Nat) (b : Nb) (hw : b.w ≤ 4000) (hh : b.h ≤ 4000) (hi : inkB p w b = 0) :
    FnOk Tryz.prog 68 [.agg [.int .i64 b.w, .int .i64 b.h, .ro (.bools (cutP p w b))]] (.tup [.agg [.int .i64 0, .int .i64 0, .int .i64 0, .int .i64 0], .bool false]) [] := by
  have k1 := colsC_ok p w b hw hh
  have k2 := endsNo_ok (fun i => colN p w b (b.x + i)) b.w (ink_no hi)
  generalize natL (fun i => colN p w b (b.x + i)) b.w = L at *
  generalize cutP p w b = q at *
  refine FnOk.of_vc Tryz.func68 rfl (by decide) (by simp [Tryz.f68]) [.cell 2 26, .tmp 3] rfl fun w0 T0 _ => ?_
  simp only [Tryz.f68, argEnv]
  (repeat' first | with_reducible (first | refine Asm.intro fun _ => ?_ | refine Chk.g ?_ | refine AnyI.i64 fun _ _ => ?_ | refine LetW.g ?_ | refine LetW.h ?_ | refine Ite.t fun _ => ?_ | refine Ite.f fun _ => ?_ | refine Ite.decide (fun _ => ?_) fun _ => ?_ | refine Ite.bool (fun _ => ?_) fun _ => ?_ | refine And.intro ?_ ?_) | omega | simp (maxSteps := 1000000) only [go_sem, reduceCtorEq, Nat.reduceLT, Nat.reduceLeDiff, reduceIte, ↓reduceIte, Nat.reduceEqDiff, Nat.reduceAdd, Nat.reduceMul, Nat.reduceSub, Int.reduceLE, Int.reduceLT, Int.reduceNeg, Int.reduceToNat])
  refine VcCall.ro (.ro (.ints .i64 L)) (FnFr.of_ok k1 rfl rfl) (by simp only [noIdR_ok, argOkL, argOk, allOk, argOkN, List.drop_zero, lk, reduceIte, reduceCtorEq, Nat.reduceEqDiff, Option.some.injEq, Item.row.injEq, Item.box.injEq, AV.ro.injEq, exists_eq_left, exists_and_left, exists_eq_left', exists_eq_right, and_assoc, and_true, true_and, List.cons.injEq, exists_eq', exists_eq]) (by simp [outOk, argOkL, allOk, argOk, argOkN, lk, noIdR_ok]) rfl ?_
  (repeat' first | with_reducible (first | refine Asm.intro fun _ => ?_ | refine Chk.g ?_ | refine AnyI.i64 fun _ _ => ?_ | refine LetW.g ?_ | refine LetW.h ?_ | refine Ite.t fun _ => ?_ | refine Ite.f fun _ => ?_ | refine Ite.decide (fun _ => ?_) fun _ => ?_ | refine Ite.bool (fun _ => ?_) fun _ => ?_ | refine And.intro ?_ ?_) | omega | simp (maxSteps := 1000000) only [go_sem, reduceCtorEq, Nat.reduceLT, Nat.reduceLeDiff, reduceIte, ↓reduceIte, Nat.reduceEqDiff, Nat.reduceAdd, Nat.reduceMul, Nat.reduceSub, Int.reduceLE, Int.reduceLT, Int.reduceNeg, Int.reduceToNat])
  refine VcCall.fr (FnFr.of_ok (k2) rfl rfl) (by simp only [noIdR_ok, argOkL, argOk, allOk, argOkN, List.drop_zero, lk, reduceIte, reduceCtorEq, Nat.reduceEqDiff, Option.some.injEq, Item.row.injEq, Item.box.injEq, AV.ro.injEq, exists_eq_left, exists_and_left, exists_eq_left', exists_eq_right, and_assoc, and_true, true_and, List.cons.injEq, exists_eq', exists_eq]) 0 rfl (by simp [rowsB]) ?_
  (repeat' first | with_reducible (first | refine Asm.intro fun _ => ?_ | refine Chk.g ?_ | refine AnyI.i64 fun _ _ => ?_ | refine LetW.g ?_ | refine LetW.h ?_ | refine Ite.t fun _ => ?_ | refine Ite.f fun _ => ?_ | refine Ite.decide (fun _ => ?_) fun _ => ?_ | refine Ite.bool (fun _ => ?_) fun _ => ?_ | refine And.intro ?_ ?_) | omega | simp (maxSteps := 1000000) only [go_sem, reduceCtorEq, Nat.reduceLT, Nat.reduceLeDiff, reduceIte, ↓reduceIte, Nat.reduceEqDiff, Nat.reduceAdd, Nat.reduceMul, Nat.reduceSub, Int.reduceLE, Int.reduceLT, Int.reduceNeg, Int.reduceToNat])
  refine Ret.auto 0 ?_ rfl ?_ <;> simp only [go_sem, reduceCtorEq, reduceIte, Nat.reduceEqDiff, Nat.reduceLT, Nat.reduceLeDiff, Int.natCast_succ, Post]
set_option maxHeartbeats 4000000 in
theorem bounds_ok (p : List Bool) (w : Nat) (b : Nb) (hw : b.w ≤ 4000) (hh : b.h ≤ 4000) {f l f' l' : Nat} (hc : EndsAt (fun i => colN p w b (b.x + i)) b.w f l) (hr : EndsAt (fun i => rowN p w b (b.y + i)) b.h f' l') :
    FnOk Tryz.prog 68 [.agg [.int .i64 b.w, .int .i64 b.h, .ro (.bools (cutP p w b))]] (.tup [.agg [.int .i64 f, .int .i64 f', .int .i64 (l - f + 1 : Nat), .int .i64 (l' - f' + 1 : Nat)], .bool true]) [] := by
  have k1 := colsC_ok p w b hw hh
  have k2 := ends_ok _ b.w f l hc hw
  have k3 := rowsC_ok p w b hw hh
  have k4 := ends_ok _ b.h f' l' hr hh
  have a1 := hc.fl
  have a2 := hc.ln
  have a3 := hr.fl
  have a4 := hr.ln
  generalize natL (fun i => colN p w b (b.x + i)) b.w = L at *
  generalize natL (fun i => rowN p w b (b.y + i)) b.h = L2 at *
  generalize cutP p w b = q at *
  refine FnOk.of_vc Tryz.func68 rfl (by decide) (by simp [Tryz.f68]) [.cell 2 26, .tmp 3] rfl fun w0 T0 _ => ?_
  simp only [Tryz.f68, argEnv]
  (repeat' first | with_reducible (first | refine Asm.intro fun _ => ?_ | refine Chk.g ?_ | refine AnyI.i64 fun _ _ => ?_ | refine LetW.g ?_ | refine LetW.h ?_ | refine Ite.t fun _ => ?_ | refine Ite.f fun _ => ?_ | refine Ite.decide (fun _ => ?_) fun _ => ?_ | refine Ite.bool (fun _ => ?_) fun _ => ?_ | refine And.intro ?_ ?_) | omega | simp (maxSteps := 1000000) only [go_sem, reduceCtorEq, Nat.reduceLT, Nat.reduceLeDiff, reduceIte, ↓reduceIte, Nat.reduceEqDiff, Nat.reduceAdd, Nat.reduceMul, Nat.reduceSub, Int.reduceLE, Int.reduceLT, Int.reduceNeg, Int.reduceToNat])
  refine VcCall.ro (.ro (.ints .i64 L)) (FnFr.of_ok k1 rfl rfl) (by simp only [noIdR_ok, argOkL, argOk, allOk, argOkN, List.drop_zero, lk, reduceIte, reduceCtorEq, Nat.reduceEqDiff, Option.some.injEq, Item.row.injEq, Item.box.injEq, AV.ro.injEq, exists_eq_left, exists_and_left, exists_eq_left', exists_eq_right, and_assoc, and_true, true_and, List.cons.injEq, exists_eq', exists_eq]) (by simp [outOk, argOkL, allOk, argOk, argOkN, lk, noIdR_ok]) rfl ?_
  (repeat' first | with_reducible (first | refine Asm.intro fun _ => ?_ | refine Chk.g ?_ | refine AnyI.i64 fun _ _ => ?_ | refine LetW.g ?_ | refine LetW.h ?_ | refine Ite.t fun _ => ?_ | refine Ite.f fun _ => ?_ | refine Ite.decide (fun _ => ?_) fun _ => ?_ | refine Ite.bool (fun _ => ?_) fun _ => ?_ | refine And.intro ?_ ?_) | omega | simp (maxSteps := 1000000) only [go_sem, reduceCtorEq, Nat.reduceLT, Nat.reduceLeDiff, reduceIte, ↓reduceIte, Nat.reduceEqDiff, Nat.reduceAdd, Nat.reduceMul, Nat.reduceSub, Int.reduceLE, Int.reduceLT, Int.reduceNeg, Int.reduceToNat])
  refine VcCall.fr (FnFr.of_ok (k2) rfl rfl) (by simp only [noIdR_ok, argOkL, argOk, allOk, argOkN, List.drop_zero, lk, reduceIte, reduceCtorEq, Nat.reduceEqDiff, Option.some.injEq, Item.row.injEq, Item.box.injEq, AV.ro.injEq, exists_eq_left, exists_and_left, exists_eq_left', exists_eq_right, and_assoc, and_true, true_and, List.cons.injEq, exists_eq', exists_eq]) 0 rfl (by simp [rowsB]) ?_
  (repeat' first | with_reducible (first | refine Asm.intro fun _ => ?_ | refine Chk.g ?_ | refine AnyI.i64 fun _ _ => ?_ | refine LetW.g ?_ | refine LetW.h ?_ | refine Ite.t fun _ => ?_ | refine Ite.f fun _ => ?_ | refine Ite.decide (fun _ => ?_) fun _ => ?_ | refine Ite.bool (fun _ => ?_) fun _ => ?_ | refine And.intro ?_ ?_) | omega | simp (maxSteps := 1000000) only [go_sem, reduceCtorEq, Nat.reduceLT, Nat.reduceLeDiff, reduceIte, ↓reduceIte, Nat.reduceEqDiff, Nat.reduceAdd, Nat.reduceMul, Nat.reduceSub, Int.reduceLE, Int.reduceLT, Int.reduceNeg, Int.reduceToNat])
  refine VcCall.ro (.ro (.ints .i64 L2)) (FnFr.of_ok k3 rfl rfl) (by simp only [noIdR_ok, argOkL, argOk, allOk, argOkN, List.drop_zero, lk, reduceIte, reduceCtorEq, Nat.reduceEqDiff, Option.some.injEq, Item.row.injEq, Item.box.injEq, AV.ro.injEq, exists_eq_left, exists_and_left, exists_eq_left', exists_eq_right, and_assoc, and_true, true_and, List.cons.injEq, exists_eq', exists_eq]) (by simp [outOk, argOkL, allOk, argOk, argOkN, lk, noIdR_ok]) rfl ?_
  (repeat' first | with_reducible (first | refine Asm.intro fun _ => ?_ | refine Chk.g ?_ | refine AnyI.i64 fun _ _ => ?_ | refine LetW.g ?_ | refine LetW.h ?_ | refine Ite.t fun _ => ?_ | refine Ite.f fun _ => ?_ | refine Ite.decide (fun _ => ?_) fun _ => ?_ | refine Ite.bool (fun _ => ?_) fun _ => ?_ | refine And.intro ?_ ?_) | omega | simp (maxSteps := 1000000) only [go_sem, reduceCtorEq, Nat.reduceLT, Nat.reduceLeDiff, reduceIte, ↓reduceIte, Nat.reduceEqDiff, Nat.reduceAdd, Nat.reduceMul, Nat.reduceSub, Int.reduceLE, Int.reduceLT, Int.reduceNeg, Int.reduceToNat])
  refine VcCall.fr (FnFr.of_ok (k4) rfl rfl) (by simp only [noIdR_ok, argOkL, argOk, allOk, argOkN, List.drop_zero, lk, reduceIte, reduceCtorEq, Nat.reduceEqDiff, Option.some.injEq, Item.row.injEq, Item.box.injEq, AV.ro.injEq, exists_eq_left, exists_and_left, exists_eq_left', exists_eq_right, and_assoc, and_true, true_and, List.cons.injEq, exists_eq', exists_eq]) 0 rfl (by simp [rowsB]) ?_
  (repeat' first | with_reducible (first | refine Asm.intro fun _ => ?_ | refine Chk.g ?_ | refine AnyI.i64 fun _ _ => ?_ | refine LetW.g ?_ | refine LetW.h ?_ | refine Ite.t fun _ => ?_ | refine Ite.f fun _ => ?_ | refine Ite.decide (fun _ => ?_) fun _ => ?_ | refine Ite.bool (fun _ => ?_) fun _ => ?_ | refine And.intro ?_ ?_) | omega | simp (maxSteps := 1000000) only [go_sem, reduceCtorEq, Nat.reduceLT, Nat.reduceLeDiff, reduceIte, ↓reduceIte, Nat.reduceEqDiff, Nat.reduceAdd, Nat.reduceMul, Nat.reduceSub, Int.reduceLE, Int.reduceLT, Int.reduceNeg, Int.reduceToNat])
  refine Ret.auto 0 ?_ rfl ?_ <;> simp only [go_sem, reduceCtorEq, reduceIte, Nat.reduceEqDiff, Nat.reduceLT, Nat.reduceLeDiff, Int.natCast_succ, Post]
  all_goals first | omega | skip
set_option maxHeartbeats 4000000 in
theorem rtightNo_ok (w h : Nat) (hw : w ≤ 4000) (hh : h ≤ 4000) (p : List Bool) (hp : p.length = w * h) (b : Nb) (hX : b.x + b.w ≤ w) (hY : b.y + b.h ≤ h) (hi : inkB p w b = 0) :
    FnOk Tryz.prog 36 [.agg [.int .i64 w, .int .i64 h, .ro (.bools p)], .agg b.av] (.tup [.agg [.int .i64 b.x, .int .i64 b.y, .int .i64 0, .int .i64 0], .bool false]) [] := by
  have k1 := refCut_ok w h hw hh p hp b hX hY
  have k2 := boundsNo_ok p w b (by omega) (by omega) hi
  generalize cutP p w b = q at *
  obtain ⟨x, y, W, H⟩ := b
  unfold Nb.av at *
  dsimp only at *
  refine FnOk.of_vc Tryz.func36 rfl (by decide) (by simp [Tryz.f36]) [.cell 4 26, .tmp 5] rfl fun w0 T0 _ => ?_
  simp only [Tryz.f36, argEnv]
  (repeat' first | with_reducible (first | refine Asm.intro fun _ => ?_ | refine Chk.g ?_ | refine AnyI.i64 fun _ _ => ?_ | refine LetW.g ?_ | refine LetW.h ?_ | refine Ite.t fun _ => ?_ | refine Ite.f fun _ => ?_ | refine Ite.decide (fun _ => ?_) fun _ => ?_ | refine Ite.bool (fun _ => ?_) fun _ => ?_ | refine And.intro ?_ ?_) | omega | simp (maxSteps := 1000000) only [go_sem, reduceCtorEq, Nat.reduceLT, Nat.reduceLeDiff, reduceIte, ↓reduceIte, Nat.reduceEqDiff, Nat.reduceAdd, Nat.reduceMul, Nat.reduceSub, Int.reduceLE, Int.reduceLT, Int.reduceNeg, Int.reduceToNat])
  refine VcCall.ro (.agg [.int .i64 W, .int .i64 H, .ro (.bools q)]) (FnFr.of_ok k1 rfl rfl) (by simp only [noIdR_ok, argOkL, argOk, allOk, argOkN, List.drop_zero, lk, reduceIte, reduceCtorEq, Nat.reduceEqDiff, Option.some.injEq, Item.row.injEq, Item.box.injEq, AV.ro.injEq, exists_eq_left, exists_and_left, exists_eq_left', exists_eq_right, and_assoc, and_true, true_and, List.cons.injEq, exists_eq', exists_eq]) (by simp [outOk, argOkL, allOk, argOk, argOkN, lk, noIdR_ok]) rfl ?_
  (repeat' first | with_reducible (first | refine Asm.intro fun _ => ?_ | refine Chk.g ?_ | refine AnyI.i64 fun _ _ => ?_ | refine LetW.g ?_ | refine LetW.h ?_ | refine Ite.t fun _ => ?_ | refine Ite.f fun _ => ?_ | refine Ite.decide (fun _ => ?_) fun _ => ?_ | refine Ite.bool (fun _ => ?_) fun _ => ?_ | refine And.intro ?_ ?_) | omega | simp (maxSteps := 1000000) only [go_sem, reduceCtorEq, Nat.reduceLT, Nat.reduceLeDiff, reduceIte, ↓reduceIte, Nat.reduceEqDiff, Nat.reduceAdd, Nat.reduceMul, Nat.reduceSub, Int.reduceLE, Int.reduceLT, Int.reduceNeg, Int.reduceToNat])
  refine VcCall.fr (FnFr.of_ok (k2) rfl rfl) (by simp only [noIdR_ok, argOkL, argOk, allOk, argOkN, List.drop_zero, lk, reduceIte, reduceCtorEq, Nat.reduceEqDiff, Option.some.injEq, Item.row.injEq, Item.box.injEq, AV.ro.injEq, exists_eq_left, exists_and_left, exists_eq_left', exists_eq_right, and_assoc, and_true, true_and, List.cons.injEq, exists_eq', exists_eq]) 0 rfl (by simp [rowsB]) ?_
  (repeat' first | with_reducible (first | refine Asm.intro fun _ => ?_ | refine Chk.g ?_ | refine AnyI.i64 fun _ _ => ?_ | refine LetW.g ?_ | refine LetW.h ?_ | refine Ite.t fun _ => ?_ | refine Ite.f fun _ => ?_ | refine Ite.decide (fun _ => ?_) fun _ => ?_ | refine Ite.bool (fun _ => ?_) fun _ => ?_ | refine And.intro ?_ ?_) | omega | simp (maxSteps := 1000000) only [go_sem, reduceCtorEq, Nat.reduceLT, Nat.reduceLeDiff, reduceIte, ↓reduceIte, Nat.reduceEqDiff, Nat.reduceAdd, Nat.reduceMul, Nat.reduceSub, Int.reduceLE, Int.reduceLT, Int.reduceNeg, Int.reduceToNat])
  refine VcDraw.lex [11, 13] [(7, [1]), (8, [1]), (9, [1])] (by kernel_rfl) (by kernel_rfl) ?_
  (repeat' first | with_reducible (first | refine Asm.intro fun _ => ?_ | refine Chk.g ?_ | refine AnyI.i64 fun _ _ => ?_ | refine LetW.g ?_ | refine LetW.h ?_ | refine Ite.t fun _ => ?_ | refine Ite.f fun _ => ?_ | refine Ite.decide (fun _ => ?_) fun _ => ?_ | refine Ite.bool (fun _ => ?_) fun _ => ?_ | refine And.intro ?_ ?_) | omega | simp (maxSteps := 1000000) only [go_sem, reduceCtorEq, Nat.reduceLT, Nat.reduceLeDiff, reduceIte, ↓reduceIte, Nat.reduceEqDiff, Nat.reduceAdd, Nat.reduceMul, Nat.reduceSub, Int.reduceLE, Int.reduceLT, Int.reduceNeg, Int.reduceToNat, Int.zero_add])
  refine Ret.auto 0 ?_ rfl ?_ <;> simp only [go_sem, reduceCtorEq, reduceIte, Nat.reduceEqDiff, Nat.reduceLT, Nat.reduceLeDiff, Int.natCast_succ, Post]
set_option maxHeartbeats 4000000 in
theorem rtight_ok (w h : Nat) (hw : w ≤ 4000) (hh : h ≤ 4000) (p : List Bool) (hp : p.length = w * h) (b : Nb) (hX : b.x + b.w ≤ w) (hY : b.y + b.h ≤ h) (hi : 0 < inkB p w b) :
    FnOk Tryz.prog 36 [.agg [.int .i64 w, .int .i64 h, .ro (.bools p)], .agg b.av] (.tup [.agg (tightB p w b).av, .bool true]) [] := by
  have k1 := refCut_ok w h hw hh p hp b hX hY
  obtain ⟨f, l, hc⟩ := endsAt_ex _ _ (ink_col p w (b := b) (by omega))
  obtain ⟨f', l', hr⟩ := endsAt_ex _ _ (ink_row p w (b := b) (by omega))
  rw [tightB_eq p w hc hr]
  have k2 := bounds_ok p w b (by omega) (by omega) hc hr
  have a1 := hc.fl
  have a2 := hc.ln
  have a3 := hr.fl
  have a4 := hr.ln
  generalize cutP p w b = q at *
  obtain ⟨x, y, W, H⟩ := b
  unfold Nb.av at *
  dsimp only at *
  refine FnOk.of_vc Tryz.func36 rfl (by decide) (by simp [Tryz.f36]) [.cell 4 26, .tmp 5] rfl fun w0 T0 _ => ?_
  simp only [Tryz.f36, argEnv]
  (repeat' first | with_reducible (first | refine Asm.intro fun _ => ?_ | refine Chk.g ?_ | refine AnyI.i64 fun _ _ => ?_ | refine LetW.g ?_ | refine LetW.h ?_ | refine Ite.t fun _ => ?_ | refine Ite.f fun _ => ?_ | refine Ite.decide (fun _ => ?_) fun _ => ?_ | refine Ite.bool (fun _ => ?_) fun _ => ?_ | refine And.intro ?_ ?_) | omega | simp (maxSteps := 1000000) only [go_sem, reduceCtorEq, Nat.reduceLT, Nat.reduceLeDiff, reduceIte, ↓reduceIte, Nat.reduceEqDiff, Nat.reduceAdd, Nat.reduceMul, Nat.reduceSub, Int.reduceLE, Int.reduceLT, Int.reduceNeg, Int.reduceToNat])
  refine VcCall.ro (.agg [.int .i64 W, .int .i64 H, .ro (.bools q)]) (FnFr.of_ok k1 rfl rfl) (by simp only [noIdR_ok, argOkL, argOk, allOk, argOkN, List.drop_zero, lk, reduceIte, reduceCtorEq, Nat.reduceEqDiff, Option.some.injEq, Item.row.injEq, Item.box.injEq, AV.ro.injEq, exists_eq_left, exists_and_left, exists_eq_left', exists_eq_right, and_assoc, and_true, true_and, List.cons.injEq, exists_eq', exists_eq]) (by simp [outOk, argOkL, allOk, argOk, argOkN, lk, noIdR_ok]) rfl ?_
  (repeat' first | with_reducible (first | refine Asm.intro fun _ => ?_ | refine Chk.g ?_ | refine AnyI.i64 fun _ _ => ?_ | refine LetW.g ?_ | refine LetW.h ?_ | refine Ite.t fun _ => ?_ | refine Ite.f fun _ => ?_ | refine Ite.decide (fun _ => ?_) fun _ => ?_ | refine Ite.bool (fun _ => ?_) fun _ => ?_ | refine And.intro ?_ ?_) | omega | simp (maxSteps := 1000000) only [go_sem, reduceCtorEq, Nat.reduceLT, Nat.reduceLeDiff, reduceIte, ↓reduceIte, Nat.reduceEqDiff, Nat.reduceAdd, Nat.reduceMul, Nat.reduceSub, Int.reduceLE, Int.reduceLT, Int.reduceNeg, Int.reduceToNat])
  refine VcCall.fr (FnFr.of_ok (k2) rfl rfl) (by simp only [noIdR_ok, argOkL, argOk, allOk, argOkN, List.drop_zero, lk, reduceIte, reduceCtorEq, Nat.reduceEqDiff, Option.some.injEq, Item.row.injEq, Item.box.injEq, AV.ro.injEq, exists_eq_left, exists_and_left, exists_eq_left', exists_eq_right, and_assoc, and_true, true_and, List.cons.injEq, exists_eq', exists_eq]) 0 rfl (by simp [rowsB]) ?_
  (repeat' first | with_reducible (first | refine Asm.intro fun _ => ?_ | refine Chk.g ?_ | refine AnyI.i64 fun _ _ => ?_ | refine LetW.g ?_ | refine LetW.h ?_ | refine Ite.t fun _ => ?_ | refine Ite.f fun _ => ?_ | refine Ite.decide (fun _ => ?_) fun _ => ?_ | refine Ite.bool (fun _ => ?_) fun _ => ?_ | refine And.intro ?_ ?_) | omega | simp (maxSteps := 1000000) only [go_sem, reduceCtorEq, Nat.reduceLT, Nat.reduceLeDiff, reduceIte, ↓reduceIte, Nat.reduceEqDiff, Nat.reduceAdd, Nat.reduceMul, Nat.reduceSub, Int.reduceLE, Int.reduceLT, Int.reduceNeg, Int.reduceToNat])
  refine VcDraw.lex [11, 13] [(7, [1]), (8, [1]), (9, [1])] (by kernel_rfl) (by kernel_rfl) ?_
  (repeat' first | with_reducible (first | refine Asm.intro fun _ => ?_ | refine Chk.g ?_ | refine AnyI.i64 fun _ _ => ?_ | refine LetW.g ?_ | refine LetW.h ?_ | refine Ite.t fun _ => ?_ | refine Ite.f fun _ => ?_ | refine Ite.decide (fun _ => ?_) fun _ => ?_ | refine Ite.bool (fun _ => ?_) fun _ => ?_ | refine And.intro ?_ ?_) | omega | simp (maxSteps := 1000000) only [go_sem, reduceCtorEq, Nat.reduceLT, Nat.reduceLeDiff, reduceIte, ↓reduceIte, Nat.reduceEqDiff, Nat.reduceAdd, Nat.reduceMul, Nat.reduceSub, Int.reduceLE, Int.reduceLT, Int.reduceNeg, Int.reduceToNat])
  refine Ret.auto 0 ?_ rfl ?_ <;> simp only [go_sem, reduceCtorEq, reduceIte, Nat.reduceEqDiff, Nat.reduceLT, Nat.reduceLeDiff, Int.natCast_succ, Post]
  all_goals first | omega | (constructor <;> omega) | skip
end Go.Fv.Q
