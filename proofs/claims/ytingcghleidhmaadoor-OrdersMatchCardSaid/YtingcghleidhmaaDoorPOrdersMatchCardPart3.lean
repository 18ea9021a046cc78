/-
  A part of the proof of the claim: walks over the program's functions and the plain laws that these need. No condition of its own.
-/
import Derived.Test.YtingcghleidhmaaDoorPOrdersMatchCardPart2
import Derived.Test.YtingcghleidhmaaDoorPOrdersMatchCardPart1
import Derived.Test.YtingcghleidhmaaDoorFvPart9
/-! The order of reading: the closures of Order. The walk. -/
namespace Go.Fv.P
open Go Go.Proofs
set_option linter.unusedSimpArgs false
set_option linter.unusedVariables false
set_option linter.unnecessarySimpa false
set_option maxRecDepth 8000

theorem side1_ok (b : Bx) (hb : BxOk b) : FnOk Tryd.prog 68 [.agg b.av] (.int .i64 (b.x)) [] := by
  unfold BxOk at hb
  obtain ⟨x, y, w, h⟩ := b
  dsimp only [Bx.av] at *
  refine FnOk.of_vc Tryd.func68 rfl (by decide) (by simp [Tryd.f68]) [.tmp 2] rfl fun w0 T0 _ => ?_
  simp only [Tryd.f68, argEnv]
  (repeat' first | with_reducible (first | intro _ | refine rc ?_ | refine rl ?_ | refine rh ?_ | refine rt ?_ | refine rf ?_ | refine rs ?_ | refine And.intro ?_ ?_) | omega | simp (maxSteps := 1000000) only [go_sem, simprocAttr, ↓reduceIte])
  refine Ret.auto 0 ?_ rfl ?_ <;> simp only [go_sem, reduceCtorEq, reduceIte, Nat.reduceEqDiff, Nat.reduceLT, Nat.reduceLeDiff, Int.natCast_succ, Post]
theorem side2_ok (b : Bx) (hb : BxOk b) : FnOk Tryd.prog 69 [.agg b.av] (.int .i64 (b.x + b.w)) [] := by
  unfold BxOk at hb
  obtain ⟨x, y, w, h⟩ := b
  dsimp only [Bx.av] at *
  refine FnOk.of_vc Tryd.func69 rfl (by decide) (by simp [Tryd.f69]) [.tmp 2] rfl fun w0 T0 _ => ?_
  simp only [Tryd.f69, argEnv]
  (repeat' first | with_reducible (first | intro _ | refine rc ?_ | refine rl ?_ | refine rh ?_ | refine rt ?_ | refine rf ?_ | refine rs ?_ | refine And.intro ?_ ?_) | omega | simp (maxSteps := 1000000) only [go_sem, simprocAttr, ↓reduceIte])
  refine Ret.auto 0 ?_ rfl ?_ <;> simp only [go_sem, reduceCtorEq, reduceIte, Nat.reduceEqDiff, Nat.reduceLT, Nat.reduceLeDiff, Int.natCast_succ, Post]
theorem side3_ok (b : Bx) (hb : BxOk b) : FnOk Tryd.prog 70 [.agg b.av] (.int .i64 (b.y)) [] := by
  unfold BxOk at hb
  obtain ⟨x, y, w, h⟩ := b
  dsimp only [Bx.av] at *
  refine FnOk.of_vc Tryd.func70 rfl (by decide) (by simp [Tryd.f70]) [.tmp 2] rfl fun w0 T0 _ => ?_
  simp only [Tryd.f70, argEnv]
  (repeat' first | with_reducible (first | intro _ | refine rc ?_ | refine rl ?_ | refine rh ?_ | refine rt ?_ | refine rf ?_ | refine rs ?_ | refine And.intro ?_ ?_) | omega | simp (maxSteps := 1000000) only [go_sem, simprocAttr, ↓reduceIte])
  refine Ret.auto 0 ?_ rfl ?_ <;> simp only [go_sem, reduceCtorEq, reduceIte, Nat.reduceEqDiff, Nat.reduceLT, Nat.reduceLeDiff, Int.natCast_succ, Post]
theorem side4_ok (b : Bx) (hb : BxOk b) : FnOk Tryd.prog 71 [.agg b.av] (.int .i64 (b.y + b.h)) [] := by
  unfold BxOk at hb
  obtain ⟨x, y, w, h⟩ := b
  dsimp only [Bx.av] at *
  refine FnOk.of_vc Tryd.func71 rfl (by decide) (by simp [Tryd.f71]) [.tmp 2] rfl fun w0 T0 _ => ?_
  simp only [Tryd.f71, argEnv]
  (repeat' first | with_reducible (first | intro _ | refine rc ?_ | refine rl ?_ | refine rh ?_ | refine rt ?_ | refine rf ?_ | refine rs ?_ | refine And.intro ?_ ?_) | omega | simp (maxSteps := 1000000) only [go_sem, simprocAttr, ↓reduceIte])
  refine Ret.auto 0 ?_ rfl ?_ <;> simp only [go_sem, reduceCtorEq, reduceIte, Nat.reduceEqDiff, Nat.reduceLT, Nat.reduceLeDiff, Int.natCast_succ, Post]
section
variable (L : List Bx)
set_option maxHeartbeats 2000000 in
theorem ord5_ok (i k : Int) (hi : InL L i) (hk : InL L k) : FnOk Tryd.prog 74 [.int .i64 i, .int .i64 k, .cell [.ro (bxs L)]] (.int .i64 (orL (List.zipWith cmp3 (kI L i) (kI L k)))) [] := by
  have e1 := bAt_elem hi
  have e2 := bAt_elem hk
  have e3 : List.zipWith cmp3 (kI L i) (kI L k) = [cmp3 (bAt L i).y (bAt L k).y, cmp3 (bAt L i).x (bAt L k).x, cmp3 (bAt L i).h (bAt L k).h, cmp3 (bAt L i).w (bAt L k).w, cmp3 i k] := rfl
  rw [e3]
  generalize bAt L i = a at *
  generalize bAt L k = b at *
  obtain ⟨ax, ay, aw, ah⟩ := a
  obtain ⟨bx, by', bw, bh⟩ := b
  dsimp only at *
  have k1 := compare_ok ay by'
  have k2 := compare_ok ax bx
  have k3 := compare_ok ah bh
  have k4 := compare_ok aw bw
  have k5 := compare_ok i k
  have ko := cmpOr_ok [cmp3 ay by', cmp3 ax bx, cmp3 ah bh, cmp3 aw bw, cmp3 i k]
  generalize cmp3 ay by' = c1 at *
  generalize cmp3 ax bx = c2 at *
  generalize cmp3 ah bh = c3 at *
  generalize cmp3 aw bw = c4 at *
  generalize cmp3 i k = c5 at *
  generalize orL [c1, c2, c3, c4, c5] = o at *
  unfold InL at hi hk
  refine FnOk.of_vc Tryd.func74 rfl (by decide) (by simp [Tryd.f74]) [.tmp 5] rfl fun w0 T0 _ => ?_
  simp only [Tryd.f74, argEnv]
  (repeat' first | with_reducible (first | intro _ | refine rc ?_ | refine rl ?_ | refine rh ?_ | refine rt ?_ | refine rf ?_ | refine rs ?_ | refine And.intro ?_ ?_) | omega | simp (maxSteps := 1000000) only [go_sem, simprocAttr, ↓reduceIte])
  refine VcDraw.forkCut (.quiet 0 (.quiet 1 (.quiet 2 (.quiet 3 (.quiet 4 (.quiet 5 (.quiet 6 (.quiet 7 (.eff 8 [7, 6, 5, 4, 3, 2, 1, 0] (.eff 9 [7, 6, 5, 4, 3, 2, 1, 0] (.eff 10 [7, 6, 5, 4] (.eff 11 [] .done .none) .none) .none) (.eff 9 [7, 6, 5, 4, 3, 2, 1, 0] (.eff 8 [7, 6, 5, 4, 3, 2, 1, 0] (.eff 10 [7, 6, 5, 4] (.eff 11 [] .done .none) .none) .none) .none)))))))))) (by kernel_rfl) (by kernel_rfl) (by kernel_rfl) ⟨41, [(0, .int .i64 i), (1, .int .i64 k), (6, .ptr 0 0), (7, .ptr 1 0)], [(0, .box 26 [.int .i64 ax, .int .i64 ay, .int .i64 aw, .int .i64 ah]), (1, .box 26 [.int .i64 bx, .int .i64 by', .int .i64 bw, .int .i64 bh])], 2⟩ ?_ ?_
  · (repeat' first | with_reducible (first | intro _ | refine rc ?_ | refine rl ?_ | refine rh ?_ | refine rt ?_ | refine rf ?_ | refine rs ?_ | refine And.intro ?_ ?_) | omega | simp (maxSteps := 1000000) only [go_sem, simprocAttr, ↓reduceIte, List.length_map, elemA, e1, e2])
    all_goals refine Ent.auto0 rfl ?_ ?_ <;> simp only [go_sem, reduceCtorEq, reduceIte, Nat.reduceEqDiff, Nat.reduceLT, Nat.reduceLeDiff, Int.natCast_succ]
  (repeat' first | with_reducible (first | intro _ | refine rc ?_ | refine rl ?_ | refine rh ?_ | refine rt ?_ | refine rf ?_ | refine rs ?_ | refine And.intro ?_ ?_) | omega | simp (maxSteps := 1000000) only [go_sem, simprocAttr, ↓reduceIte])
  refine VcDraw.lex [23] [] (by kernel_rfl) (by kernel_rfl) ?_
  (repeat' first | with_reducible (first | intro _ | refine rc ?_ | refine rl ?_ | refine rh ?_ | refine rt ?_ | refine rf ?_ | refine rs ?_ | refine And.intro ?_ ?_) | omega | simp (maxSteps := 1000000) only [go_sem, simprocAttr, ↓reduceIte])
  (refine QV.intro (.int .i64 c1) ?_ ?_; focus ((repeat' first | with_reducible (first | intro _ | refine rc ?_ | refine rl ?_ | refine rh ?_ | refine rt ?_ | refine rf ?_ | refine rs ?_ | refine And.intro ?_ ?_) | omega | simp (maxSteps := 1000000) only [go_sem, simprocAttr, ↓reduceIte]); refine VcCall.k (k1) ?_; (repeat' first | with_reducible (first | intro _ | refine rc ?_ | refine rl ?_ | refine rh ?_ | refine rt ?_ | refine rf ?_ | refine rs ?_ | refine And.intro ?_ ?_) | omega | simp (maxSteps := 1000000) only [go_sem, simprocAttr, ↓reduceIte])))
  (repeat' first | with_reducible (first | intro _ | refine rc ?_ | refine rl ?_ | refine rh ?_ | refine rt ?_ | refine rf ?_ | refine rs ?_ | refine And.intro ?_ ?_) | omega | simp (maxSteps := 1000000) only [go_sem, simprocAttr, ↓reduceIte])
  (refine QV.intro (.int .i64 c2) ?_ ?_; focus ((repeat' first | with_reducible (first | intro _ | refine rc ?_ | refine rl ?_ | refine rh ?_ | refine rt ?_ | refine rf ?_ | refine rs ?_ | refine And.intro ?_ ?_) | omega | simp (maxSteps := 1000000) only [go_sem, simprocAttr, ↓reduceIte]); refine VcCall.k (k2) ?_; (repeat' first | with_reducible (first | intro _ | refine rc ?_ | refine rl ?_ | refine rh ?_ | refine rt ?_ | refine rf ?_ | refine rs ?_ | refine And.intro ?_ ?_) | omega | simp (maxSteps := 1000000) only [go_sem, simprocAttr, ↓reduceIte])))
  (repeat' first | with_reducible (first | intro _ | refine rc ?_ | refine rl ?_ | refine rh ?_ | refine rt ?_ | refine rf ?_ | refine rs ?_ | refine And.intro ?_ ?_) | omega | simp (maxSteps := 1000000) only [go_sem, simprocAttr, ↓reduceIte])
  (refine QV.intro (.int .i64 c3) ?_ ?_; focus ((repeat' first | with_reducible (first | intro _ | refine rc ?_ | refine rl ?_ | refine rh ?_ | refine rt ?_ | refine rf ?_ | refine rs ?_ | refine And.intro ?_ ?_) | omega | simp (maxSteps := 1000000) only [go_sem, simprocAttr, ↓reduceIte]); refine VcCall.k (k3) ?_; (repeat' first | with_reducible (first | intro _ | refine rc ?_ | refine rl ?_ | refine rh ?_ | refine rt ?_ | refine rf ?_ | refine rs ?_ | refine And.intro ?_ ?_) | omega | simp (maxSteps := 1000000) only [go_sem, simprocAttr, ↓reduceIte])))
  (repeat' first | with_reducible (first | intro _ | refine rc ?_ | refine rl ?_ | refine rh ?_ | refine rt ?_ | refine rf ?_ | refine rs ?_ | refine And.intro ?_ ?_) | omega | simp (maxSteps := 1000000) only [go_sem, simprocAttr, ↓reduceIte])
  (refine QV.intro (.int .i64 c4) ?_ ?_; focus ((repeat' first | with_reducible (first | intro _ | refine rc ?_ | refine rl ?_ | refine rh ?_ | refine rt ?_ | refine rf ?_ | refine rs ?_ | refine And.intro ?_ ?_) | omega | simp (maxSteps := 1000000) only [go_sem, simprocAttr, ↓reduceIte]); refine VcCall.k (k4) ?_; (repeat' first | with_reducible (first | intro _ | refine rc ?_ | refine rl ?_ | refine rh ?_ | refine rt ?_ | refine rf ?_ | refine rs ?_ | refine And.intro ?_ ?_) | omega | simp (maxSteps := 1000000) only [go_sem, simprocAttr, ↓reduceIte])))
  (repeat' first | with_reducible (first | intro _ | refine rc ?_ | refine rl ?_ | refine rh ?_ | refine rt ?_ | refine rf ?_ | refine rs ?_ | refine And.intro ?_ ?_) | omega | simp (maxSteps := 1000000) only [go_sem, simprocAttr, ↓reduceIte])
  (refine QV.intro (.int .i64 c5) ?_ ?_; focus ((repeat' first | with_reducible (first | intro _ | refine rc ?_ | refine rl ?_ | refine rh ?_ | refine rt ?_ | refine rf ?_ | refine rs ?_ | refine And.intro ?_ ?_) | omega | simp (maxSteps := 1000000) only [go_sem, simprocAttr, ↓reduceIte]); refine VcCall.k (k5) ?_; (repeat' first | with_reducible (first | intro _ | refine rc ?_ | refine rl ?_ | refine rh ?_ | refine rt ?_ | refine rf ?_ | refine rs ?_ | refine And.intro ?_ ?_) | omega | simp (maxSteps := 1000000) only [go_sem, simprocAttr, ↓reduceIte])))
  (repeat' first | with_reducible (first | intro _ | refine rc ?_ | refine rl ?_ | refine rh ?_ | refine rt ?_ | refine rf ?_ | refine rs ?_ | refine And.intro ?_ ?_) | omega | simp (maxSteps := 1000000) only [go_sem, simprocAttr, ↓reduceIte])
  (refine QV.intro (.int .i64 o) ?_ ?_; focus ((repeat' first | with_reducible (first | intro _ | refine rc ?_ | refine rl ?_ | refine rh ?_ | refine rt ?_ | refine rf ?_ | refine rs ?_ | refine And.intro ?_ ?_) | omega | simp (maxSteps := 1000000) only [go_sem, simprocAttr, ↓reduceIte]); refine VcCall.k (ko) ?_; (repeat' first | with_reducible (first | intro _ | refine rc ?_ | refine rl ?_ | refine rh ?_ | refine rt ?_ | refine rf ?_ | refine rs ?_ | refine And.intro ?_ ?_) | omega | simp (maxSteps := 1000000) only [go_sem, simprocAttr, ↓reduceIte])))
  (repeat' first | with_reducible (first | intro _ | refine rc ?_ | refine rl ?_ | refine rh ?_ | refine rt ?_ | refine rf ?_ | refine rs ?_ | refine And.intro ?_ ?_) | omega | simp (maxSteps := 1000000) only [go_sem, simprocAttr, ↓reduceIte])
  refine Ret.auto 0 ?_ rfl ?_ <;> simp only [go_sem, reduceCtorEq, reduceIte, Nat.reduceEqDiff, Nat.reduceLT, Nat.reduceLeDiff, Int.natCast_succ, Post]
theorem first6_ok (i e m : Int) (hi : InL L i) : FnOk Tryd.prog 75 [.int .i64 i, .cell [.ro (bxs L)], .cell [.int .i64 e, .int .i64 m]] (.bool (decide ((bAt L i).y < e))) [] := by
  have e1 := bAt_elem hi
  unfold InL at hi
  generalize bAt L i = a at *
  refine FnOk.of_vc Tryd.func75 rfl (by decide) (by simp [Tryd.f75]) [.tmp 4] rfl fun w0 T0 _ => ?_
  simp only [Tryd.f75, argEnv]
  (repeat' first | with_reducible (first | intro _ | refine rc ?_ | refine rl ?_ | refine rh ?_ | refine rt ?_ | refine rf ?_ | refine rs ?_ | refine And.intro ?_ ?_) | omega | simp (maxSteps := 1000000) only [go_sem, simprocAttr, ↓reduceIte])
  refine VcDraw.lex [] [] (by kernel_rfl) (by kernel_rfl) ?_
  (repeat' first | with_reducible (first | intro _ | refine rc ?_ | refine rl ?_ | refine rh ?_ | refine rt ?_ | refine rf ?_ | refine rs ?_ | refine And.intro ?_ ?_) | omega | simp (maxSteps := 1000000) only [go_sem, simprocAttr, ↓reduceIte, List.length_map, elemA, e1])
  refine Ret.auto 0 ?_ rfl ?_ <;> simp only [go_sem, reduceCtorEq, reduceIte, Nat.reduceEqDiff, Nat.reduceLT, Nat.reduceLeDiff, Int.natCast_succ, Post]
theorem first7_ok (i e m : Int) (hi : InL L i) : FnOk Tryd.prog 77 [.int .i64 i, .cell [.ro (bxs L)], .cell [.int .i64 e, .int .i64 m]] (.bool (decide ((bAt L i).x < e))) [] := by
  have e1 := bAt_elem hi
  unfold InL at hi
  generalize bAt L i = a at *
  refine FnOk.of_vc Tryd.func77 rfl (by decide) (by simp [Tryd.f77]) [.tmp 4] rfl fun w0 T0 _ => ?_
  simp only [Tryd.f77, argEnv]
  (repeat' first | with_reducible (first | intro _ | refine rc ?_ | refine rl ?_ | refine rh ?_ | refine rt ?_ | refine rf ?_ | refine rs ?_ | refine And.intro ?_ ?_) | omega | simp (maxSteps := 1000000) only [go_sem, simprocAttr, ↓reduceIte])
  refine VcDraw.lex [] [] (by kernel_rfl) (by kernel_rfl) ?_
  (repeat' first | with_reducible (first | intro _ | refine rc ?_ | refine rl ?_ | refine rh ?_ | refine rt ?_ | refine rf ?_ | refine rs ?_ | refine And.intro ?_ ?_) | omega | simp (maxSteps := 1000000) only [go_sem, simprocAttr, ↓reduceIte, List.length_map, elemA, e1])
  refine Ret.auto 0 ?_ rfl ?_ <;> simp only [go_sem, reduceCtorEq, reduceIte, Nat.reduceEqDiff, Nat.reduceLT, Nat.reduceLeDiff, Int.natCast_succ, Post]
end
end Go.Fv.P

namespace Go.Fv.P
open Go Go.Proofs
set_option linter.unusedSimpArgs false
set_option linter.unusedVariables false
set_option maxRecDepth 8000
/-- The first place where something holds, or -1. -/
def firstAt {α : Type} (q : α → Bool) : List α → Nat → Int
  | [], _ => -1
  | x :: l, i => if q x = true then i else firstAt q l (i + 1)
theorem firstAt_any {α : Type} (q : α → Bool) : ∀ (l : List α) (i : Nat), (0 ≤ firstAt q l i) ↔ l.any q = true
  | [], i => by simp [firstAt]
  | x :: l, i => by
    simp only [firstAt, List.any_cons]
    split
    · rename_i h; simp [h]
    · rename_i h; simp [h, firstAt_any q l (i + 1)]
theorem drop_at {α : Type} (l : List α) (d : α) {i : Nat} (h : i < l.length) : l.drop i = l.getD i d :: l.drop (i + 1) := by
  rw [List.drop_eq_getElem_cons h, getD_lt h]
end Go.Fv.P

/- slices.IndexFunc and ContainsFunc of integers. -/
namespace Go.Fv.P
open Go Go.Proofs
set_option linter.unusedSimpArgs false
set_option linter.unusedVariables false
set_option maxRecDepth 8000
set_option maxHeartbeats 1000000 in
theorem indexFuncI_ok (l : List Int) (f : Nat) (caps : List AV) [CapsOk caps] (q : Int → Bool) (hq : ∀ x : Int, x ∈ l → FnFr Tryd.prog f ([.int .i64 x] ++ caps) (.bool (q x)) []) :
    FnOk Tryd.prog 120 [.ro (.ints .i64 l), .fn f caps] (.int .i64 (firstAt q l 0)) [] := by
  refine FnOk.of_vc Tryd.func120 rfl (by decide) (by simp [Tryd.f120]) [.tmp 4] rfl fun w0 T0 _ => ?_
  simp only [Tryd.f120, argEnv]
  (repeat' first | with_reducible (first | intro _ | refine rc ?_ | refine rl ?_ | refine rh ?_ | refine rt ?_ | refine rf ?_ | refine rs ?_ | refine And.intro ?_ ?_) | omega | simp (maxSteps := 1000000) only [go_sem, simprocAttr, ↓reduceIte, List.length_map])
  refine VcLoop.intro (fun i : Nat => ⟨19, [(0, .ro (.ints .i64 l)), (1, .fn f caps), (7, .int .i64 l.length), (8, .int .i64 i)], [], 0⟩) (fun i => i ≤ l.length ∧ firstAt q (l.drop i) i = firstAt q l 0) (fun i => l.length - i) 0 ?_ ⟨Nat.zero_le _, rfl⟩ fun i hI => ?_
  · refine Ent.auto0 rfl ?_ ?_ <;> simp only [go_sem, reduceCtorEq, reduceIte, Nat.reduceEqDiff, Nat.reduceLT, Nat.reduceLeDiff, Int.natCast_succ]
  obtain ⟨hl, hI⟩ := hI
  by_cases hlt : i < l.length
  · have he := trivial
    have hd := drop_at l 0 hlt
    rw [hd, firstAt] at hI
    (repeat' first | with_reducible (first | intro _ | refine rc ?_ | refine rl ?_ | refine rh ?_ | refine rt ?_ | refine rf ?_ | refine rs ?_ | refine And.intro ?_ ?_) | omega | simp (maxSteps := 1000000) only [go_sem, simprocAttr, ↓reduceIte, List.length_map, true_and])
    refine VcCall.fr (args' := [.int .i64 (l.getD i 0)] ++ caps) (hq _ (by rw [getD_lt hlt]; exact List.getElem_mem hlt)) (by simp [argOkL, allOk, argOkN, allOk_caps]) 0 rfl (by simp [rowsB]) ?_
    (repeat' first | with_reducible (first | intro _ | refine rc ?_ | refine rl ?_ | refine rh ?_ | refine rt ?_ | refine rf ?_ | refine rs ?_ | refine And.intro ?_ ?_) | omega | simp (maxSteps := 1000000) only [go_sem, simprocAttr, ↓reduceIte])
    · rename_i h2
      rw [if_pos h2] at hI
      refine Ret.auto 0 ?_ rfl ?_ <;> simp only [go_sem, reduceCtorEq, reduceIte, Nat.reduceEqDiff, Nat.reduceLT, Nat.reduceLeDiff, Int.natCast_succ, Post]
      rw [← hI]
    · rename_i h2
      rw [if_neg (by rw [h2]; exact Bool.false_ne_true)] at hI
      refine ⟨i + 1, Ent.auto0 rfl ?_ ?_, ⟨by omega, hI⟩, by omega⟩ <;> simp only [go_sem, reduceCtorEq, reduceIte, Nat.reduceEqDiff, Nat.reduceLT, Nat.reduceLeDiff, Int.natCast_succ]
      all_goals rfl
  · have e : i = l.length := by omega
    subst e
    rw [List.drop_length] at hI
    (repeat' first | with_reducible (first | intro _ | refine rc ?_ | refine rl ?_ | refine rh ?_ | refine rt ?_ | refine rf ?_ | refine rs ?_ | refine And.intro ?_ ?_) | omega | simp (maxSteps := 1000000) only [go_sem, simprocAttr, ↓reduceIte, List.length_map])
    refine Ret.auto 0 ?_ rfl ?_ <;> simp only [go_sem, reduceCtorEq, reduceIte, Nat.reduceEqDiff, Nat.reduceLT, Nat.reduceLeDiff, Int.natCast_succ, Post]
    rw [← hI]; rfl

theorem contFuncI_ok (l : List Int) (f : Nat) (caps : List AV) [CapsOk caps] (q : Int → Bool) (hq : ∀ s : Int, s ∈ l → FnFr Tryd.prog f ([.int .i64 s] ++ caps) (.bool (q s)) []) :
    FnOk Tryd.prog 82 [.ro (.ints .i64 l), .fn f caps] (.bool (l.any q)) [] := by
  have k := indexFuncI_ok l f caps q hq
  have e : l.any q = decide (0 ≤ firstAt q l 0) := by rw [Bool.eq_iff_iff, decide_eq_true_eq, firstAt_any]
  rw [e]
  refine FnOk.of_vc Tryd.func82 rfl (by decide) (by simp [Tryd.f82]) [.tmp 4] rfl fun w0 T0 _ => ?_
  simp only [Tryd.f82, argEnv]
  (repeat' first | with_reducible (first | intro _ | refine rc ?_ | refine rl ?_ | refine rh ?_ | refine rt ?_ | refine rf ?_ | refine rs ?_ | refine And.intro ?_ ?_) | omega | simp (maxSteps := 1000000) only [go_sem, simprocAttr, ↓reduceIte])
  refine VcCall.fr (args' := [.ro (.ints .i64 l), .fn f caps]) (FnFr.of_ok k rfl rfl) (by simp [argOkL, allOk, argOkN, allOk_caps5]) 0 rfl (by simp [rowsB]) ?_
  (repeat' first | with_reducible (first | intro _ | refine rc ?_ | refine rl ?_ | refine rh ?_ | refine rt ?_ | refine rf ?_ | refine rs ?_ | refine And.intro ?_ ?_) | omega | simp (maxSteps := 1000000) only [go_sem, simprocAttr, ↓reduceIte])
  refine Ret.auto 0 ?_ rfl ?_ <;> simp only [go_sem, reduceCtorEq, reduceIte, Nat.reduceEqDiff, Nat.reduceLT, Nat.reduceLeDiff, Int.natCast_succ, Post]
end Go.Fv.P

/-! Gaps out of their range: the walk. -/
namespace Go.Fv.P
open Go Go.Proofs
set_option linter.unusedSimpArgs false
set_option linter.unusedVariables false
set_option maxRecDepth 8000

def gapBad (n : Int) : Bool := decide (n < 1 ∨ 4000 < n)
theorem badGap1_ok (n : Int) : FnOk Tryd.prog 83 [.int .i64 n] (.bool (gapBad n)) [] := by
  unfold gapBad
  refine FnOk.of_vc Tryd.func83 rfl (by decide) (by simp [Tryd.f83]) [.tmp 2] rfl fun w0 T0 _ => ?_
  simp only [Tryd.f83, argEnv]
  (repeat' first | with_reducible (first | intro _ | refine rc ?_ | refine rl ?_ | refine rh ?_ | refine rt ?_ | refine rf ?_ | refine rs ?_ | refine And.intro ?_ ?_) | omega | simp (maxSteps := 1000000) only [go_sem, simprocAttr, ↓reduceIte])
  all_goals refine Ret.auto 0 ?_ rfl ?_ <;> simp only [go_sem, reduceCtorEq, reduceIte, Nat.reduceEqDiff, Nat.reduceLT, Nat.reduceLeDiff, Int.natCast_succ, Post]
theorem badGap_ok (l : List Int) (hl : l.length ≤ 1000) : FnOk Tryd.prog 32 [.ro (.ints .i64 l)] (.bool (l.any gapBad)) [] := by
  haveI c1 : CapsOk [] := ⟨rfl⟩
  have k := contFuncI_ok l 83 [] gapBad (fun x _ => FnFr.of_ok (badGap1_ok x) rfl rfl)
  refine FnOk.of_vc Tryd.func32 rfl (by decide) (by simp [Tryd.f32]) [.tmp 2] rfl fun w0 T0 _ => ?_
  simp only [Tryd.f32, argEnv]
  (repeat' first | with_reducible (first | intro _ | refine rc ?_ | refine rl ?_ | refine rh ?_ | refine rt ?_ | refine rf ?_ | refine rs ?_ | refine And.intro ?_ ?_) | omega | simp (maxSteps := 1000000) only [go_sem, simprocAttr, ↓reduceIte])
  refine VcCall.k (k) ?_
  (repeat' first | with_reducible (first | intro _ | refine rc ?_ | refine rl ?_ | refine rh ?_ | refine rt ?_ | refine rf ?_ | refine rs ?_ | refine And.intro ?_ ?_) | omega | simp (maxSteps := 1000000) only [go_sem, simprocAttr, ↓reduceIte])
  refine Ret.auto 0 ?_ rfl ?_ <;> simp only [go_sem, reduceCtorEq, reduceIte, Nat.reduceEqDiff, Nat.reduceLT, Nat.reduceLeDiff, Int.natCast_succ, Post]
end Go.Fv.P

/-! The order of reading: what Order's recursion appends. The walk. -/
namespace Go.Fv.P
open Go Go.Proofs
set_option linter.unusedSimpArgs false
set_option linter.unusedVariables false
set_option linter.unnecessarySimpa false
set_option maxRecDepth 8000

theorem atCo_ok (c r : Int × Int) (gx gy : Int) (hc : -6000000 ≤ c.2 ∧ c.2 ≤ 6000000) (hr : -6000000 ≤ r.2 ∧ r.2 ≤ 6000000) (hgx : 1 ≤ gx ∧ gx ≤ 4000) (hgy : 1 ≤ gy ∧ gy ≤ 4000) :
    FnOk Tryd.prog 76 [.agg [.int .i64 c.1, .int .i64 c.2], .agg [.int .i64 r.1, .int .i64 r.2], .int .i64 gx, .int .i64 gy] (.bool (decide (0 < c.2 ∧ (r.2 = 0 ∨ r.2 * gx < c.2 * gy)))) [] := by
  obtain ⟨c1, c2⟩ := c
  obtain ⟨r1, r2⟩ := r
  dsimp only at hc hr ⊢
  have hm : ∀ a g : Int, -6000000 ≤ a → a ≤ 6000000 → 1 ≤ g → g ≤ 4000 → -24000000000 ≤ a * g ∧ a * g ≤ 24000000000 := fun a g h1 h2 h3 h4 => by
    have k1 : a * g ≤ 6000000 * g := Int.mul_le_mul_of_nonneg_right h2 (by omega)
    have k2 : -6000000 * g ≤ a * g := Int.mul_le_mul_of_nonneg_right h1 (by omega)
    omega
  have m1 := hm c2 gy hc.1 hc.2 hgy.1 hgy.2
  have m2 := hm r2 gx hr.1 hr.2 hgx.1 hgx.2
  refine FnOk.of_vc Tryd.func76 rfl (by decide) (by simp [Tryd.f76]) [.tmp 8] rfl fun w0 T0 _ => ?_
  simp only [Tryd.f76, argEnv]
  have n1 : -9223372036854775808 ≤ c2 * gy ∧ c2 * gy ≤ 9223372036854775807 := by omega
  have n2 : -9223372036854775808 ≤ r2 * gx ∧ r2 * gx ≤ 9223372036854775807 := by omega
  (repeat' first | with_reducible (first | intro _ | refine rc ?_ | refine rl ?_ | refine rh ?_ | refine rt ?_ | refine rf ?_ | refine rs ?_ | refine And.intro ?_ ?_) | omega | simp (maxSteps := 1000000) only [go_sem, simprocAttr, ↓reduceIte, eq_true n1.1, eq_true n1.2, eq_true n2.1, eq_true n2.2])
  all_goals refine Ret.auto 0 ?_ rfl ?_ <;> simp only [go_sem, reduceCtorEq, reduceIte, Nat.reduceEqDiff, Nat.reduceLT, Nat.reduceLeDiff, Int.natCast_succ, Post]
/-- What reading a list of numbers appends. -/
def OrdIO (L : List Bx) (gx gy : Int) (l o r : List Int) : Prop :=
  FnIO Tryd.prog 66 [.ro (.ints .i64 l), .ptr 0 0, .ptr 1 0, .ptr 2 0, .ptr 3 0, .ptr 4 0] [(0, .box 54 [.own 5]), (1, .box 29 [.ro (bxs L)]), (2, .box 3 [.int .i64 gx]), (3, .box 3 [.int .i64 gy]), (4, .box 114 [.fn 66 [.ptr 0 0, .ptr 1 0, .ptr 2 0, .ptr 3 0, .ptr 4 0]]), (5, .row 3 (.ints .i64 o))] 6 (.tup [])
    [(0, .box 54 [.own 6]), (1, .box 29 [.ro (bxs L)]), (2, .box 3 [.int .i64 gx]), (3, .box 3 [.int .i64 gy]), (4, .box 114 [.fn 66 [.ptr 0 0, .ptr 1 0, .ptr 2 0, .ptr 3 0, .ptr 4 0]]), (6, .row 3 (.ints .i64 (o ++ r)))]
theorem covO6 {a b c d e f : Item} : ∀ j, j < 6 → ∃ it, lk [(0, a), (1, b), (2, c), (3, d), (4, e), (5, f)] j = some it := fun j hj => by
  rcases j with _ | _ | _ | _ | _ | _ | j
  · exact ⟨_, rfl⟩
  · exact ⟨_, rfl⟩
  · exact ⟨_, rfl⟩
  · exact ⟨_, rfl⟩
  · exact ⟨_, rfl⟩
  · exact ⟨_, rfl⟩
  · omega
theorem ordGo_short {τ : Type} (b : τ → Bx) (srt : List τ → List τ) (gx gy : Int) (n : Nat) (l : List τ) (h : l.length < 2) : ordGo b srt gx gy n l = l := by
  cases n with
  | zero => rfl
  | succ n => unfold ordGo; rw [if_pos h]
theorem readShort_ok (L : List Bx) (gx gy : Int) (l o : List Int) (h : l.length < 2) (ho : o.length ≤ 6000) : OrdIO L gx gy l o l := by
  unfold OrdIO
  refine FnIO.of_vc Tryd.func66 rfl (by decide) (by simp [Tryd.f66]) covO6 [] rfl fun w0 T0 _ => ?_
  simp only [Tryd.f66, argEnv]
  (repeat' first | with_reducible (first | intro _ | refine rc ?_ | refine rl ?_ | refine rh ?_ | refine rt ?_ | refine rf ?_ | refine rs ?_ | refine And.intro ?_ ?_) | omega | simp (maxSteps := 1000000) only [go_sem, simprocAttr, ↓reduceIte])
  refine RetK.of [(6, 6)] 7 (by decide) (by decide) ?_ rfl ?_ <;> simp only [go_sem, reduceCtorEq, reduceIte, Nat.reduceEqDiff, Nat.reduceLT, Nat.reduceLeDiff, Int.natCast_succ, renR_ok, belowR_ok]
theorem prBd (L : List Bx) (hL : ∀ b, b ∈ L → BxOk b) : (∀ b, b ∈ L → (-3000000 ≤ b.x ∧ b.x ≤ 3000000) ∧ (-3000000 ≤ b.x + b.w ∧ b.x + b.w ≤ 3000000) ∧ b.x < b.x + b.w) ∧ ∀ b, b ∈ L → (-3000000 ≤ b.y ∧ b.y ≤ 3000000) ∧ (-3000000 ≤ b.y + b.h ∧ b.y + b.h ≤ 3000000) ∧ b.y < b.y + b.h := by
  refine ⟨fun b hb => ?_, fun b hb => ?_⟩ <;> (have := hL b hb; unfold BxOk at this; omega)
theorem gapOf_bd {least : Int} {l : List (Int × Int)} (h : ∀ p, p ∈ l → (-3000000 ≤ p.1 ∧ p.1 ≤ 3000000) ∧ -3000000 ≤ p.2 ∧ p.2 ≤ 3000000) : -6000000 ≤ (gapOf least l).2 ∧ (gapOf least l).2 ≤ 6000000 := by
  have hp := sortPr_perm l
  unfold gapOf
  generalize sortPr l = m at *
  cases m with
  | nil => exact (by decide : (-6000000 : Int) ≤ 0 ∧ (0 : Int) ≤ 6000000)
  | cons p m =>
    have hm : ∀ q, q ∈ p :: m → _ := fun q hq => h q (hp.mem_iff.1 hq)
    have := (foldl_bd (least := least) (lo := -3000000) (hi := 3000000) (s0 := (p.2, 0, 0)) (by have := hm p (.head _); dsimp only; omega) (by dsimp only; omega) (by omega) m fun q hq => hm q (.tail _ hq)).2.1
    have e : (gapFold least (p :: m)).2 = (m.foldl (gapStep least) (p.2, 0, 0)).2.2 := rfl
    omega
theorem filter_app {τ : Type} (p : τ → Bool) (l : List τ) {k : Nat} {z : τ} (h : k < l.length) : (l.take (k + 1)).filter p = (l.take k).filter p ++ (if p (l.getD k z) = true then [l.getD k z] else []) := by
  rw [List.take_succ_eq_append_getElem h, getD_lt h, List.filter_append]
  cases hp : p l[k] <;> simp [hp]
theorem filter_len_take {τ : Type} (p : τ → Bool) (l : List τ) (k : Nat) : ((l.take k).filter p).length ≤ l.length := by
  have h1 := List.length_filter_le p (l.take k)
  have h2 : (l.take k).length ≤ l.length := by rw [List.length_take]; omega
  omega
def befX (L : List Bx) (e i : Int) : Bool := decide ((bAt L i).x < e)
def behX (L : List Bx) (e i : Int) : Bool := !decide ((bAt L i).x < e)
def befY (L : List Bx) (e i : Int) : Bool := decide ((bAt L i).y < e)
def behY (L : List Bx) (e i : Int) : Bool := !decide ((bAt L i).y < e)
theorem beh_eqX (L : List Bx) (e i : Int) : behX L e i = !befX L e i := rfl
theorem beh_eqY (L : List Bx) (e i : Int) : behY L e i = !befY L e i := rfl
set_option maxHeartbeats 16000000 in
theorem readStep_ok (L : List Bx) (hL : ∀ b, b ∈ L → BxOk b) (hLn : L.length ≤ 6000) (gx gy : Int) (hgx : 1 ≤ gx ∧ gx ≤ 4000) (hgy : 1 ≤ gy ∧ gy ≤ 4000) (l o : List Int) (hl : ∀ i, i ∈ l → InL L i) (h2 : ¬ l.length < 2) (hn : o.length + l.length ≤ 6000) (c r : Int × Int)
    (hc : gapOf gx (l.map fun i => fx (bAt L i)) = c) (hr : gapOf gy (l.map fun i => fy (bAt L i)) = r) (res : List Int)
    (hA : c.2 = 0 ∧ r.2 = 0 → res = sortKey (kI L) l) (hB : ¬ (c.2 = 0 ∧ r.2 = 0) → atG c r gx gy → ∃ s t, res = s ++ t ∧ OrdIO L gx gy (l.filter (befX L c.1)) o s ∧ OrdIO L gx gy (l.filter (behX L c.1)) (o ++ s) t)
    (hC : ¬ (c.2 = 0 ∧ r.2 = 0) → ¬ atG c r gx gy → ∃ s t, res = s ++ t ∧ OrdIO L gx gy (l.filter (befY L r.1)) o s ∧ OrdIO L gx gy (l.filter (behY L r.1)) (o ++ s) t) : OrdIO L gx gy l o res := by
  obtain ⟨pX, pY⟩ := prBd L hL
  have kX := between_ok L 68 69 (fun b => b.x) (fun b => b.x + b.w) pX l hl (by omega) (by omega) hLn gx hgx.1 hgx.2 (fun b hb => side1_ok b (hL b hb)) (fun b hb => side2_ok b (hL b hb))
  have kY := between_ok L 70 71 (fun b => b.y) (fun b => b.y + b.h) pY l hl (by omega) (by omega) hLn gy hgy.1 hgy.2 (fun b hb => side3_ok b (hL b hb)) (fun b hb => side4_ok b (hL b hb))
  rw [show prI L (fun b => b.x) (fun b => b.x + b.w) = fun i => fx (bAt L i) from rfl, hc] at kX
  rw [show prI L (fun b => b.y) (fun b => b.y + b.h) = fun i => fy (bAt L i) from rfl, hr] at kY
  have bc : -6000000 ≤ c.2 ∧ c.2 ≤ 6000000 := by
    rw [← hc]; exact gapOf_bd fun p hp => by
      obtain ⟨i, hi, rfl⟩ := List.mem_map.1 hp
      have := pX _ (bAt_mem (hl i hi))
      unfold fx; dsimp only; omega
  have br : -6000000 ≤ r.2 ∧ r.2 ≤ 6000000 := by
    rw [← hr]; exact gapOf_bd fun p hp => by
      obtain ⟨i, hi, rfl⟩ := List.mem_map.1 hp
      have := pY _ (bAt_mem (hl i hi))
      unfold fy; dsimp only; omega
  have kA := atCo_ok c r gx gy bc br hgx hgy
  have hcf : ∀ i k, (InL L i ∧ InK .i64 i) → (InL L k ∧ InK .i64 k) → (orL (List.zipWith cmp3 (kI L i) (kI L k)) < 0 ↔ kI L i < kI L k) := fun i k _ _ => orL_lt cmp3_i rfl
  have hgood : ∀ i, i ∈ l → InL L i ∧ InK .i64 i := fun i hi => ⟨hl i hi, by have := hl i hi; unfold InL at this; exact InK_i64.2 (by omega)⟩
  obtain ⟨q, hqp, hqs, kS⟩ := sortF1_io Tryd.lSoF ⟨_, Tryd.func73, by kernel_rfl, by kernel_rfl⟩ 3 (good := fun i => InL L i ∧ InK .i64 i) (cf := fun i k => orL (List.zipWith cmp3 (kI L i) (kI L k)))
    (cmpOrd_key (key := kI L) hcf) 74 [.cell [.ro (bxs L)]] rfl (fun x y hx hy => FnFr.of_ok (ord5_ok L x y hx.1 hy.1) rfl rfl) l hgood (fun x h => h.2) (by omega)
  have hq : q = sortKey (kI L) l := sortKey_unique (fun i k _ _ h => kI_inj h) hqp (sortedBy_key (good := fun i => InL L i ∧ InK .i64 i) hcf (fun x hx => hgood x (hqp.mem_iff.1 hx)) hqs)
  have hql := hqp.length_eq
  clear hc hr
  obtain ⟨c1, c2⟩ := c
  obtain ⟨r1, r2⟩ := r
  dsimp only at *
  by_cases hz : c2 = 0 ∧ r2 = 0
  · rw [hA hz, ← hq]
    unfold OrdIO
    refine FnIO.of_vc Tryd.func66 rfl (by decide) (by simp [Tryd.f66]) covO6 [] rfl fun w0 T0 _ => ?_
    simp only [Tryd.f66, argEnv]
    (repeat' first | with_reducible (first | intro _ | refine rc ?_ | refine rl ?_ | refine rh ?_ | refine rt ?_ | refine rf ?_ | refine rs ?_ | refine And.intro ?_ ?_) | omega | simp (maxSteps := 1000000) only [go_sem, simprocAttr, ↓reduceIte])
    refine VcCall.k (kX) ?_
    (repeat' first | with_reducible (first | intro _ | refine rc ?_ | refine rl ?_ | refine rh ?_ | refine rt ?_ | refine rf ?_ | refine rs ?_ | refine And.intro ?_ ?_) | omega | simp (maxSteps := 1000000) only [go_sem, simprocAttr, ↓reduceIte])
    refine VcCall.k (kY) ?_
    (repeat' first | with_reducible (first | intro _ | refine rc ?_ | refine rl ?_ | refine rh ?_ | refine rt ?_ | refine rf ?_ | refine rs ?_ | refine And.intro ?_ ?_) | omega | simp (maxSteps := 1000000) only [go_sem, simprocAttr, ↓reduceIte])
    refine VcCall.fr (FnFr.of_ok (cloneI_ok l (by omega)) rfl rfl) (by simp only [noIdR_ok, argOkL, argOk, allOk, argOkN, List.drop_zero, lk, reduceIte, reduceCtorEq, Nat.reduceEqDiff, Option.some.injEq, Item.row.injEq, Item.box.injEq, AV.ro.injEq, exists_eq_left, exists_and_left, exists_eq_left', exists_eq_right, and_assoc, and_true, true_and, List.cons.injEq, exists_eq', exists_eq]) 1 rfl (by simp [rowsB, Item.below, belowR_ok]) ?_
    (repeat' first | with_reducible (first | intro _ | refine rc ?_ | refine rl ?_ | refine rh ?_ | refine rt ?_ | refine rf ?_ | refine rs ?_ | refine And.intro ?_ ?_) | omega | simp (maxSteps := 1000000) only [go_sem, simprocAttr, ↓reduceIte, renR_ok])
    refine VcCall.ioL [8] kS rfl rfl (by decide) ⟨_, _, .inl ⟨rfl, rfl⟩, ⟨_, _, .inr (by simp only [noIdR_ok, argOkL, argOk, allOk, argOkN, List.drop_zero, lk, reduceIte, reduceCtorEq, Nat.reduceEqDiff, Option.some.injEq, Item.row.injEq, Item.box.injEq, AV.ro.injEq, exists_eq_left, exists_and_left, exists_eq_left', exists_eq_right, and_assoc, and_true, true_and, List.cons.injEq, exists_eq', exists_eq, delL, del]), rfl, rfl⟩, rfl⟩ (by simp [subOk, ioN, lk, Item.ren, Item.below, renR_ok, belowR_ok]) covO1 1 (by decide) rfl (by simp [rowsB, Item.below, belowR_ok]) ?_
    (repeat' first | with_reducible (first | intro _ | refine rc ?_ | refine rl ?_ | refine rh ?_ | refine rt ?_ | refine rf ?_ | refine rs ?_ | refine And.intro ?_ ?_) | omega | simp (maxSteps := 1000000) only [go_sem, simprocAttr, ↓reduceIte, S.ioS, ioRows, ioN, delL, Item.ren, renR_ok, List.length_cons, List.length_nil, List.getElem?_cons_zero, List.cons_append, List.nil_append, Nat.sub_self, Nat.add_zero, List.filter])
    refine RetK.of [(6, 9)] 7 (by decide) (by decide) ?_ rfl ?_ <;> simp only [go_sem, reduceCtorEq, reduceIte, Nat.reduceEqDiff, Nat.reduceLT, Nat.reduceLeDiff, Int.natCast_succ, renR_ok, belowR_ok, List.append_assoc]
  · by_cases hat : atG (c1, c2) (r1, r2) gx gy
    · obtain ⟨s, t, hst, k1, k2⟩ := hB hz hat
      rw [hst]
      rw [decide_eq_true (show (0 < c2 ∧ (r2 = 0 ∨ r2 * gx < c2 * gy)) from hat)] at kA
      unfold OrdIO at *
      rw [List.append_assoc] at k2
      rw [← List.append_assoc] at k2
      refine FnIO.of_vc Tryd.func66 rfl (by decide) (by simp [Tryd.f66]) covO6 [] rfl fun w0 T0 _ => ?_
      simp only [Tryd.f66, argEnv]
      (repeat' first | with_reducible (first | intro _ | refine rc ?_ | refine rl ?_ | refine rh ?_ | refine rt ?_ | refine rf ?_ | refine rs ?_ | refine And.intro ?_ ?_) | omega | simp (maxSteps := 1000000) only [go_sem, simprocAttr, ↓reduceIte])
      refine VcCall.k (kX) ?_
      (repeat' first | with_reducible (first | intro _ | refine rc ?_ | refine rl ?_ | refine rh ?_ | refine rt ?_ | refine rf ?_ | refine rs ?_ | refine And.intro ?_ ?_) | omega | simp (maxSteps := 1000000) only [go_sem, simprocAttr, ↓reduceIte])
      refine VcCall.k (kY) ?_
      (repeat' first | with_reducible (first | intro _ | refine rc ?_ | refine rl ?_ | refine rh ?_ | refine rt ?_ | refine rf ?_ | refine rs ?_ | refine And.intro ?_ ?_) | omega | simp (maxSteps := 1000000) only [go_sem, simprocAttr, ↓reduceIte])
      refine VcCall.k (kA) ?_
      (repeat' first | with_reducible (first | intro _ | refine rc ?_ | refine rl ?_ | refine rh ?_ | refine rt ?_ | refine rf ?_ | refine rs ?_ | refine And.intro ?_ ?_) | omega | simp (maxSteps := 1000000) only [go_sem, simprocAttr, ↓reduceIte])
      refine VcLoop.run (fun k : Nat => ⟨76, [(54, .int .i64 k), (53, .int .i64 l.length), (52, .ro (.ints .i64 l)), (10, .fn 77 [.ptr 1 0, .ptr 6 0]), (11, .own 8), (12, .own 9), (5, .ptr 4 0), (4, .ptr 3 0), (3, .ptr 2 0), (2, .ptr 1 0), (1, .ptr 0 0)], [(0, .box 54 [.own 5]), (1, .box 29 [.ro (bxs L)]), (2, .box 3 [.int .i64 gx]), (3, .box 3 [.int .i64 gy]), (4, .box 114 [.fn 66 [.ptr 0 0, .ptr 1 0, .ptr 2 0, .ptr 3 0, .ptr 4 0]]), (5, .row 3 (.ints .i64 o)), (6, .box 116 [.int .i64 c1, .int .i64 c2]), (7, .box 116 [.int .i64 r1, .int .i64 r2]), (8, .row 3 (.ints .i64 ((l.take k).filter (befX L c1)))), (9, .row 3 (.ints .i64 ((l.take k).filter (behX L c1))))], 10⟩) (fun k => k ≤ l.length) (fun k => l.length - k) 0 ?_ (Nat.zero_le _) fun k hk => ?_
      · refine Ent.autoK 6 rfl (by show 6 ≤ 10; decide) ?_ ?_ <;> simp only [go_sem, reduceCtorEq, reduceIte, Nat.reduceEqDiff, Nat.reduceLT, Nat.reduceLeDiff, Int.natCast_succ, List.take_zero, List.filter_nil, fromL]
      by_cases hlt : k < l.length
      · have hik : InL L (l.getD k 0) := hl _ (by rw [getD_lt hlt]; exact List.getElem_mem _)
        have kf : FnOk Tryd.prog 77 _ (.bool (befX L c1 (l.getD k 0))) [] := first7_ok L (l.getD k 0) c1 c2 hik
        have f1 := filter_app (befX L c1) l (z := 0) hlt
        have f2 := filter_app (behX L c1) l (z := 0) hlt
        rw [beh_eqX] at f2
        have n1 := filter_len_take (befX L c1) l k
        have n2 := filter_len_take (behX L c1) l k
        try dsimp only at f1 f2
        generalize (l.take k).filter (befX L c1) = A at *
        generalize (l.take k).filter (behX L c1) = B at *
        refine VcRun.of ?_
        (repeat' first | with_reducible (first | intro _ | refine rc ?_ | refine rl ?_ | refine rh ?_ | refine rt ?_ | refine rf ?_ | refine rs ?_ | refine And.intro ?_ ?_) | omega | simp (maxSteps := 1000000) only [go_sem, simprocAttr, ↓reduceIte])
        cases hb : befX L c1 (l.getD k 0) with
        | true =>
          rw [hb] at kf f1 f2
          rw [if_pos rfl] at f1
          rw [if_neg (by decide), List.append_nil] at f2
          refine VcCall.k (kf) ?_
          (repeat' first | with_reducible (first | intro _ | refine rc ?_ | refine rl ?_ | refine rh ?_ | refine rt ?_ | refine rf ?_ | refine rs ?_ | refine And.intro ?_ ?_) | omega | simp (maxSteps := 1000000) only [go_sem, simprocAttr, ↓reduceIte])
          refine ⟨k + 1, Ent.autoK 6 rfl (by show 6 ≤ 10; decide) ?_ ?_, by omega, by omega⟩ <;> simp only [go_sem, reduceCtorEq, reduceIte, Nat.reduceEqDiff, Nat.reduceLT, Nat.reduceLeDiff, Int.natCast_succ, f1, f2, fromL]
        | false =>
          rw [hb] at kf f1 f2
          rw [if_neg (by decide), List.append_nil] at f1
          rw [if_pos (show (!false) = true from rfl)] at f2
          refine VcCall.k (kf) ?_
          (repeat' first | with_reducible (first | intro _ | refine rc ?_ | refine rl ?_ | refine rh ?_ | refine rt ?_ | refine rf ?_ | refine rs ?_ | refine And.intro ?_ ?_) | omega | simp (maxSteps := 1000000) only [go_sem, simprocAttr, ↓reduceIte])
          refine ⟨k + 1, Ent.autoK 6 rfl (by show 6 ≤ 10; decide) ?_ ?_, by omega, by omega⟩ <;> simp only [go_sem, reduceCtorEq, reduceIte, Nat.reduceEqDiff, Nat.reduceLT, Nat.reduceLeDiff, Int.natCast_succ, f1, f2, fromL]
      · have e : k = l.length := by omega
        subst e
        rw [List.take_length]
        refine VcRun.ent (Ent.trans (Ent.fz 8 (e := 3) (r := .ints .i64 (l.filter (befX L c1))) rfl rfl (by decide)) (Ent.trans (Ent.fz 9 (e := 3) (r := .ints .i64 (l.filter (behX L c1))) rfl rfl (by decide)) (Ent.autoK (s' := ⟨76, [(54, .int .i64 l.length), (53, .int .i64 l.length), (11, .ro (.ints .i64 (l.filter (befX L c1)))), (12, .ro (.ints .i64 (l.filter (behX L c1)))), (5, .ptr 4 0), (4, .ptr 3 0), (3, .ptr 2 0), (2, .ptr 1 0), (1, .ptr 0 0)], [(0, .box 54 [.own 5]), (1, .box 29 [.ro (bxs L)]), (2, .box 3 [.int .i64 gx]), (3, .box 3 [.int .i64 gy]), (4, .box 114 [.fn 66 [.ptr 0 0, .ptr 1 0, .ptr 2 0, .ptr 3 0, .ptr 4 0]]), (5, .row 3 (.ints .i64 o))], 6⟩) 6 rfl (Nat.le_refl 6) ?_ ?_))) (VcRun.of ?_)
        · simp only [go_sem, reduceCtorEq, reduceIte, Nat.reduceEqDiff, Nat.reduceLT, Nat.reduceLeDiff, Int.natCast_succ, fromL]
        · simp only [go_sem, reduceCtorEq, reduceIte, Nat.reduceEqDiff, Nat.reduceLT, Nat.reduceLeDiff, Int.natCast_succ, fromL]
        (repeat' first | with_reducible (first | intro _ | refine rc ?_ | refine rl ?_ | refine rh ?_ | refine rt ?_ | refine rf ?_ | refine rs ?_ | refine And.intro ?_ ?_) | omega | simp (maxSteps := 1000000) only [go_sem, simprocAttr, ↓reduceIte])
        refine VcCall.io [0, 1, 2, 3, 4, 5] k1 (by decide) (by simp [renL, ren, ioN]) rfl (by simp [subOk, ioN, lk, Item.ren, Item.below, ren, renL, belowL, Fv.below, renR_ok, belowR_ok]) covO6 7 (by decide) rfl (by simp [rowsB, Item.below, Fv.below, belowL, belowR_ok]) ?_
        (repeat' first | with_reducible (first | intro _ | refine rc ?_ | refine rl ?_ | refine rh ?_ | refine rt ?_ | refine rf ?_ | refine rs ?_ | refine And.intro ?_ ?_) | omega | simp (maxSteps := 1000000) only [go_sem, simprocAttr, ↓reduceIte, S.ioS, ioRows, ioN, delL, Item.ren, ren, renL, renR_ok, List.length_cons, List.length_nil, List.getElem?_cons_zero, List.getElem?_cons_succ, List.getElem?_nil, List.cons_append, List.nil_append, Nat.sub_self, Nat.add_zero, List.filter])
        refine VcCall.io [0, 1, 2, 3, 4, 6] k2 (by decide) (by simp [renL, ren, ioN]) rfl (by simp [subOk, ioN, lk, Item.ren, Item.below, ren, renL, belowL, Fv.below, renR_ok, belowR_ok]) covO6 7 (by decide) rfl (by simp [rowsB, Item.below, Fv.below, belowL, belowR_ok]) ?_
        (repeat' first | with_reducible (first | intro _ | refine rc ?_ | refine rl ?_ | refine rh ?_ | refine rt ?_ | refine rf ?_ | refine rs ?_ | refine And.intro ?_ ?_) | omega | simp (maxSteps := 1000000) only [go_sem, simprocAttr, ↓reduceIte, S.ioS, ioRows, ioN, delL, Item.ren, ren, renL, renR_ok, List.length_cons, List.length_nil, List.getElem?_cons_zero, List.getElem?_cons_succ, List.getElem?_nil, List.cons_append, List.nil_append, Nat.sub_self, Nat.add_zero, List.filter])
        refine RetK.of [(6, 7)] 7 (by decide) (by decide) ?_ rfl ?_ <;> simp only [go_sem, reduceCtorEq, reduceIte, Nat.reduceEqDiff, Nat.reduceLT, Nat.reduceLeDiff, Int.natCast_succ, renR_ok, belowR_ok, List.append_assoc]
    · obtain ⟨s, t, hst, k1, k2⟩ := hC hz hat
      rw [hst]
      rw [decide_eq_false (show ¬ (0 < c2 ∧ (r2 = 0 ∨ r2 * gx < c2 * gy)) from hat)] at kA
      unfold OrdIO at *
      rw [List.append_assoc] at k2
      rw [← List.append_assoc] at k2
      refine FnIO.of_vc Tryd.func66 rfl (by decide) (by simp [Tryd.f66]) covO6 [] rfl fun w0 T0 _ => ?_
      simp only [Tryd.f66, argEnv]
      (repeat' first | with_reducible (first | intro _ | refine rc ?_ | refine rl ?_ | refine rh ?_ | refine rt ?_ | refine rf ?_ | refine rs ?_ | refine And.intro ?_ ?_) | omega | simp (maxSteps := 1000000) only [go_sem, simprocAttr, ↓reduceIte])
      refine VcCall.k (kX) ?_
      (repeat' first | with_reducible (first | intro _ | refine rc ?_ | refine rl ?_ | refine rh ?_ | refine rt ?_ | refine rf ?_ | refine rs ?_ | refine And.intro ?_ ?_) | omega | simp (maxSteps := 1000000) only [go_sem, simprocAttr, ↓reduceIte])
      refine VcCall.k (kY) ?_
      (repeat' first | with_reducible (first | intro _ | refine rc ?_ | refine rl ?_ | refine rh ?_ | refine rt ?_ | refine rf ?_ | refine rs ?_ | refine And.intro ?_ ?_) | omega | simp (maxSteps := 1000000) only [go_sem, simprocAttr, ↓reduceIte])
      refine VcCall.k (kA) ?_
      (repeat' first | with_reducible (first | intro _ | refine rc ?_ | refine rl ?_ | refine rh ?_ | refine rt ?_ | refine rf ?_ | refine rs ?_ | refine And.intro ?_ ?_) | omega | simp (maxSteps := 1000000) only [go_sem, simprocAttr, ↓reduceIte])
      refine VcLoop.run (fun k : Nat => ⟨76, [(54, .int .i64 k), (53, .int .i64 l.length), (52, .ro (.ints .i64 l)), (10, .fn 75 [.ptr 1 0, .ptr 7 0]), (11, .own 8), (12, .own 9), (5, .ptr 4 0), (4, .ptr 3 0), (3, .ptr 2 0), (2, .ptr 1 0), (1, .ptr 0 0)], [(0, .box 54 [.own 5]), (1, .box 29 [.ro (bxs L)]), (2, .box 3 [.int .i64 gx]), (3, .box 3 [.int .i64 gy]), (4, .box 114 [.fn 66 [.ptr 0 0, .ptr 1 0, .ptr 2 0, .ptr 3 0, .ptr 4 0]]), (5, .row 3 (.ints .i64 o)), (6, .box 116 [.int .i64 c1, .int .i64 c2]), (7, .box 116 [.int .i64 r1, .int .i64 r2]), (8, .row 3 (.ints .i64 ((l.take k).filter (befY L r1)))), (9, .row 3 (.ints .i64 ((l.take k).filter (behY L r1))))], 10⟩) (fun k => k ≤ l.length) (fun k => l.length - k) 0 ?_ (Nat.zero_le _) fun k hk => ?_
      · refine Ent.autoK 6 rfl (by show 6 ≤ 10; decide) ?_ ?_ <;> simp only [go_sem, reduceCtorEq, reduceIte, Nat.reduceEqDiff, Nat.reduceLT, Nat.reduceLeDiff, Int.natCast_succ, List.take_zero, List.filter_nil, fromL]
      by_cases hlt : k < l.length
      · have hik : InL L (l.getD k 0) := hl _ (by rw [getD_lt hlt]; exact List.getElem_mem _)
        have kf : FnOk Tryd.prog 75 _ (.bool (befY L r1 (l.getD k 0))) [] := first6_ok L (l.getD k 0) r1 r2 hik
        have f1 := filter_app (befY L r1) l (z := 0) hlt
        have f2 := filter_app (behY L r1) l (z := 0) hlt
        rw [beh_eqY] at f2
        have n1 := filter_len_take (befY L r1) l k
        have n2 := filter_len_take (behY L r1) l k
        try dsimp only at f1 f2
        generalize (l.take k).filter (befY L r1) = A at *
        generalize (l.take k).filter (behY L r1) = B at *
        refine VcRun.of ?_
        (repeat' first | with_reducible (first | intro _ | refine rc ?_ | refine rl ?_ | refine rh ?_ | refine rt ?_ | refine rf ?_ | refine rs ?_ | refine And.intro ?_ ?_) | omega | simp (maxSteps := 1000000) only [go_sem, simprocAttr, ↓reduceIte])
        cases hb : befY L r1 (l.getD k 0) with
        | true =>
          rw [hb] at kf f1 f2
          rw [if_pos rfl] at f1
          rw [if_neg (by decide), List.append_nil] at f2
          refine VcCall.k (kf) ?_
          (repeat' first | with_reducible (first | intro _ | refine rc ?_ | refine rl ?_ | refine rh ?_ | refine rt ?_ | refine rf ?_ | refine rs ?_ | refine And.intro ?_ ?_) | omega | simp (maxSteps := 1000000) only [go_sem, simprocAttr, ↓reduceIte])
          refine ⟨k + 1, Ent.autoK 6 rfl (by show 6 ≤ 10; decide) ?_ ?_, by omega, by omega⟩ <;> simp only [go_sem, reduceCtorEq, reduceIte, Nat.reduceEqDiff, Nat.reduceLT, Nat.reduceLeDiff, Int.natCast_succ, f1, f2, fromL]
        | false =>
          rw [hb] at kf f1 f2
          rw [if_neg (by decide), List.append_nil] at f1
          rw [if_pos (show (!false) = true from rfl)] at f2
          refine VcCall.k (kf) ?_
          (repeat' first | with_reducible (first | intro _ | refine rc ?_ | refine rl ?_ | refine rh ?_ | refine rt ?_ | refine rf ?_ | refine rs ?_ | refine And.intro ?_ ?_) | omega | simp (maxSteps := 1000000) only [go_sem, simprocAttr, ↓reduceIte])
          refine ⟨k + 1, Ent.autoK 6 rfl (by show 6 ≤ 10; decide) ?_ ?_, by omega, by omega⟩ <;> simp only [go_sem, reduceCtorEq, reduceIte, Nat.reduceEqDiff, Nat.reduceLT, Nat.reduceLeDiff, Int.natCast_succ, f1, f2, fromL]
      · have e : k = l.length := by omega
        subst e
        rw [List.take_length]
        refine VcRun.ent (Ent.trans (Ent.fz 8 (e := 3) (r := .ints .i64 (l.filter (befY L r1))) rfl rfl (by decide)) (Ent.trans (Ent.fz 9 (e := 3) (r := .ints .i64 (l.filter (behY L r1))) rfl rfl (by decide)) (Ent.autoK (s' := ⟨76, [(54, .int .i64 l.length), (53, .int .i64 l.length), (11, .ro (.ints .i64 (l.filter (befY L r1)))), (12, .ro (.ints .i64 (l.filter (behY L r1)))), (5, .ptr 4 0), (4, .ptr 3 0), (3, .ptr 2 0), (2, .ptr 1 0), (1, .ptr 0 0)], [(0, .box 54 [.own 5]), (1, .box 29 [.ro (bxs L)]), (2, .box 3 [.int .i64 gx]), (3, .box 3 [.int .i64 gy]), (4, .box 114 [.fn 66 [.ptr 0 0, .ptr 1 0, .ptr 2 0, .ptr 3 0, .ptr 4 0]]), (5, .row 3 (.ints .i64 o))], 6⟩) 6 rfl (Nat.le_refl 6) ?_ ?_))) (VcRun.of ?_)
        · simp only [go_sem, reduceCtorEq, reduceIte, Nat.reduceEqDiff, Nat.reduceLT, Nat.reduceLeDiff, Int.natCast_succ, fromL]
        · simp only [go_sem, reduceCtorEq, reduceIte, Nat.reduceEqDiff, Nat.reduceLT, Nat.reduceLeDiff, Int.natCast_succ, fromL]
        (repeat' first | with_reducible (first | intro _ | refine rc ?_ | refine rl ?_ | refine rh ?_ | refine rt ?_ | refine rf ?_ | refine rs ?_ | refine And.intro ?_ ?_) | omega | simp (maxSteps := 1000000) only [go_sem, simprocAttr, ↓reduceIte])
        refine VcCall.io [0, 1, 2, 3, 4, 5] k1 (by decide) (by simp [renL, ren, ioN]) rfl (by simp [subOk, ioN, lk, Item.ren, Item.below, ren, renL, belowL, Fv.below, renR_ok, belowR_ok]) covO6 7 (by decide) rfl (by simp [rowsB, Item.below, Fv.below, belowL, belowR_ok]) ?_
        (repeat' first | with_reducible (first | intro _ | refine rc ?_ | refine rl ?_ | refine rh ?_ | refine rt ?_ | refine rf ?_ | refine rs ?_ | refine And.intro ?_ ?_) | omega | simp (maxSteps := 1000000) only [go_sem, simprocAttr, ↓reduceIte, S.ioS, ioRows, ioN, delL, Item.ren, ren, renL, renR_ok, List.length_cons, List.length_nil, List.getElem?_cons_zero, List.getElem?_cons_succ, List.getElem?_nil, List.cons_append, List.nil_append, Nat.sub_self, Nat.add_zero, List.filter])
        refine VcCall.io [0, 1, 2, 3, 4, 6] k2 (by decide) (by simp [renL, ren, ioN]) rfl (by simp [subOk, ioN, lk, Item.ren, Item.below, ren, renL, belowL, Fv.below, renR_ok, belowR_ok]) covO6 7 (by decide) rfl (by simp [rowsB, Item.below, Fv.below, belowL, belowR_ok]) ?_
        (repeat' first | with_reducible (first | intro _ | refine rc ?_ | refine rl ?_ | refine rh ?_ | refine rt ?_ | refine rf ?_ | refine rs ?_ | refine And.intro ?_ ?_) | omega | simp (maxSteps := 1000000) only [go_sem, simprocAttr, ↓reduceIte, S.ioS, ioRows, ioN, delL, Item.ren, ren, renL, renR_ok, List.length_cons, List.length_nil, List.getElem?_cons_zero, List.getElem?_cons_succ, List.getElem?_nil, List.cons_append, List.nil_append, Nat.sub_self, Nat.add_zero, List.filter])
        refine RetK.of [(6, 7)] 7 (by decide) (by decide) ?_ rfl ?_ <;> simp only [go_sem, reduceCtorEq, reduceIte, Nat.reduceEqDiff, Nat.reduceLT, Nat.reduceLeDiff, Int.natCast_succ, renR_ok, belowR_ok, List.append_assoc]
theorem read_ok (L : List Bx) (hL : ∀ b, b ∈ L → BxOk b) (hLn : L.length ≤ 6000) (gx gy : Int) (hgx : 1 ≤ gx ∧ gx ≤ 4000) (hgy : 1 ≤ gy ∧ gy ≤ 4000) : ∀ (n : Nat) (l o : List Int), l.length ≤ n → (∀ i, i ∈ l → InL L i) → o.length + l.length ≤ 6000 → (ordI L gx gy n l).length = l.length ∧ OrdIO L gx gy l o (ordI L gx gy n l)
  | 0, l, o, hn, hl, hb => by
    have h2 : l.length < 2 := by omega
    unfold ordI
    rw [ordGo_short _ _ _ _ _ _ h2]
    exact ⟨rfl, readShort_ok L gx gy l o h2 (by omega)⟩
  | n + 1, l, o, hn, hl, hb => by
    by_cases h2 : l.length < 2
    · unfold ordI
      rw [ordGo_short _ _ _ _ _ _ h2]
      exact ⟨rfl, readShort_ok L gx gy l o h2 (by omega)⟩
    have hbox : BoxesOk (l.map (bAt L)) := fun b hb' => by
      obtain ⟨i, hi, rfl⟩ := List.mem_map.1 hb'
      have := hL _ (bAt_mem (hl i hi))
      unfold BxOk at this; omega
    have p1 := fun hne => gapOf_parts hgx.1 (fx_lt hbox) hne
    have p2 := fun hne => gapOf_parts hgy.1 (fy_lt hbox) hne
    rw [List.map_map, show fx ∘ bAt L = fun i => fx (bAt L i) from rfl] at p1
    rw [List.map_map, show fy ∘ bAt L = fun i => fy (bAt L i) from rfl] at p2
    have sub : ∀ p : Int → Bool, ∀ i, i ∈ l.filter p → InL L i := fun p i hi => hl i (List.mem_filter.1 hi).1
    have flen : ∀ p : Int → Bool, (l.filter p).length + (l.filter fun i => !p i).length = l.length := fun p => by
      clear hn hb h2 hbox p1 p2 sub hl
      induction l with
      | nil => rfl
      | cons x l ih => cases hp : p x <;> simp [hp] <;> omega
    have hX : ∀ e, (∃ q, q ∈ l.map (fun i => fx (bAt L i)) ∧ q.1 < e) → (∃ q, q ∈ l.map (fun i => fx (bAt L i)) ∧ ¬ q.1 < e) → (l.filter (befX L e)).length ≤ n ∧ (l.filter (behX L e)).length ≤ n := fun e ⟨q1, m1, t1⟩ ⟨q2, m2, t2⟩ => by
      obtain ⟨i1, n1, rfl⟩ := List.mem_map.1 m1
      obtain ⟨i2, n2, rfl⟩ := List.mem_map.1 m2
      have l1 := filter_lt (p := befX L e) ⟨i2, n2, decide_eq_false t2⟩
      have l2 := filter_lt (p := behX L e) ⟨i1, n1, by unfold behX; rw [decide_eq_true (show (bAt L i1).x < e from t1)]; rfl⟩
      omega
    have hY : ∀ e, (∃ q, q ∈ l.map (fun i => fy (bAt L i)) ∧ q.1 < e) → (∃ q, q ∈ l.map (fun i => fy (bAt L i)) ∧ ¬ q.1 < e) → (l.filter (befY L e)).length ≤ n ∧ (l.filter (behY L e)).length ≤ n := fun e ⟨q1, m1, t1⟩ ⟨q2, m2, t2⟩ => by
      obtain ⟨i1, n1, rfl⟩ := List.mem_map.1 m1
      obtain ⟨i2, n2, rfl⟩ := List.mem_map.1 m2
      have l1 := filter_lt (p := befY L e) ⟨i2, n2, decide_eq_false t2⟩
      have l2 := filter_lt (p := behY L e) ⟨i1, n1, by unfold behY; rw [decide_eq_true (show (bAt L i1).y < e from t1)]; rfl⟩
      omega
    have eord : ordI L gx gy (n + 1) l = if l.length < 2 then l
      else if (gapOf gx (l.map fun i => fx (bAt L i))).2 = 0 ∧ (gapOf gy (l.map fun i => fy (bAt L i))).2 = 0 then sortKey (kI L) l
      else if atG (gapOf gx (l.map fun i => fx (bAt L i))) (gapOf gy (l.map fun i => fy (bAt L i))) gx gy then
        ordI L gx gy n (l.filter (befX L (gapOf gx (l.map fun i => fx (bAt L i))).1)) ++ ordI L gx gy n (l.filter (behX L (gapOf gx (l.map fun i => fx (bAt L i))).1))
      else
        ordI L gx gy n (l.filter (befY L (gapOf gy (l.map fun i => fy (bAt L i))).1)) ++ ordI L gx gy n (l.filter (behY L (gapOf gy (l.map fun i => fy (bAt L i))).1)) := rfl
    rw [eord, if_neg h2]
    have hstep := readStep_ok L hL hLn gx gy hgx hgy l o hl h2 hb _ _ rfl rfl
    generalize gapOf gx (l.map fun i => fx (bAt L i)) = c at *
    generalize gapOf gy (l.map fun i => fy (bAt L i)) = r at *
    by_cases hz : c.2 = 0 ∧ r.2 = 0
    · rw [if_pos hz] at eord ⊢
      exact ⟨(sortKey_perm _ _).length_eq, hstep _ (fun _ => rfl) (fun h => absurd hz h) (fun h => absurd hz h)⟩
    rw [if_neg hz]
    by_cases hat : atG c r gx gy
    · rw [if_pos hat]
      obtain ⟨q1, q2, _⟩ := p1 (by unfold atG at hat; omega)
      obtain ⟨l1, l2⟩ := hX _ q1 q2
      have hf := flen (befX L c.1)
      rw [show (fun i => !befX L c.1 i) = behX L c.1 from rfl] at hf
      obtain ⟨a1, a2⟩ := read_ok L hL hLn gx gy hgx hgy n (l.filter (befX L c.1)) o l1 (sub _) (by omega)
      obtain ⟨b1, b2⟩ := read_ok L hL hLn gx gy hgx hgy n (l.filter (behX L c.1)) (o ++ ordI L gx gy n (l.filter (befX L c.1))) l2 (sub _) (by rw [List.length_append, a1]; omega)
      exact ⟨by rw [List.length_append, a1, b1]; exact hf, hstep _ (fun h => absurd h hz) (fun _ _ => ⟨_, _, rfl, a2, b2⟩) (fun _ h => absurd hat h)⟩
    · rw [if_neg hat]
      obtain ⟨q1, q2, _⟩ := p2 (by
        intro h0
        by_cases hc : c.2 = 0
        · exact hz ⟨hc, h0⟩
        · exact hat ⟨(p1 hc).2.2, .inl h0⟩)
      obtain ⟨l1, l2⟩ := hY _ q1 q2
      have hf := flen (befY L r.1)
      rw [show (fun i => !befY L r.1 i) = behY L r.1 from rfl] at hf
      obtain ⟨a1, a2⟩ := read_ok L hL hLn gx gy hgx hgy n (l.filter (befY L r.1)) o l1 (sub _) (by omega)
      obtain ⟨b1, b2⟩ := read_ok L hL hLn gx gy hgx hgy n (l.filter (behY L r.1)) (o ++ ordI L gx gy n (l.filter (befY L r.1))) l2 (sub _) (by rw [List.length_append, a1]; omega)
      exact ⟨by rw [List.length_append, a1, b1]; exact hf, hstep _ (fun h => absurd h hz) (fun _ h => absurd h hat) (fun _ _ => ⟨_, _, rfl, a2, b2⟩)⟩
end Go.Fv.P
