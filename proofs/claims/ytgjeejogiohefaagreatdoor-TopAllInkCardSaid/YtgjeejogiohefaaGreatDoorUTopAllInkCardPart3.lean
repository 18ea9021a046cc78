/-
  A part of the proof of the claim: walks over the program's functions and the plain laws that these need. No condition of its own.
-/
import Derived.Test.YtgjeejogiohefaaGreatDoorUTopAllInkCardPart2
import Derived.Test.YtgjeejogiohefaaGreatDoorFvPart11
import Derived.Test.YtgjeejogiohefaaGreatDoorUTopAllInkCardPart1
/-! The box as small as its ink permits: the walk. -/
namespace Go.Fv.U
open Go Go.Proofs
set_option linter.unusedSimpArgs false
set_option linter.unusedVariables false
set_option linter.unnecessarySimpa false
set_option maxRecDepth 8000

section
variable (p : List Bool) (w : Nat)
theorem trimL_next {b : Nb} (h0 : 0 < b.w) : trimL p w b.w b = if colN p w b b.x = 0 then trimL p w (b.w - 1) ⟨b.x + 1, b.y, b.w - 1, b.h⟩ else b := by
  obtain ⟨x, y, W, H⟩ := b
  dsimp only at *
  obtain ⟨n, rfl⟩ : ∃ n, W = n + 1 := ⟨W - 1, by omega⟩
  rfl
theorem trimR_next {b : Nb} (h0 : 0 < b.w) : trimR p w b.w b = if colN p w b (b.x + b.w - 1) = 0 then trimR p w (b.w - 1) ⟨b.x, b.y, b.w - 1, b.h⟩ else b := by
  obtain ⟨x, y, W, H⟩ := b
  dsimp only at *
  obtain ⟨n, rfl⟩ : ∃ n, W = n + 1 := ⟨W - 1, by omega⟩
  rfl
theorem trimT_next {b : Nb} (h0 : 0 < b.h) : trimT p w b.h b = if rowN p w b b.y = 0 then trimT p w (b.h - 1) ⟨b.x, b.y + 1, b.w, b.h - 1⟩ else b := by
  obtain ⟨x, y, W, H⟩ := b
  dsimp only at *
  obtain ⟨n, rfl⟩ : ∃ n, H = n + 1 := ⟨H - 1, by omega⟩
  rfl
theorem trimB_next {b : Nb} (h0 : 0 < b.h) : trimB p w b.h b = if rowN p w b (b.y + b.h - 1) = 0 then trimB p w (b.h - 1) ⟨b.x, b.y, b.w, b.h - 1⟩ else b := by
  obtain ⟨x, y, W, H⟩ := b
  dsimp only at *
  obtain ⟨n, rfl⟩ : ∃ n, H = n + 1 := ⟨H - 1, by omega⟩
  rfl
end
set_option maxHeartbeats 4000000 in
theorem tight_ok (p : List Bool) (w h : Nat) (hw : w ≤ 4000) (hh : h ≤ 4000) (gx gy : Nat) (o : List Nb) (b : Nb) (hb : InP b w h) (hi : 0 < inkB p w b) :
    FnOk Tryz.prog 125 [.cell (ctr p w h gx gy (.ro (nbs o))), .agg b.av] (.tup [.agg (tightB p w b).av, .bool true]) [] := by
  have kI : FnOk Tryz.prog 173 [.cell (sumL p w h), .agg [.int .i64 b.x, .int .i64 b.y, .int .i64 b.w, .int .i64 b.h]] (.int .i64 (inkB p w b)) [] := sumsIn_ok p w h hw hh b.x b.y b.w b.h hb.1 hb.2
  have kc := column_ok p w h hw hh gx gy o
  have kr := row_ok p w h hw hh gx gy o
  simp only [ctr, Nb.av] at kc kr ⊢
  generalize sumL p w h = sc at *
  have ht : tightB p w b = trimB p w (trimT p w (trimR p w (trimL p w b.w b).w (trimL p w b.w b)).h (trimR p w (trimL p w b.w b).w (trimL p w b.w b))).h (trimT p w (trimR p w (trimL p w b.w b).w (trimL p w b.w b)).h (trimR p w (trimL p w b.w b).w (trimL p w b.w b))) := rfl
  refine FnOk.of_vc Tryz.func125 rfl (by decide) (by simp [Tryz.f125]) [.cell 4 65, .tmp 5] rfl fun w0 T0 _ => ?_
  simp only [Tryz.f125, argEnv]
  (repeat' first | with_reducible (first | intro _ | refine rc ?_ | refine rl ?_ | refine rh ?_ | refine rt ?_ | refine rf ?_ | refine rs ?_ | refine And.intro ?_ ?_) | omega | simp (maxSteps := 1000000) only [go_sem, simprocAttr, ↓reduceIte])
  refine VcDraw.lex [] [] (by kernel_rfl) (by kernel_rfl) ?_
  (repeat' first | with_reducible (first | intro _ | refine rc ?_ | refine rl ?_ | refine rh ?_ | refine rt ?_ | refine rf ?_ | refine rs ?_ | refine And.intro ?_ ?_) | omega | simp (maxSteps := 1000000) only [go_sem, simprocAttr, ↓reduceIte])
  refine QV.intro (.int .i64 (inkB p w b)) ?_ ?_
  · (repeat' first | with_reducible (first | intro _ | refine rc ?_ | refine rl ?_ | refine rh ?_ | refine rt ?_ | refine rf ?_ | refine rs ?_ | refine And.intro ?_ ?_) | omega | simp (maxSteps := 1000000) only [go_sem, simprocAttr, ↓reduceIte])
    refine VcCall.k (kI) ?_
    (repeat' first | with_reducible (first | intro _ | refine rc ?_ | refine rl ?_ | refine rh ?_ | refine rt ?_ | refine rf ?_ | refine rs ?_ | refine And.intro ?_ ?_) | omega | simp (maxSteps := 1000000) only [go_sem, simprocAttr, ↓reduceIte])
  (repeat' first | with_reducible (first | intro _ | refine rc ?_ | refine rl ?_ | refine rh ?_ | refine rt ?_ | refine rf ?_ | refine rs ?_ | refine And.intro ?_ ?_) | omega | simp (maxSteps := 1000000) only [go_sem, simprocAttr, ↓reduceIte])
  refine VcLoop.intro (fun c1 : Nb => ⟨71, [(0, .cell [.int .i64 w, .int .i64 h, .ro (.bools p), .cell sc, .int .i64 gx, .int .i64 gy, .ro (nbs o)]), (3, .ptr 0 0), (4, .ptr 1 0)], [(0, .box 65 [.int .i64 c1.x, .int .i64 c1.y, .int .i64 c1.w, .int .i64 c1.h]), (1, .box 65 [.int .i64 0, .int .i64 0, .int .i64 0, .int .i64 0])], 2⟩) (fun c1 => InP c1 w h ∧ 0 < inkB p w c1 ∧ trimL p w c1.w c1 = trimL p w b.w b) (fun c1 => c1.w) b ?_ ⟨hb, hi, rfl⟩ fun c1 hb1 => ?_
  · refine Ent.auto0 rfl ?_ ?_ <;> simp only [go_sem, reduceCtorEq, reduceIte, Nat.reduceEqDiff, Nat.reduceLT, Nat.reduceLeDiff, Int.natCast_succ]
  obtain ⟨hP1, hI1, ht1⟩ := hb1
  have hw1 := ink_w p w hI1
  have hnx := trimL_next p w hw1
  have hp2 := hP1
  unfold InP at hp2
  have kk := kc c1 (c1.x) (by omega) hP1
  have epos : ((c1.x : Nat) : Int) = c1.x := by omega
  have hst := trimL_step p w hw1
  by_cases hc : colN p w c1 c1.x = 0
  · rw [if_pos hc, ht1] at hnx
    replace hst := hst hc
    rw [hc] at kk
    rw [show decide (0 < ((0 : Nat) : Int)) = false from rfl, epos] at kk
    (repeat' first | with_reducible (first | intro _ | refine rc ?_ | refine rl ?_ | refine rh ?_ | refine rt ?_ | refine rf ?_ | refine rs ?_ | refine And.intro ?_ ?_) | omega | simp (maxSteps := 1000000) only [go_sem, simprocAttr, ↓reduceIte])
    refine VcCall.k (kk) ?_
    (repeat' first | with_reducible (first | intro _ | refine rc ?_ | refine rl ?_ | refine rh ?_ | refine rt ?_ | refine rf ?_ | refine rs ?_ | refine And.intro ?_ ?_) | omega | simp (maxSteps := 1000000) only [go_sem, simprocAttr, ↓reduceIte])
    refine ⟨⟨c1.x + 1, c1.y, c1.w - 1, c1.h⟩, Ent.auto0 rfl ?_ ?_, ⟨by unfold InP; dsimp only; omega, by omega, hnx.symm⟩, by dsimp only; omega⟩ <;> simp only [go_sem, reduceCtorEq, reduceIte, Nat.reduceEqDiff, Nat.reduceLT, Nat.reduceLeDiff, Int.natCast_succ]
    all_goals (try omega)
  rw [if_neg hc] at hnx
  rw [show decide (0 < ((colN p w c1 c1.x : Nat) : Int)) = true from decide_eq_true (by omega), epos] at kk
  (repeat' first | with_reducible (first | intro _ | refine rc ?_ | refine rl ?_ | refine rh ?_ | refine rt ?_ | refine rf ?_ | refine rs ?_ | refine And.intro ?_ ?_) | omega | simp (maxSteps := 1000000) only [go_sem, simprocAttr, ↓reduceIte])
  refine VcCall.k (kk) ?_
  (repeat' first | with_reducible (first | intro _ | refine rc ?_ | refine rl ?_ | refine rh ?_ | refine rt ?_ | refine rf ?_ | refine rs ?_ | refine And.intro ?_ ?_) | omega | simp (maxSteps := 1000000) only [go_sem, simprocAttr, ↓reduceIte])
  have hE1 : c1 = trimL p w b.w b := hnx.symm.trans ht1
  clear hnx kk epos hst hc ht1 hw1 hp2
  refine VcLoop.intro (fun c2 : Nb => ⟨71, [(0, .cell [.int .i64 w, .int .i64 h, .ro (.bools p), .cell sc, .int .i64 gx, .int .i64 gy, .ro (nbs o)]), (3, .ptr 0 0), (4, .ptr 1 0)], [(0, .box 65 [.int .i64 c2.x, .int .i64 c2.y, .int .i64 c2.w, .int .i64 c2.h]), (1, .box 65 [.int .i64 0, .int .i64 0, .int .i64 0, .int .i64 0])], 2⟩) (fun c2 => InP c2 w h ∧ 0 < inkB p w c2 ∧ trimR p w c2.w c2 = trimR p w c1.w c1) (fun c2 => c2.w) c1 ?_ ⟨hP1, hI1, rfl⟩ fun c2 hb1 => ?_
  · refine Ent.auto0 rfl ?_ ?_ <;> simp only [go_sem, reduceCtorEq, reduceIte, Nat.reduceEqDiff, Nat.reduceLT, Nat.reduceLeDiff, Int.natCast_succ]
  obtain ⟨hP2, hI2, ht1⟩ := hb1
  have hw1 := ink_w p w hI2
  have hnx := trimR_next p w hw1
  have hp2 := hP2
  unfold InP at hp2
  have kk := kc c2 (c2.x + c2.w - 1) (by omega) hP2
  have epos : ((c2.x + c2.w - 1 : Nat) : Int) = (c2.x : Int) + c2.w - 1 := by omega
  have hst := trimR_step p w hw1
  by_cases hc : colN p w c2 (c2.x + c2.w - 1) = 0
  · rw [if_pos hc, ht1] at hnx
    replace hst := hst hc
    rw [hc] at kk
    rw [show decide (0 < ((0 : Nat) : Int)) = false from rfl, epos] at kk
    (repeat' first | with_reducible (first | intro _ | refine rc ?_ | refine rl ?_ | refine rh ?_ | refine rt ?_ | refine rf ?_ | refine rs ?_ | refine And.intro ?_ ?_) | omega | simp (maxSteps := 1000000) only [go_sem, simprocAttr, ↓reduceIte])
    refine VcCall.k (kk) ?_
    (repeat' first | with_reducible (first | intro _ | refine rc ?_ | refine rl ?_ | refine rh ?_ | refine rt ?_ | refine rf ?_ | refine rs ?_ | refine And.intro ?_ ?_) | omega | simp (maxSteps := 1000000) only [go_sem, simprocAttr, ↓reduceIte])
    refine ⟨⟨c2.x, c2.y, c2.w - 1, c2.h⟩, Ent.auto0 rfl ?_ ?_, ⟨by unfold InP; dsimp only; omega, by omega, hnx.symm⟩, by dsimp only; omega⟩ <;> simp only [go_sem, reduceCtorEq, reduceIte, Nat.reduceEqDiff, Nat.reduceLT, Nat.reduceLeDiff, Int.natCast_succ]
    all_goals (try omega)
  rw [if_neg hc] at hnx
  rw [show decide (0 < ((colN p w c2 (c2.x + c2.w - 1) : Nat) : Int)) = true from decide_eq_true (by omega), epos] at kk
  (repeat' first | with_reducible (first | intro _ | refine rc ?_ | refine rl ?_ | refine rh ?_ | refine rt ?_ | refine rf ?_ | refine rs ?_ | refine And.intro ?_ ?_) | omega | simp (maxSteps := 1000000) only [go_sem, simprocAttr, ↓reduceIte])
  refine VcCall.k (kk) ?_
  (repeat' first | with_reducible (first | intro _ | refine rc ?_ | refine rl ?_ | refine rh ?_ | refine rt ?_ | refine rf ?_ | refine rs ?_ | refine And.intro ?_ ?_) | omega | simp (maxSteps := 1000000) only [go_sem, simprocAttr, ↓reduceIte])
  have hE2 : c2 = trimR p w c1.w c1 := hnx.symm.trans ht1
  clear hnx kk epos hst hc ht1 hw1 hp2
  refine VcLoop.intro (fun c3 : Nb => ⟨71, [(0, .cell [.int .i64 w, .int .i64 h, .ro (.bools p), .cell sc, .int .i64 gx, .int .i64 gy, .ro (nbs o)]), (3, .ptr 0 0), (4, .ptr 1 0)], [(0, .box 65 [.int .i64 c3.x, .int .i64 c3.y, .int .i64 c3.w, .int .i64 c3.h]), (1, .box 65 [.int .i64 0, .int .i64 0, .int .i64 0, .int .i64 0])], 2⟩) (fun c3 => InP c3 w h ∧ 0 < inkB p w c3 ∧ trimT p w c3.h c3 = trimT p w c2.h c2) (fun c3 => c3.h) c2 ?_ ⟨hP2, hI2, rfl⟩ fun c3 hb1 => ?_
  · refine Ent.auto0 rfl ?_ ?_ <;> simp only [go_sem, reduceCtorEq, reduceIte, Nat.reduceEqDiff, Nat.reduceLT, Nat.reduceLeDiff, Int.natCast_succ]
  obtain ⟨hP3, hI3, ht1⟩ := hb1
  have hw1 := ink_h p w hI3
  have hnx := trimT_next p w hw1
  have hp2 := hP3
  unfold InP at hp2
  have kk := kr c3 (c3.y) (by omega) hP3
  have epos : ((c3.y : Nat) : Int) = c3.y := by omega
  have hst := trimT_step p w hw1
  by_cases hc : rowN p w c3 c3.y = 0
  · rw [if_pos hc, ht1] at hnx
    replace hst := hst hc
    rw [hc] at kk
    rw [show decide (0 < ((0 : Nat) : Int)) = false from rfl, epos] at kk
    (repeat' first | with_reducible (first | intro _ | refine rc ?_ | refine rl ?_ | refine rh ?_ | refine rt ?_ | refine rf ?_ | refine rs ?_ | refine And.intro ?_ ?_) | omega | simp (maxSteps := 1000000) only [go_sem, simprocAttr, ↓reduceIte])
    refine VcCall.k (kk) ?_
    (repeat' first | with_reducible (first | intro _ | refine rc ?_ | refine rl ?_ | refine rh ?_ | refine rt ?_ | refine rf ?_ | refine rs ?_ | refine And.intro ?_ ?_) | omega | simp (maxSteps := 1000000) only [go_sem, simprocAttr, ↓reduceIte])
    refine ⟨⟨c3.x, c3.y + 1, c3.w, c3.h - 1⟩, Ent.auto0 rfl ?_ ?_, ⟨by unfold InP; dsimp only; omega, by omega, hnx.symm⟩, by dsimp only; omega⟩ <;> simp only [go_sem, reduceCtorEq, reduceIte, Nat.reduceEqDiff, Nat.reduceLT, Nat.reduceLeDiff, Int.natCast_succ]
    all_goals (try omega)
  rw [if_neg hc] at hnx
  rw [show decide (0 < ((rowN p w c3 c3.y : Nat) : Int)) = true from decide_eq_true (by omega), epos] at kk
  (repeat' first | with_reducible (first | intro _ | refine rc ?_ | refine rl ?_ | refine rh ?_ | refine rt ?_ | refine rf ?_ | refine rs ?_ | refine And.intro ?_ ?_) | omega | simp (maxSteps := 1000000) only [go_sem, simprocAttr, ↓reduceIte])
  refine VcCall.k (kk) ?_
  (repeat' first | with_reducible (first | intro _ | refine rc ?_ | refine rl ?_ | refine rh ?_ | refine rt ?_ | refine rf ?_ | refine rs ?_ | refine And.intro ?_ ?_) | omega | simp (maxSteps := 1000000) only [go_sem, simprocAttr, ↓reduceIte])
  have hE3 : c3 = trimT p w c2.h c2 := hnx.symm.trans ht1
  clear hnx kk epos hst hc ht1 hw1 hp2
  refine VcLoop.intro (fun c4 : Nb => ⟨71, [(0, .cell [.int .i64 w, .int .i64 h, .ro (.bools p), .cell sc, .int .i64 gx, .int .i64 gy, .ro (nbs o)]), (3, .ptr 0 0), (4, .ptr 1 0)], [(0, .box 65 [.int .i64 c4.x, .int .i64 c4.y, .int .i64 c4.w, .int .i64 c4.h]), (1, .box 65 [.int .i64 0, .int .i64 0, .int .i64 0, .int .i64 0])], 2⟩) (fun c4 => InP c4 w h ∧ 0 < inkB p w c4 ∧ trimB p w c4.h c4 = trimB p w c3.h c3) (fun c4 => c4.h) c3 ?_ ⟨hP3, hI3, rfl⟩ fun c4 hb1 => ?_
  · refine Ent.auto0 rfl ?_ ?_ <;> simp only [go_sem, reduceCtorEq, reduceIte, Nat.reduceEqDiff, Nat.reduceLT, Nat.reduceLeDiff, Int.natCast_succ]
  obtain ⟨hP4, hI4, ht1⟩ := hb1
  have hw1 := ink_h p w hI4
  have hnx := trimB_next p w hw1
  have hp2 := hP4
  unfold InP at hp2
  have kk := kr c4 (c4.y + c4.h - 1) (by omega) hP4
  have epos : ((c4.y + c4.h - 1 : Nat) : Int) = (c4.y : Int) + c4.h - 1 := by omega
  have hst := trimB_step p w hw1
  by_cases hc : rowN p w c4 (c4.y + c4.h - 1) = 0
  · rw [if_pos hc, ht1] at hnx
    replace hst := hst hc
    rw [hc] at kk
    rw [show decide (0 < ((0 : Nat) : Int)) = false from rfl, epos] at kk
    (repeat' first | with_reducible (first | intro _ | refine rc ?_ | refine rl ?_ | refine rh ?_ | refine rt ?_ | refine rf ?_ | refine rs ?_ | refine And.intro ?_ ?_) | omega | simp (maxSteps := 1000000) only [go_sem, simprocAttr, ↓reduceIte])
    refine VcCall.k (kk) ?_
    (repeat' first | with_reducible (first | intro _ | refine rc ?_ | refine rl ?_ | refine rh ?_ | refine rt ?_ | refine rf ?_ | refine rs ?_ | refine And.intro ?_ ?_) | omega | simp (maxSteps := 1000000) only [go_sem, simprocAttr, ↓reduceIte])
    refine ⟨⟨c4.x, c4.y, c4.w, c4.h - 1⟩, Ent.auto0 rfl ?_ ?_, ⟨by unfold InP; dsimp only; omega, by omega, hnx.symm⟩, by dsimp only; omega⟩ <;> simp only [go_sem, reduceCtorEq, reduceIte, Nat.reduceEqDiff, Nat.reduceLT, Nat.reduceLeDiff, Int.natCast_succ]
    all_goals (try omega)
  rw [if_neg hc] at hnx
  rw [show decide (0 < ((rowN p w c4 (c4.y + c4.h - 1) : Nat) : Int)) = true from decide_eq_true (by omega), epos] at kk
  (repeat' first | with_reducible (first | intro _ | refine rc ?_ | refine rl ?_ | refine rh ?_ | refine rt ?_ | refine rf ?_ | refine rs ?_ | refine And.intro ?_ ?_) | omega | simp (maxSteps := 1000000) only [go_sem, simprocAttr, ↓reduceIte])
  refine VcCall.k (kk) ?_
  (repeat' first | with_reducible (first | intro _ | refine rc ?_ | refine rl ?_ | refine rh ?_ | refine rt ?_ | refine rf ?_ | refine rs ?_ | refine And.intro ?_ ?_) | omega | simp (maxSteps := 1000000) only [go_sem, simprocAttr, ↓reduceIte])
  have hE4 : c4 = trimB p w c3.h c3 := hnx.symm.trans ht1
  clear hnx kk epos hst hc ht1 hw1 hp2
  rw [ht, ← hE1, ← hE2, ← hE3, ← hE4]
  refine Ret.auto 0 ?_ rfl ?_ <;> simp only [go_sem, reduceCtorEq, reduceIte, Nat.reduceEqDiff, Nat.reduceLT, Nat.reduceLeDiff, Int.natCast_succ, Post, List.drop_zero]
theorem tight_no (p : List Bool) (w h : Nat) (hw : w ≤ 4000) (hh : h ≤ 4000) (gx gy : Nat) (o : List Nb) (b : Nb) (hb : InP b w h) (hi : inkB p w b = 0) :
    FnOk Tryz.prog 125 [.cell (ctr p w h gx gy (.ro (nbs o))), .agg b.av] (.tup [.agg b.av, .bool false]) [] := by
  have kI : FnOk Tryz.prog 173 [.cell (sumL p w h), .agg [.int .i64 b.x, .int .i64 b.y, .int .i64 b.w, .int .i64 b.h]] (.int .i64 (inkB p w b)) [] := sumsIn_ok p w h hw hh b.x b.y b.w b.h hb.1 hb.2
  rw [hi] at kI
  simp only [ctr, Nb.av]
  generalize sumL p w h = sc at *
  refine FnOk.of_vc Tryz.func125 rfl (by decide) (by simp [Tryz.f125]) [.cell 4 65, .tmp 5] rfl fun w0 T0 _ => ?_
  simp only [Tryz.f125, argEnv]
  (repeat' first | with_reducible (first | intro _ | refine rc ?_ | refine rl ?_ | refine rh ?_ | refine rt ?_ | refine rf ?_ | refine rs ?_ | refine And.intro ?_ ?_) | omega | simp (maxSteps := 1000000) only [go_sem, simprocAttr, ↓reduceIte])
  refine VcDraw.lex [] [] (by kernel_rfl) (by kernel_rfl) ?_
  (repeat' first | with_reducible (first | intro _ | refine rc ?_ | refine rl ?_ | refine rh ?_ | refine rt ?_ | refine rf ?_ | refine rs ?_ | refine And.intro ?_ ?_) | omega | simp (maxSteps := 1000000) only [go_sem, simprocAttr, ↓reduceIte])
  refine QV.intro (.int .i64 ((0 : Nat) : Int)) ?_ ?_
  · (repeat' first | with_reducible (first | intro _ | refine rc ?_ | refine rl ?_ | refine rh ?_ | refine rt ?_ | refine rf ?_ | refine rs ?_ | refine And.intro ?_ ?_) | omega | simp (maxSteps := 1000000) only [go_sem, simprocAttr, ↓reduceIte])
    refine VcCall.k (kI) ?_
    (repeat' first | with_reducible (first | intro _ | refine rc ?_ | refine rl ?_ | refine rh ?_ | refine rt ?_ | refine rf ?_ | refine rs ?_ | refine And.intro ?_ ?_) | omega | simp (maxSteps := 1000000) only [go_sem, simprocAttr, ↓reduceIte])
  (repeat' first | with_reducible (first | intro _ | refine rc ?_ | refine rl ?_ | refine rh ?_ | refine rt ?_ | refine rf ?_ | refine rs ?_ | refine And.intro ?_ ?_) | omega | simp (maxSteps := 1000000) only [go_sem, simprocAttr, ↓reduceIte])
  refine Ret.auto 0 ?_ rfl ?_ <;> simp only [go_sem, reduceCtorEq, reduceIte, Nat.reduceEqDiff, Nat.reduceLT, Nat.reduceLeDiff, Int.natCast_succ, Post, List.drop_zero]
end Go.Fv.U

/-! Lines and words of a box: the walk. Printed by gen_lin.py. -/
namespace Go.Fv.U
open Go Go.Proofs
set_option linter.unusedSimpArgs false
set_option linter.unusedVariables false
set_option linter.unnecessarySimpa false
set_option maxRecDepth 8000

instance (p : List Bool) (w h gx gy : Nat) (l : List Nb) (t : Nb) : CapsOk [.cell [.cell (ctr p w h gx gy (.ro (nbs l)))], .cell t.av] := ⟨by simp [ctr, sumL, Nb.av, lendB, nbs, noIdR_ok]⟩
theorem take_succG {α : Type} {z : α} {l : List α} {k : Nat} (h : k < l.length) : l.take (k + 1) = l.take k ++ [l.getD k z] := by
  rw [List.take_succ_eq_append_getElem h, getD_lt h]
/-- The rows of a box, by places in it. -/
def linesR (p : List Bool) (w : Nat) (b : Nb) (gap : Nat) : List (Nat × Nat) := rfGo (fun j => !rowE p w b (b.y + j)) gap b.h 0 []
def rowBoxT (b : Nb) (t : Nat × Nat) : Nb := ⟨b.x, b.y + t.1, b.w, t.2 - t.1⟩
def rowBox (p : List Bool) (w : Nat) (b : Nb) (t : Nat × Nat) : Nb := tightB p w (rowBoxT b t)
theorem linesR_mem {p : List Bool} {w : Nat} {b : Nb} {gap : Nat} {t : Nat × Nat} (h : t ∈ linesR p w b gap) : t.1 < t.2 ∧ t.2 ≤ b.h ∧ PartOf (rowBoxT b t) b ∧ 0 < inkB p w (rowBoxT b t) := by
  have k := rfGo_ok (fun j => !rowE p w b (b.y + j)) gap b.h 0 [] (fun t ht => absurd ht List.not_mem_nil) t h
  have h1 := k.lt
  have h2 := k.le
  have h3 := k.at1
  rw [Nat.zero_add] at h2
  refine ⟨h1, h2, by unfold PartOf rowBoxT; dsimp only; omega, ?_⟩
  have h4 : rowN p w b (b.y + t.1) ≠ 0 := by
    intro h0
    unfold rowE at h3
    rw [decide_eq_true h0] at h3
    exact absurd h3 (by decide)
  have h5 : rowN p w b (b.y + t.1) ≤ inkB p w (rowBoxT b t) := by
    unfold rowN inkB rowBoxT
    exact inkN_mono p w (Nat.le_refl _) (Nat.le_refl _) (by dsimp only; omega) (by dsimp only; omega)
  omega
theorem linesR_len (p : List Bool) (w : Nat) (b : Nb) (gap : Nat) : (linesR p w b gap).length ≤ b.h := by
  have := rfGo_len (fun j => !rowE p w b (b.y + j)) gap b.h 0 []
  simpa [linesR] using this
set_option maxHeartbeats 1000000 in
theorem rows1_ok (p : List Bool) (w h : Nat) (hw : w ≤ 4000) (hh : h ≤ 4000) (gx gy : Nat) (o : List Nb) (b : Nb) (i : Nat) (hi : i < h) (hb : InP b w h) :
    FnOk Tryz.prog 123 [.int .i64 i, .cell [.cell (ctr p w h gx gy (.ro (nbs o)))], .cell b.av] (.bool (!rowE p w b i)) [] := by
  have k := row_ok p w h hw hh gx gy o b i hi hb
  have e : (!rowE p w b i) = decide (0 < (rowN p w b i : Int)) := by
    unfold rowE
    by_cases h0 : rowN p w b i = 0
    · rw [h0]; rfl
    · rw [decide_eq_false h0, decide_eq_true (by omega : 0 < (rowN p w b i : Int))]; rfl
  rw [e]
  generalize decide (0 < (rowN p w b i : Int)) = q at *
  unfold ctr Nb.av at *
  generalize sumL p w h = sc at *
  refine FnOk.of_vc Tryz.func123 rfl (by decide) (by simp [Tryz.f123]) [.tmp 4] rfl fun w0 T0 _ => ?_
  simp only [Tryz.f123, argEnv]
  (repeat' first | with_reducible (first | intro _ | refine rc ?_ | refine rl ?_ | refine rh ?_ | refine rt ?_ | refine rf ?_ | refine rs ?_ | refine And.intro ?_ ?_) | omega | simp (maxSteps := 1000000) only [go_sem, simprocAttr, ↓reduceIte])
  refine VcCall.k (k) ?_
  (repeat' first | with_reducible (first | intro _ | refine rc ?_ | refine rl ?_ | refine rh ?_ | refine rt ?_ | refine rf ?_ | refine rs ?_ | refine And.intro ?_ ?_) | omega | simp (maxSteps := 1000000) only [go_sem, simprocAttr, ↓reduceIte])
  refine Ret.auto 0 ?_ rfl ?_ <;> simp only [go_sem, reduceCtorEq, reduceIte, Nat.reduceEqDiff, Nat.reduceLT, Nat.reduceLeDiff, Int.natCast_succ, Post]
set_option maxHeartbeats 4000000 in
theorem rows_ok (p : List Bool) (w h : Nat) (hw : w ≤ 4000) (hh : h ≤ 4000) (gx gy : Nat) (b : Nb) (hb : InP b w h) (gap : Nat) (hg1 : 1 ≤ gap) (hg : gap ≤ 4000) :
    FnOk Tryz.prog 58 [.cell (ctr p w h gx gy (.ro (nbs []))), .agg b.av, .int .i64 gap] (.own 0) [(0, .row 65 (nbs ((linesR p w b gap).map (rowBox p w b))))] := by
  have kS := stretches_ok b.y (b.y + b.h) (by omega) (by unfold InP at hb; omega) 123 [.cell [.cell (ctr p w h gx gy (.ro (nbs [])))], .cell b.av] (fun i => !rowE p w b i) fun i h1 h2 => FnFr.of_ok (rows1_ok p w h hw hh gx gy [] b i (by unfold InP at hb; omega) hb) rfl rfl
  rw [Nat.add_sub_cancel_left] at kS
  have bS : ∀ s, s ∈ strs (fun i => !rowE p w b i) b.h b.y → s.1 ≤ 10000 ∧ s.2 ≤ 10000 := fun s hs => by
    have := strs_mem _ _ _ _ hs
    unfold InP at hb; omega
  have kJ := joined_ok (strs (fun i => !rowE p w b i) b.h b.y) (by have := strs_len (fun i => !rowE p w b i) b.h b.y; unfold InP at hb; omega) bS gap hg
  rw [joined_ref (fun i => !rowE p w b i) gap b.h b.y hg1] at kJ
  have hm := fun t (ht : t ∈ linesR p w b gap) => linesR_mem ht
  have hlen := linesR_len p w b gap
  rw [show rfGo (fun j => !rowE p w b (b.y + j)) gap b.h 0 [] = linesR p w b gap from rfl] at kJ
  have kT := fun t (ht : t ∈ linesR p w b gap) => tight_ok p w h hw hh gx gy [] (rowBoxT b t) (hb.of (hm t ht).2.2.1) (hm t ht).2.2.2
  generalize strs (fun i => !rowE p w b i) b.h b.y = L at *
  generalize linesR p w b gap = R at *
  have hRb : R.length ≤ 4000 := by unfold InP at hb; omega
  obtain ⟨bx, by', bw, bh⟩ := b
  have hbb := hb
  unfold InP at hbb
  dsimp only at hbb
  simp only [ctr, Nb.av] at *
  generalize sumL p w h = sc at *
  refine FnOk.of_vc Tryz.func58 rfl (by decide) (by simp [Tryz.f58]) [.tmp 6] rfl fun w0 T0 _ => ?_
  simp only [Tryz.f58, argEnv]
  (repeat' first | with_reducible (first | intro _ | refine rc ?_ | refine rl ?_ | refine rh ?_ | refine rt ?_ | refine rf ?_ | refine rs ?_ | refine And.intro ?_ ?_) | omega | simp (maxSteps := 1000000) only [go_sem, simprocAttr, ↓reduceIte])
  refine VcCall.ro (.ro (stR L)) (FnFr.of_ok kS rfl (by simp [noRoRows, noRoItem, noRoRow, noRoL, noRo, stR, stAv])) (by simp only [noIdR_ok, argOkL, argOk, allOk, argOkN, List.drop_zero, lk, reduceIte, reduceCtorEq, Nat.reduceEqDiff, Option.some.injEq, Item.row.injEq, Item.box.injEq, AV.ro.injEq, exists_eq_left, exists_and_left, exists_eq_left', exists_eq_right, and_assoc, and_true, true_and, List.cons.injEq, exists_eq', exists_eq, nbs, noIdR_ok, Int.natCast_add]) (by simp [outOk, argOkL, allOk, argOk, argOkN, lk, noIdR_ok, stR]) rfl ?_
  (repeat' first | with_reducible (first | intro _ | refine rc ?_ | refine rl ?_ | refine rh ?_ | refine rt ?_ | refine rf ?_ | refine rs ?_ | refine And.intro ?_ ?_) | omega | simp (maxSteps := 1000000) only [go_sem, simprocAttr, ↓reduceIte])
  refine VcCall.ro (.ro (enR (R.map (shE by')))) (FnFr.of_ok kJ rfl (by simp [noRoRows, noRoItem, noRoRow, noRoL, noRo, enR, enAv])) (by simp only [noIdR_ok, argOkL, argOk, allOk, argOkN, List.drop_zero, lk, reduceIte, reduceCtorEq, Nat.reduceEqDiff, Option.some.injEq, Item.row.injEq, Item.box.injEq, AV.ro.injEq, exists_eq_left, exists_and_left, exists_eq_left', exists_eq_right, and_assoc, and_true, true_and, List.cons.injEq, exists_eq', exists_eq, stR, noIdR_ok]) (by simp [outOk, argOkL, allOk, argOk, argOkN, lk, noIdR_ok, enR, -List.map_map]) rfl ?_
  unfold enR
  (repeat' first | with_reducible (first | intro _ | refine rc ?_ | refine rl ?_ | refine rh ?_ | refine rt ?_ | refine rf ?_ | refine rs ?_ | refine And.intro ?_ ?_) | omega | simp (maxSteps := 1000000) only [go_sem, simprocAttr, ↓reduceIte, List.length_map])
  refine VcLoop.intro (fun k : Nat => ⟨48, [(24, .int .i64 k), (23, .int .i64 R.length), (22, .ro (.objs 2 ((R.map (shE by')).map enAv))), (7, .own 0), (3, .ptr 1 0), (4, .ptr 2 0)], [(0, .row 65 (nbs ((R.take k).map (rowBox p w ⟨bx, by', bw, bh⟩)))), (1, .box 141 [.cell [.int .i64 w, .int .i64 h, .ro (.bools p), .cell sc, .int .i64 gx, .int .i64 gy, .ro (nbs [])]]), (2, .box 65 [.int .i64 bx, .int .i64 by', .int .i64 bw, .int .i64 bh])], 3⟩) (fun k => k ≤ R.length) (fun k => R.length - k) 0 ?_ (Nat.zero_le _) fun k hk => ?_
  · refine Ent.auto0 rfl ?_ ?_ <;> simp only [go_sem, reduceCtorEq, reduceIte, Nat.reduceEqDiff, Nat.reduceLT, Nat.reduceLeDiff, Int.natCast_succ, List.take_zero, List.map_nil, nbs, zrow]
  by_cases hlt : k < R.length
  · have he : ((R.map (shE by')).map enAv).getD k [] = [.int .i64 (by' + (R.getD k (0, 0)).1 : Nat), .int .i64 (((by' + (R.getD k (0, 0)).2 : Nat) : Int) - (by' + (R.getD k (0, 0)).1 : Nat))] := by
      rw [en_elem _ (by simpa using hlt)]
      rw [getD_lt (by simpa using hlt), getD_lt hlt, List.getElem_map]; rfl
    have hmem : R.getD k (0, 0) ∈ R := by rw [getD_lt hlt]; exact List.getElem_mem hlt
    have hmt := hm _ hmem
    have kTk := kT _ hmem
    have hs : ((R.take (k + 1)).map (rowBox p w ⟨bx, by', bw, bh⟩)).map Nb.av = ((R.take k).map (rowBox p w ⟨bx, by', bw, bh⟩)).map Nb.av ++ [(tightB p w (rowBoxT ⟨bx, by', bw, bh⟩ (R.getD k (0, 0)))).av] := by
      rw [take_succG (z := (0, 0)) hlt, List.map_append, List.map_append]; rfl
    have hll : ((R.take k).map (rowBox p w ⟨bx, by', bw, bh⟩)).length = k := by rw [List.length_map, List.length_take]; omega
    generalize R.getD k (0, 0) = t at *
    obtain ⟨a, e⟩ := t
    unfold rowBoxT at kTk hs
    dsimp only at hmt kTk hs he
    generalize tightB p w ⟨bx, by' + a, bw, e - a⟩ = T at *
    obtain ⟨Tx, Ty, Tw, Th⟩ := T
    generalize (R.take k).map (rowBox p w ⟨bx, by', bw, bh⟩) = D at *
    unfold nbs
    dsimp only [Nb.av] at kTk hs
    have e1 : (((by' + e : Nat) : Int) - (by' + a : Nat)) = ((e - a : Nat) : Int) := by omega
    (repeat' first | with_reducible (first | intro _ | refine rc ?_ | refine rl ?_ | refine rh ?_ | refine rt ?_ | refine rf ?_ | refine rs ?_ | refine And.intro ?_ ?_) | omega | simp (maxSteps := 1000000) only [go_sem, simprocAttr, ↓reduceIte, List.length_map, elemA, he, e1])
    refine VcCall.fr (FnFr.of_ok kTk rfl rfl) (by simp only [noIdR_ok, argOkL, argOk, allOk, argOkN, List.drop_zero, lk, reduceIte, reduceCtorEq, Nat.reduceEqDiff, Option.some.injEq, Item.row.injEq, Item.box.injEq, AV.ro.injEq, exists_eq_left, exists_and_left, exists_eq_left', exists_eq_right, and_assoc, and_true, true_and, List.cons.injEq, exists_eq', exists_eq, nbs, noIdR_ok, List.map_nil]) 0 rfl (by simp [rowsB]) ?_
    (repeat' first | with_reducible (first | intro _ | refine rc ?_ | refine rl ?_ | refine rh ?_ | refine rt ?_ | refine rf ?_ | refine rs ?_ | refine And.intro ?_ ?_) | omega | simp (maxSteps := 1000000) only [go_sem, simprocAttr, ↓reduceIte, List.length_map])
    refine ⟨k + 1, Ent.auto0 rfl ?_ ?_, by omega, by omega⟩ <;> simp only [go_sem, reduceCtorEq, reduceIte, Nat.reduceEqDiff, Nat.reduceLT, Nat.reduceLeDiff, Int.natCast_succ, hs, nbs]
  · have e : k = R.length := by omega
    subst e
    rw [List.take_length]
    (repeat' first | with_reducible (first | intro _ | refine rc ?_ | refine rl ?_ | refine rh ?_ | refine rt ?_ | refine rf ?_ | refine rs ?_ | refine And.intro ?_ ?_) | omega | simp (maxSteps := 1000000) only [go_sem, simprocAttr, ↓reduceIte, List.length_map])
    refine Ret.auto 1 ?_ rfl ?_ <;> simp only [go_sem, reduceCtorEq, reduceIte, Nat.reduceEqDiff, Nat.reduceLT, Nat.reduceLeDiff, Int.natCast_succ, Post, nbs, renR_ok, belowR_ok]
/-- The words of a box, by places in it. -/
def linesC (p : List Bool) (w : Nat) (b : Nb) (gap : Nat) : List (Nat × Nat) := rfGo (fun j => !colE p w b (b.x + j)) gap b.w 0 []
def wordBoxT (b : Nb) (t : Nat × Nat) : Nb := ⟨b.x + t.1, b.y, t.2 - t.1, b.h⟩
def wordBox (p : List Bool) (w : Nat) (b : Nb) (t : Nat × Nat) : Nb := tightB p w (wordBoxT b t)
theorem linesC_mem {p : List Bool} {w : Nat} {b : Nb} {gap : Nat} {t : Nat × Nat} (h : t ∈ linesC p w b gap) : t.1 < t.2 ∧ t.2 ≤ b.w ∧ PartOf (wordBoxT b t) b ∧ 0 < inkB p w (wordBoxT b t) := by
  have k := rfGo_ok (fun j => !colE p w b (b.x + j)) gap b.w 0 [] (fun t ht => absurd ht List.not_mem_nil) t h
  have h1 := k.lt
  have h2 := k.le
  have h3 := k.at1
  rw [Nat.zero_add] at h2
  refine ⟨h1, h2, by unfold PartOf wordBoxT; dsimp only; omega, ?_⟩
  have h4 : colN p w b (b.x + t.1) ≠ 0 := by
    intro h0
    unfold colE at h3
    rw [decide_eq_true h0] at h3
    exact absurd h3 (by decide)
  have h5 : colN p w b (b.x + t.1) ≤ inkB p w (wordBoxT b t) := by
    unfold colN inkB wordBoxT
    exact inkN_mono p w (by dsimp only; omega) (by dsimp only; omega) (Nat.le_refl _) (Nat.le_refl _)
  omega
theorem linesC_len (p : List Bool) (w : Nat) (b : Nb) (gap : Nat) : (linesC p w b gap).length ≤ b.w := by
  have := rfGo_len (fun j => !colE p w b (b.x + j)) gap b.w 0 []
  simpa [linesC] using this
set_option maxHeartbeats 1000000 in
theorem words1_ok (p : List Bool) (w h : Nat) (hw : w ≤ 4000) (hh : h ≤ 4000) (gx gy : Nat) (o : List Nb) (b : Nb) (i : Nat) (hi : i < w) (hb : InP b w h) :
    FnOk Tryz.prog 129 [.int .i64 i, .cell [.cell (ctr p w h gx gy (.ro (nbs o)))], .cell b.av] (.bool (!colE p w b i)) [] := by
  have k := column_ok p w h hw hh gx gy o b i hi hb
  have e : (!colE p w b i) = decide (0 < (colN p w b i : Int)) := by
    unfold colE
    by_cases h0 : colN p w b i = 0
    · rw [h0]; rfl
    · rw [decide_eq_false h0, decide_eq_true (by omega : 0 < (colN p w b i : Int))]; rfl
  rw [e]
  generalize decide (0 < (colN p w b i : Int)) = q at *
  unfold ctr Nb.av at *
  generalize sumL p w h = sc at *
  refine FnOk.of_vc Tryz.func129 rfl (by decide) (by simp [Tryz.f129]) [.tmp 4] rfl fun w0 T0 _ => ?_
  simp only [Tryz.f129, argEnv]
  (repeat' first | with_reducible (first | intro _ | refine rc ?_ | refine rl ?_ | refine rh ?_ | refine rt ?_ | refine rf ?_ | refine rs ?_ | refine And.intro ?_ ?_) | omega | simp (maxSteps := 1000000) only [go_sem, simprocAttr, ↓reduceIte])
  refine VcCall.k (k) ?_
  (repeat' first | with_reducible (first | intro _ | refine rc ?_ | refine rl ?_ | refine rh ?_ | refine rt ?_ | refine rf ?_ | refine rs ?_ | refine And.intro ?_ ?_) | omega | simp (maxSteps := 1000000) only [go_sem, simprocAttr, ↓reduceIte])
  refine Ret.auto 0 ?_ rfl ?_ <;> simp only [go_sem, reduceCtorEq, reduceIte, Nat.reduceEqDiff, Nat.reduceLT, Nat.reduceLeDiff, Int.natCast_succ, Post]
set_option maxHeartbeats 4000000 in
theorem words_ok (p : List Bool) (w h : Nat) (hw : w ≤ 4000) (hh : h ≤ 4000) (gx gy : Nat) (b : Nb) (hb : InP b w h) (gap : Nat) (hg1 : 1 ≤ gap) (hg : gap ≤ 4000) :
    FnOk Tryz.prog 61 [.cell (ctr p w h gx gy (.ro (nbs []))), .agg b.av, .int .i64 gap] (.own 0) [(0, .row 65 (nbs ((linesC p w b gap).map (wordBox p w b))))] := by
  have kS := stretches_ok b.x (b.x + b.w) (by omega) (by unfold InP at hb; omega) 129 [.cell [.cell (ctr p w h gx gy (.ro (nbs [])))], .cell b.av] (fun i => !colE p w b i) fun i h1 h2 => FnFr.of_ok (words1_ok p w h hw hh gx gy [] b i (by unfold InP at hb; omega) hb) rfl rfl
  rw [Nat.add_sub_cancel_left] at kS
  have bS : ∀ s, s ∈ strs (fun i => !colE p w b i) b.w b.x → s.1 ≤ 10000 ∧ s.2 ≤ 10000 := fun s hs => by
    have := strs_mem _ _ _ _ hs
    unfold InP at hb; omega
  have kJ := joined_ok (strs (fun i => !colE p w b i) b.w b.x) (by have := strs_len (fun i => !colE p w b i) b.w b.x; unfold InP at hb; omega) bS gap hg
  rw [joined_ref (fun i => !colE p w b i) gap b.w b.x hg1] at kJ
  have hm := fun t (ht : t ∈ linesC p w b gap) => linesC_mem ht
  have hlen := linesC_len p w b gap
  rw [show rfGo (fun j => !colE p w b (b.x + j)) gap b.w 0 [] = linesC p w b gap from rfl] at kJ
  have kT := fun t (ht : t ∈ linesC p w b gap) => tight_ok p w h hw hh gx gy [] (wordBoxT b t) (hb.of (hm t ht).2.2.1) (hm t ht).2.2.2
  generalize strs (fun i => !colE p w b i) b.w b.x = L at *
  generalize linesC p w b gap = R at *
  have hRb : R.length ≤ 4000 := by unfold InP at hb; omega
  obtain ⟨bx, by', bw, bh⟩ := b
  have hbb := hb
  unfold InP at hbb
  dsimp only at hbb
  simp only [ctr, Nb.av] at *
  generalize sumL p w h = sc at *
  refine FnOk.of_vc Tryz.func61 rfl (by decide) (by simp [Tryz.f61]) [.tmp 6] rfl fun w0 T0 _ => ?_
  simp only [Tryz.f61, argEnv]
  (repeat' first | with_reducible (first | intro _ | refine rc ?_ | refine rl ?_ | refine rh ?_ | refine rt ?_ | refine rf ?_ | refine rs ?_ | refine And.intro ?_ ?_) | omega | simp (maxSteps := 1000000) only [go_sem, simprocAttr, ↓reduceIte])
  refine VcCall.ro (.ro (stR L)) (FnFr.of_ok kS rfl (by simp [noRoRows, noRoItem, noRoRow, noRoL, noRo, stR, stAv])) (by simp only [noIdR_ok, argOkL, argOk, allOk, argOkN, List.drop_zero, lk, reduceIte, reduceCtorEq, Nat.reduceEqDiff, Option.some.injEq, Item.row.injEq, Item.box.injEq, AV.ro.injEq, exists_eq_left, exists_and_left, exists_eq_left', exists_eq_right, and_assoc, and_true, true_and, List.cons.injEq, exists_eq', exists_eq, nbs, noIdR_ok, Int.natCast_add]) (by simp [outOk, argOkL, allOk, argOk, argOkN, lk, noIdR_ok, stR]) rfl ?_
  (repeat' first | with_reducible (first | intro _ | refine rc ?_ | refine rl ?_ | refine rh ?_ | refine rt ?_ | refine rf ?_ | refine rs ?_ | refine And.intro ?_ ?_) | omega | simp (maxSteps := 1000000) only [go_sem, simprocAttr, ↓reduceIte])
  refine VcCall.ro (.ro (enR (R.map (shE bx)))) (FnFr.of_ok kJ rfl (by simp [noRoRows, noRoItem, noRoRow, noRoL, noRo, enR, enAv])) (by simp only [noIdR_ok, argOkL, argOk, allOk, argOkN, List.drop_zero, lk, reduceIte, reduceCtorEq, Nat.reduceEqDiff, Option.some.injEq, Item.row.injEq, Item.box.injEq, AV.ro.injEq, exists_eq_left, exists_and_left, exists_eq_left', exists_eq_right, and_assoc, and_true, true_and, List.cons.injEq, exists_eq', exists_eq, stR, noIdR_ok]) (by simp [outOk, argOkL, allOk, argOk, argOkN, lk, noIdR_ok, enR, -List.map_map]) rfl ?_
  unfold enR
  (repeat' first | with_reducible (first | intro _ | refine rc ?_ | refine rl ?_ | refine rh ?_ | refine rt ?_ | refine rf ?_ | refine rs ?_ | refine And.intro ?_ ?_) | omega | simp (maxSteps := 1000000) only [go_sem, simprocAttr, ↓reduceIte, List.length_map])
  refine VcLoop.intro (fun k : Nat => ⟨48, [(24, .int .i64 k), (23, .int .i64 R.length), (22, .ro (.objs 2 ((R.map (shE bx)).map enAv))), (7, .own 0), (3, .ptr 1 0), (4, .ptr 2 0)], [(0, .row 65 (nbs ((R.take k).map (wordBox p w ⟨bx, by', bw, bh⟩)))), (1, .box 141 [.cell [.int .i64 w, .int .i64 h, .ro (.bools p), .cell sc, .int .i64 gx, .int .i64 gy, .ro (nbs [])]]), (2, .box 65 [.int .i64 bx, .int .i64 by', .int .i64 bw, .int .i64 bh])], 3⟩) (fun k => k ≤ R.length) (fun k => R.length - k) 0 ?_ (Nat.zero_le _) fun k hk => ?_
  · refine Ent.auto0 rfl ?_ ?_ <;> simp only [go_sem, reduceCtorEq, reduceIte, Nat.reduceEqDiff, Nat.reduceLT, Nat.reduceLeDiff, Int.natCast_succ, List.take_zero, List.map_nil, nbs, zrow]
  by_cases hlt : k < R.length
  · have he : ((R.map (shE bx)).map enAv).getD k [] = [.int .i64 (bx + (R.getD k (0, 0)).1 : Nat), .int .i64 (((bx + (R.getD k (0, 0)).2 : Nat) : Int) - (bx + (R.getD k (0, 0)).1 : Nat))] := by
      rw [en_elem _ (by simpa using hlt)]
      rw [getD_lt (by simpa using hlt), getD_lt hlt, List.getElem_map]; rfl
    have hmem : R.getD k (0, 0) ∈ R := by rw [getD_lt hlt]; exact List.getElem_mem hlt
    have hmt := hm _ hmem
    have kTk := kT _ hmem
    have hs : ((R.take (k + 1)).map (wordBox p w ⟨bx, by', bw, bh⟩)).map Nb.av = ((R.take k).map (wordBox p w ⟨bx, by', bw, bh⟩)).map Nb.av ++ [(tightB p w (wordBoxT ⟨bx, by', bw, bh⟩ (R.getD k (0, 0)))).av] := by
      rw [take_succG (z := (0, 0)) hlt, List.map_append, List.map_append]; rfl
    have hll : ((R.take k).map (wordBox p w ⟨bx, by', bw, bh⟩)).length = k := by rw [List.length_map, List.length_take]; omega
    generalize R.getD k (0, 0) = t at *
    obtain ⟨a, e⟩ := t
    unfold wordBoxT at kTk hs
    dsimp only at hmt kTk hs he
    generalize tightB p w ⟨bx + a, by', e - a, bh⟩ = T at *
    obtain ⟨Tx, Ty, Tw, Th⟩ := T
    generalize (R.take k).map (wordBox p w ⟨bx, by', bw, bh⟩) = D at *
    unfold nbs
    dsimp only [Nb.av] at kTk hs
    have e1 : (((bx + e : Nat) : Int) - (bx + a : Nat)) = ((e - a : Nat) : Int) := by omega
    (repeat' first | with_reducible (first | intro _ | refine rc ?_ | refine rl ?_ | refine rh ?_ | refine rt ?_ | refine rf ?_ | refine rs ?_ | refine And.intro ?_ ?_) | omega | simp (maxSteps := 1000000) only [go_sem, simprocAttr, ↓reduceIte, List.length_map, elemA, he, e1])
    refine VcCall.fr (FnFr.of_ok kTk rfl rfl) (by simp only [noIdR_ok, argOkL, argOk, allOk, argOkN, List.drop_zero, lk, reduceIte, reduceCtorEq, Nat.reduceEqDiff, Option.some.injEq, Item.row.injEq, Item.box.injEq, AV.ro.injEq, exists_eq_left, exists_and_left, exists_eq_left', exists_eq_right, and_assoc, and_true, true_and, List.cons.injEq, exists_eq', exists_eq, nbs, noIdR_ok, List.map_nil]) 0 rfl (by simp [rowsB]) ?_
    (repeat' first | with_reducible (first | intro _ | refine rc ?_ | refine rl ?_ | refine rh ?_ | refine rt ?_ | refine rf ?_ | refine rs ?_ | refine And.intro ?_ ?_) | omega | simp (maxSteps := 1000000) only [go_sem, simprocAttr, ↓reduceIte, List.length_map])
    refine ⟨k + 1, Ent.auto0 rfl ?_ ?_, by omega, by omega⟩ <;> simp only [go_sem, reduceCtorEq, reduceIte, Nat.reduceEqDiff, Nat.reduceLT, Nat.reduceLeDiff, Int.natCast_succ, hs, nbs]
  · have e : k = R.length := by omega
    subst e
    rw [List.take_length]
    (repeat' first | with_reducible (first | intro _ | refine rc ?_ | refine rl ?_ | refine rh ?_ | refine rt ?_ | refine rf ?_ | refine rs ?_ | refine And.intro ?_ ?_) | omega | simp (maxSteps := 1000000) only [go_sem, simprocAttr, ↓reduceIte, List.length_map])
    refine Ret.auto 1 ?_ rfl ?_ <;> simp only [go_sem, reduceCtorEq, reduceIte, Nat.reduceEqDiff, Nat.reduceLT, Nat.reduceLeDiff, Int.natCast_succ, Post, nbs, renR_ok, belowR_ok]
end Go.Fv.U

/-! The gap between words: plain law. -/
namespace Go.Fv.U
open Go
set_option linter.unusedSimpArgs false
set_option linter.unusedVariables false

def gpf (S : List (Nat × Nat)) (i : Nat) : Int := ((S.getD (i + 1) (0, 0)).1 : Int) - (S.getD i (0, 0)).1 - (S.getD i (0, 0)).2
def gpl (S : List (Nat × Nat)) (n : Nat) : List Int := (List.range n).map (gpf S)
theorem gpl_len (S : List (Nat × Nat)) (n : Nat) : (gpl S n).length = n := by simp [gpl]
theorem gpl_succ (S : List (Nat × Nat)) (n : Nat) : gpl S (n + 1) = gpl S n ++ [gpf S n] := by
  unfold gpl; rw [List.range_succ, List.map_append]; rfl
def WB (W : List Int) : Prop := ∀ x, x ∈ W → -50000 ≤ x ∧ x ≤ 50000
theorem gpl_bd {S : List (Nat × Nat)} (h : ∀ s, s ∈ S → s.1 ≤ 10000 ∧ s.2 ≤ 10000) (n : Nat) : WB (gpl S n) := by
  intro x hx
  unfold gpl at hx
  obtain ⟨i, _, rfl⟩ := List.mem_map.1 hx
  have bd : ∀ j, (S.getD j (0, 0)).1 ≤ 10000 ∧ (S.getD j (0, 0)).2 ≤ 10000 := fun j => by
    by_cases hj : j < S.length
    · rw [getD_lt hj]; exact h _ (List.getElem_mem hj)
    · rw [List.getD_eq_getElem?_getD, List.getElem?_eq_none (by omega)]; exact ⟨by decide, by decide⟩
  have h1 := bd (i + 1)
  have h2 := bd i
  unfold gpf
  omega
theorem sortI_bd {W : List Int} (h : WB W) : WB (sortI W) := fun x hx => h x ((List.mergeSort_perm W _).mem_iff.1 hx)
theorem sortI_lenG (W : List Int) : (sortI W).length = W.length := List.length_mergeSort _
def gS (W : List Int) : Nat → Int × Int
  | 0 => (W.getD (W.length - 1) 0 + 1, 2)
  | j + 1 => if (gS W j).2 ≤ W.getD (j + 1) 0 - W.getD j 0 then (W.getD (j + 1) 0, W.getD (j + 1) 0 - W.getD j 0) else gS W j
def gapR (W : List Int) : Int := (gS W (W.length - 1)).1
def gapV (S : List (Nat × Nat)) : Int := if S.length ≤ 1 then 1 else gapR (sortI (gpl S (S.length - 1)))
theorem wb_get {W : List Int} (h : WB W) (j : Nat) : -50000 ≤ W.getD j 0 ∧ W.getD j 0 ≤ 50000 := by
  by_cases hj : j < W.length
  · rw [getD_lt hj]; exact h _ (List.getElem_mem hj)
  · rw [List.getD_eq_getElem?_getD, List.getElem?_eq_none (by omega)]; exact ⟨by decide, by decide⟩
theorem gS_bd {W : List Int} (h : WB W) : ∀ j, (-60000 ≤ (gS W j).1 ∧ (gS W j).1 ≤ 60000) ∧ (-200000 ≤ (gS W j).2 ∧ (gS W j).2 ≤ 200000)
  | 0 => by
    have := wb_get h (W.length - 1)
    unfold gS; dsimp only; omega
  | j + 1 => by
    have h1 := wb_get h (j + 1)
    have h2 := wb_get h j
    unfold gS
    split
    · dsimp only; omega
    · exact gS_bd h j
end Go.Fv.U

/- slices.Sort of ints, by the shelf. -/
namespace Go.Proofs
open Go.Shelf
def Tryz.lSort_ren : Go.Shelf.Ren := ⟨fun | 5 => 128 | 8 => 93 | 7 => 174 | 19 => 154 | 20 => 155 | 10 => 209 | 11 => 210 | 12 => 211 | 13 => 212 | 14 => 213 | 15 => 214 | 16 => 215 | 17 => 216 | 18 => 217 | 30 => 239 | 31 => 197 | 32 => 198 | 33 => 240 | 34 => 241 | 35 => 137 | 40 => 251 | n => n, fun | 23 => 81 | 25 => 3 | 3 => 3 | 32 => 180 | 22 => 81 | 0 => 0 | 44 => 236 | 46 => 238 | 4 => 4 | 36 => 228 | 35 => 227 | 41 => 233 | 5 => 5 | 9 => 9 | 53 => 270 | 57 => 274 | 63 => 303 | 64 => 304 | n => n, fun | n => n⟩
theorem Tryz.lSort : Go.Proofs.SlLaysM.n5 Tryz.prog Tryz.lSort_ren := {
  mixed := by kernel_rfl
  f5 := ⟨Tryz.f128.name, by decide, Tryz.func128.trans (congrArg some (by kernel_rfl))⟩
  f7 := ⟨Tryz.f174.name, by decide, Tryz.func174.trans (congrArg some (by kernel_rfl))⟩
  f8 := Tryz.func93.trans (congrArg some (by kernel_rfl))
  f10 := ⟨Tryz.f209.name, by decide, Tryz.func209.trans (congrArg some (by kernel_rfl))⟩
  f11 := ⟨Tryz.f210.name, by decide, Tryz.func210.trans (congrArg some (by kernel_rfl))⟩
  f12 := ⟨Tryz.f211.name, by decide, Tryz.func211.trans (congrArg some (by kernel_rfl))⟩
  f13 := ⟨Tryz.f212.name, by decide, Tryz.func212.trans (congrArg some (by kernel_rfl))⟩
  f14 := ⟨Tryz.f213.name, by decide, Tryz.func213.trans (congrArg some (by kernel_rfl))⟩
  f15 := ⟨Tryz.f214.name, by decide, Tryz.func214.trans (congrArg some (by kernel_rfl))⟩
  f16 := ⟨Tryz.f215.name, by decide, Tryz.func215.trans (congrArg some (by kernel_rfl))⟩
  f17 := ⟨Tryz.f216.name, by decide, Tryz.func216.trans (congrArg some (by kernel_rfl))⟩
  f18 := ⟨Tryz.f217.name, by decide, Tryz.func217.trans (congrArg some (by kernel_rfl))⟩
  f19 := Tryz.func154.trans (congrArg some (by kernel_rfl))
  f20 := Tryz.func155.trans (congrArg some (by kernel_rfl))
  f30 := ⟨Tryz.f239.name, by decide, Tryz.func239.trans (congrArg some (by kernel_rfl))⟩
  f31 := Tryz.func197.trans (congrArg some (by kernel_rfl))
  f32 := Tryz.func198.trans (congrArg some (by kernel_rfl))
  f33 := ⟨Tryz.f240.name, by decide, Tryz.func240.trans (congrArg some (by kernel_rfl))⟩
  f34 := ⟨Tryz.f241.name, by decide, Tryz.func241.trans (congrArg some (by kernel_rfl))⟩
  f35 := ⟨Tryz.f137.name, by decide, Tryz.func137.trans (congrArg some (by kernel_rfl))⟩
  f40 := ⟨Tryz.f251.name, by decide, Tryz.func251.trans (congrArg some (by kernel_rfl))⟩
  t0 := Tryz.underlying0
  a0 := Tryz.isAgg0
  z0 := Tryz.sizeOf0
  v0 := Tryz.zeroValue0
  t3 := Tryz.underlying3
  a3 := Tryz.isAgg3
  z3 := Tryz.sizeOf3
  v3 := Tryz.zeroValue3
  t4 := Tryz.underlying4
  a4 := Tryz.isAgg4
  z4 := Tryz.sizeOf4
  v4 := Tryz.zeroValue4
  t5 := Tryz.underlying5
  a5 := Tryz.isAgg5
  z5 := Tryz.sizeOf5
  v5 := Tryz.zeroValue5
  t9 := Tryz.underlying9
  a9 := Tryz.isAgg9
  z9 := Tryz.sizeOf9
  v9 := Tryz.zeroValue9
  t22 := Tryz.underlying81
  a22 := Tryz.isAgg81
  z22 := Tryz.sizeOf81
  v22 := Tryz.zeroValue81
  t23 := Tryz.underlying81
  a23 := Tryz.isAgg81
  z23 := Tryz.sizeOf81
  v23 := Tryz.zeroValue81
  t25 := Tryz.underlying3
  a25 := Tryz.isAgg3
  z25 := Tryz.sizeOf3
  v25 := Tryz.zeroValue3
  t32 := Tryz.underlying180
  a32 := Tryz.isAgg180
  z32 := Tryz.sizeOf180
  v32 := Tryz.zeroValue180
  t35 := Tryz.underlying227
  a35 := Tryz.isAgg227
  z35 := Tryz.sizeOf227
  v35 := Tryz.zeroValue227
  t36 := Tryz.underlying228
  a36 := Tryz.isAgg228
  z36 := Tryz.sizeOf228
  v36 := Tryz.zeroValue228
  t41 := Tryz.underlying233
  a41 := Tryz.isAgg233
  z41 := Tryz.sizeOf233
  v41 := Tryz.zeroValue233
  t44 := Tryz.underlying236
  a44 := Tryz.isAgg236
  z44 := Tryz.sizeOf236
  v44 := Tryz.zeroValue236
  t46 := Tryz.underlying238
  a46 := Tryz.isAgg238
  z46 := Tryz.sizeOf238
  v46 := Tryz.zeroValue238
  t53 := Tryz.underlying270
  a53 := Tryz.isAgg270
  z53 := Tryz.sizeOf270
  v53 := Tryz.zeroValue270
  t57 := Tryz.underlying274
  a57 := Tryz.isAgg274
  z57 := Tryz.sizeOf274
  v57 := Tryz.zeroValue274
  t63 := Tryz.underlying303
  a63 := Tryz.isAgg303
  z63 := Tryz.sizeOf303
  v63 := Tryz.zeroValue303
  t64 := Tryz.underlying304
  a64 := Tryz.isAgg304
  z64 := Tryz.sizeOf304
  v64 := Tryz.zeroValue304 }
end Go.Proofs
namespace Go.Fv.U
open Go Go.Proofs
end Go.Fv.U

/- slices.Sort of ints, as a contract that writes the caller's row. -/
namespace Go.Fv.U
open Go Go.Proofs
theorem sortR_ok (l : List Int) (hl : l.length ≤ 1000000000) : FnIO Tryz.prog 128 [.own 0] [(0, .row 3 (.ints .i64 l))] 1 (.tup []) [(0, .row 3 (.ints .i64 (Go.Fv.sortI l)))] :=
  Go.Fv.sortInts_io Tryz.lSort ⟨_, Tryz.func128, by kernel_rfl, by kernel_rfl⟩ 3 l (by omega)
theorem cov1 {a : Item} : ∀ j, j < 1 → ∃ it, lk [(0, a)] j = some it
  | 0, _ => ⟨_, rfl⟩
  | _ + 1, h => absurd h (by omega)
end Go.Fv.U

/-! The gap between words: the walk. -/
namespace Go.Fv.U
open Go Go.Proofs
set_option linter.unusedSimpArgs false
set_option linter.unusedVariables false
set_option linter.unnecessarySimpa false
set_option maxRecDepth 8000

/-- The stretches of columns with ink, by places in the box. -/
def inkS (p : List Bool) (w : Nat) (b : Nb) : List (Nat × Nat) := strs (fun j => !colE p w b (b.x + j)) b.w 0
theorem inkS_abs (p : List Bool) (w : Nat) (b : Nb) : strs (fun i => !colE p w b i) b.w b.x = (inkS p w b).map fun s => (b.x + s.1, s.2) := by
  have h := strs_shift (fun i => !colE p w b i) b.x b.w 0
  rw [Nat.add_zero] at h
  exact h
theorem inkS_len (p : List Bool) (w : Nat) (b : Nb) : (inkS p w b).length ≤ b.w := strs_len _ _ _
theorem inkS_mem {p : List Bool} {w : Nat} {b : Nb} {s : Nat × Nat} (h : s ∈ inkS p w b) : s.1 + s.2 ≤ b.w := by
  have := strs_mem _ _ _ _ h
  omega
set_option maxHeartbeats 1000000 in
theorem gap1_ok (p : List Bool) (w h : Nat) (hw : w ≤ 4000) (hh : h ≤ 4000) (gx gy : Nat) (o : List Nb) (b : Nb) (i : Nat) (hi : i < w) (hb : InP b w h) :
    FnOk Tryz.prog 126 [.int .i64 i, .cell [.cell (ctr p w h gx gy (.ro (nbs o)))], .cell b.av] (.bool (!colE p w b i)) [] := by
  have k := column_ok p w h hw hh gx gy o b i hi hb
  have e : (!colE p w b i) = decide (0 < (colN p w b i : Int)) := by
    unfold colE
    by_cases h0 : colN p w b i = 0
    · rw [h0]; rfl
    · rw [decide_eq_false h0, decide_eq_true (by omega : 0 < (colN p w b i : Int))]; rfl
  rw [e]
  generalize decide (0 < (colN p w b i : Int)) = q at *
  unfold ctr Nb.av at *
  generalize sumL p w h = sc at *
  refine FnOk.of_vc Tryz.func126 rfl (by decide) (by simp [Tryz.f126]) [.tmp 4] rfl fun w0 T0 _ => ?_
  simp only [Tryz.f126, argEnv]
  (repeat' first | with_reducible (first | intro _ | refine rc ?_ | refine rl ?_ | refine rh ?_ | refine rt ?_ | refine rf ?_ | refine rs ?_ | refine And.intro ?_ ?_) | omega | simp (maxSteps := 1000000) only [go_sem, simprocAttr, ↓reduceIte])
  refine VcCall.k (k) ?_
  (repeat' first | with_reducible (first | intro _ | refine rc ?_ | refine rl ?_ | refine rh ?_ | refine rt ?_ | refine rf ?_ | refine rs ?_ | refine And.intro ?_ ?_) | omega | simp (maxSteps := 1000000) only [go_sem, simprocAttr, ↓reduceIte])
  refine Ret.auto 0 ?_ rfl ?_ <;> simp only [go_sem, reduceCtorEq, reduceIte, Nat.reduceEqDiff, Nat.reduceLT, Nat.reduceLeDiff, Int.natCast_succ, Post]
set_option maxHeartbeats 8000000 in
theorem gap_ok (p : List Bool) (w h : Nat) (hw : w ≤ 4000) (hh : h ≤ 4000) (gx gy : Nat) (b : Nb) (hb : InP b w h) :
    FnOk Tryz.prog 59 [.cell (ctr p w h gx gy (.ro (nbs []))), .agg b.av] (.int .i64 (gapV (inkS p w b))) [] := by
  have kS := stretches_ok b.x (b.x + b.w) (by omega) (by unfold InP at hb; omega) 126 [.cell [.cell (ctr p w h gx gy (.ro (nbs [])))], .cell b.av] (fun i => !colE p w b i) fun i h1 h2 => FnFr.of_ok (gap1_ok p w h hw hh gx gy [] b i (by unfold InP at hb; omega) hb) rfl rfl
  rw [Nat.add_sub_cancel_left, inkS_abs] at kS
  have bS : ∀ s, s ∈ inkS p w b → s.1 ≤ 10000 ∧ s.2 ≤ 10000 := fun s hs => by
    have := inkS_mem hs
    unfold InP at hb; omega
  have hlen := inkS_len p w b
  generalize inkS p w b = SL at *
  have hSb : SL.length ≤ 4000 := by unfold InP at hb; omega
  obtain ⟨bx, by', bw, bh⟩ := b
  have hbb := hb
  unfold InP at hbb
  dsimp only at hbb hlen
  simp only [ctr, Nb.av] at *
  generalize sumL p w h = sc at *
  refine FnOk.of_vc Tryz.func59 rfl (by decide) (by simp [Tryz.f59]) [.tmp 4] rfl fun w0 T0 _ => ?_
  simp only [Tryz.f59, argEnv]
  (repeat' first | with_reducible (first | intro _ | refine rc ?_ | refine rl ?_ | refine rh ?_ | refine rt ?_ | refine rf ?_ | refine rs ?_ | refine And.intro ?_ ?_) | omega | simp (maxSteps := 1000000) only [go_sem, simprocAttr, ↓reduceIte])
  refine VcCall.ro (.ro (stR (SL.map fun s => (bx + s.1, s.2)))) (FnFr.of_ok kS rfl (by simp [noRoRows, noRoItem, noRoRow, noRoL, noRo, stR, stAv])) (by simp only [noIdR_ok, argOkL, argOk, allOk, argOkN, List.drop_zero, lk, reduceIte, reduceCtorEq, Nat.reduceEqDiff, Option.some.injEq, Item.row.injEq, Item.box.injEq, AV.ro.injEq, exists_eq_left, exists_and_left, exists_eq_left', exists_eq_right, and_assoc, and_true, true_and, List.cons.injEq, exists_eq', exists_eq, nbs, noIdR_ok, Int.natCast_add]) (by simp [outOk, argOkL, allOk, argOk, argOkN, lk, noIdR_ok, stR, -List.map_map]) rfl ?_
  unfold stR
  (repeat' first | with_reducible (first | intro _ | refine rc ?_ | refine rl ?_ | refine rh ?_ | refine rt ?_ | refine rf ?_ | refine rs ?_ | refine And.intro ?_ ?_) | omega | simp (maxSteps := 1000000) only [go_sem, simprocAttr, ↓reduceIte, List.length_map])
  have elem : ∀ i, i < SL.length → ((SL.map fun s => (bx + s.1, s.2)).map stAv).getD i [] = [.int .i64 (bx + (SL.getD i (0, 0)).1 : Nat), .int .i64 (SL.getD i (0, 0)).2] := fun i hi => by
    rw [st_elem _ (by simpa using hi), getD_lt (by simpa using hi), getD_lt hi, List.getElem_map]
  have hSA : ((SL.map fun s => (bx + s.1, s.2)).map stAv).length = SL.length := by rw [List.length_map, List.length_map]
  generalize (SL.map fun s => (bx + s.1, s.2)).map stAv = SA at *
  refine VcLoop.intro (fun i : Nat => ⟨86, [(7, .int .i64 (i + 1 : Nat)), (5, .ro (.objs 2 SA)), (6, .own 0)], [(0, .row 3 (.ints .i64 (gpl SL i)))], 1⟩) (fun i => i ≤ SL.length - 1) (fun i => SL.length - i) 0 ?_ (Nat.zero_le _) fun i hi => ?_
  · refine Ent.auto0 rfl ?_ ?_ <;> simp only [go_sem, reduceCtorEq, reduceIte, Nat.reduceEqDiff, Nat.reduceLT, Nat.reduceLeDiff, Int.natCast_succ, gpl, List.range_zero, List.map_nil]
    all_goals rfl
  have hll := gpl_len SL i
  have hsu := gpl_succ SL i
  by_cases hlt : i + 1 < SL.length
  · have e1 := elem (i + 1) hlt
    have e0 := elem i (by omega)
    have b1 := bS (SL.getD (i + 1) (0, 0)) (by rw [getD_lt hlt]; exact List.getElem_mem hlt)
    have b0 := bS (SL.getD i (0, 0)) (by rw [getD_lt (show i < SL.length by omega)]; exact List.getElem_mem _)
    unfold gpf at hsu
    generalize SL.getD (i + 1) (0, 0) = u at *
    generalize SL.getD i (0, 0) = v at *
    generalize gpl SL i = G at *
    obtain ⟨u1, u2⟩ := u
    obtain ⟨v1, v2⟩ := v
    dsimp only at e1 e0 b1 b0 hsu
    have eN : (((i + 1 : Nat) : Int) - 1).toNat = i := by omega
    (repeat' first | with_reducible (first | intro _ | refine rc ?_ | refine rl ?_ | refine rh ?_ | refine rt ?_ | refine rf ?_ | refine rs ?_ | refine And.intro ?_ ?_) | omega | simp (maxSteps := 1000000) only [go_sem, simprocAttr, ↓reduceIte, hSA, Int.toNat_natCast])
    refine VcDraw.lex [20, 21] [(0, [1])] (by kernel_rfl) (by kernel_rfl) ?_
    (repeat' first | with_reducible (first | intro _ | refine rc ?_ | refine rl ?_ | refine rh ?_ | refine rt ?_ | refine rf ?_ | refine rs ?_ | refine And.intro ?_ ?_) | omega | simp (maxSteps := 1000000) only [go_sem, simprocAttr, ↓reduceIte, hSA, Int.toNat_natCast, eN, e1, e0])
    have eD : (bx : Int) + u1 - ((bx : Int) + v1) - v2 = (u1 : Int) - v1 - v2 := by omega
    refine ⟨i + 1, Ent.auto0 rfl ?_ ?_, by omega, by omega⟩ <;> simp only [go_sem, reduceCtorEq, reduceIte, Nat.reduceEqDiff, Nat.reduceLT, Nat.reduceLeDiff, Int.natCast_succ, hsu, eD, Int.natCast_add]
    all_goals rfl
  · have hi2 : i = SL.length - 1 := by omega
    (repeat' first | with_reducible (first | intro _ | refine rc ?_ | refine rl ?_ | refine rh ?_ | refine rt ?_ | refine rf ?_ | refine rs ?_ | refine And.intro ?_ ?_) | omega | simp (maxSteps := 1000000) only [go_sem, simprocAttr, ↓reduceIte, hSA])
    · rename_i h0
      have e : gapV SL = 1 := by unfold gapV; rw [if_pos (by omega)]
      rw [e]
      refine Ret.auto 0 ?_ rfl ?_ <;> simp only [go_sem, reduceCtorEq, reduceIte, Nat.reduceEqDiff, Nat.reduceLT, Nat.reduceLeDiff, Int.natCast_succ, Post]
    · rename_i h0
      have e : gapV SL = gapR (sortI (gpl SL i)) := by unfold gapV; rw [if_neg (by omega), hi2]
      have hWb := sortI_bd (gpl_bd bS i)
      have hWl : (sortI (gpl SL i)).length = i := by rw [sortI_lenG, hll]
      rw [e]
      refine VcCall.io [0] (sortR_ok (gpl SL i) (by omega)) (by decide) (by simp [renL, ren, ioN]) rfl (by simp [subOk, ioN, lk, Item.ren, Item.below, ren, renL, belowL, Fv.below, renR, belowR]) cov1 1 (by decide) rfl (by simp [rowsB, Item.below, Fv.below, belowL, belowR]) ?_
      generalize sortI (gpl SL i) = W at *
      have hb1 := wb_get hWb (W.length - 1)
      have eL : ((W.length : Int) - 1).toNat = W.length - 1 := by omega
      have hWp : 0 < W.length := by omega
      have hgb := gS_bd hWb
      unfold gapR
      (repeat' first | with_reducible (first | intro _ | refine rc ?_ | refine rl ?_ | refine rh ?_ | refine rt ?_ | refine rf ?_ | refine rs ?_ | refine And.intro ?_ ?_) | omega | simp (maxSteps := 1000000) only [go_sem, simprocAttr, ↓reduceIte, S.ioS, ioRows, ioN, delL, Item.ren, ren, renL, renR, List.map_nil, List.length_cons, List.length_nil, List.getElem?_cons_zero, List.getElem?_nil, List.cons_append, List.nil_append, Nat.reduceAdd, Nat.sub_self, Nat.add_zero, List.filter, eL])
      refine VcLoop.intro (fun j : Nat => ⟨86, [(10, .int .i64 (j + 1 : Nat)), (6, .own 0), (8, .int .i64 (gS W j).1), (9, .int .i64 (gS W j).2)], [(0, .row 3 (.ints .i64 W))], 1⟩) (fun j => j ≤ W.length - 1) (fun j => W.length - j) 0 ?_ (Nat.zero_le _) fun j hj => ?_
      · refine Ent.auto0 rfl ?_ ?_ <;> simp only [go_sem, reduceCtorEq, reduceIte, Nat.reduceEqDiff, Nat.reduceLT, Nat.reduceLeDiff, Int.natCast_succ]
        all_goals first | exact ⟨rfl, rfl⟩ | exact ⟨rfl, rfl, rfl⟩ | rfl
      have hgj := hgb j
      by_cases hlj : j + 1 < W.length
      · have hs : gS W (j + 1) = if (gS W j).2 ≤ W.getD (j + 1) 0 - W.getD j 0 then (W.getD (j + 1) 0, W.getD (j + 1) 0 - W.getD j 0) else gS W j := rfl
        have c1 := wb_get hWb (j + 1)
        have c0 := wb_get hWb j
        have eN : (((j + 1 : Nat) : Int) - 1).toNat = j := by omega
        generalize gS W j = g at *
        obtain ⟨g1, g2⟩ := g
        dsimp only at hgj hs
        (repeat' first | with_reducible (first | intro _ | refine rc ?_ | refine rl ?_ | refine rh ?_ | refine rt ?_ | refine rf ?_ | refine rs ?_ | refine And.intro ?_ ?_) | omega | simp (maxSteps := 1000000) only [go_sem, simprocAttr, ↓reduceIte, Int.toNat_natCast])
        refine VcDraw.lex [] [] (by kernel_rfl) (by kernel_rfl) ?_
        generalize hx : W.getD (j + 1) 0 = x at *
        generalize hy : W.getD j 0 = y at *
        (repeat' first | with_reducible (first | intro _ | refine rc ?_ | refine rl ?_ | refine rh ?_ | refine rt ?_ | refine rf ?_ | refine rs ?_ | refine And.intro ?_ ?_) | omega | simp (maxSteps := 1000000) only [go_sem, simprocAttr, ↓reduceIte, Int.toNat_natCast, eN, hx, hy])
        · rw [if_pos (by omega)] at hs
          refine ⟨j + 1, Ent.auto0 rfl ?_ ?_, by omega, by omega⟩ <;> simp only [go_sem, reduceCtorEq, reduceIte, Nat.reduceEqDiff, Nat.reduceLT, Nat.reduceLeDiff, Int.natCast_succ, hs, Int.natCast_add]
          all_goals rfl
        · rw [if_neg (by omega)] at hs
          refine ⟨j + 1, Ent.auto0 rfl ?_ ?_, by omega, by omega⟩ <;> simp only [go_sem, reduceCtorEq, reduceIte, Nat.reduceEqDiff, Nat.reduceLT, Nat.reduceLeDiff, Int.natCast_succ, hs, Int.natCast_add]
          all_goals rfl
      · have ej : j = W.length - 1 := by omega
        rw [← ej]
        (repeat' first | with_reducible (first | intro _ | refine rc ?_ | refine rl ?_ | refine rh ?_ | refine rt ?_ | refine rf ?_ | refine rs ?_ | refine And.intro ?_ ?_) | omega | simp (maxSteps := 1000000) only [go_sem, simprocAttr, ↓reduceIte])
        refine Ret.auto 0 ?_ rfl ?_ <;> simp only [go_sem, reduceCtorEq, reduceIte, Nat.reduceEqDiff, Nat.reduceLT, Nat.reduceLeDiff, Int.natCast_succ, Post]
end Go.Fv.U

/-! Lines and words of a page's blocks: plain law. -/
namespace Go.Fv.U
open Go
set_option linter.unusedSimpArgs false
set_option linter.unusedVariables false

theorem pairs_cuts {p : List Bool} {w : Nat} {b : Nb} {l : List (Nat × Nat)} {mk : Nat × Nat → Nb} {n : Nat} {F : Nat → Nat → Nat} (h : Cov F n l) (hF : ∀ t, t ∈ l → inkB p w (mk t) = F t.1 t.2) (h0 : F 0 n = inkB p w b) (hp : ∀ t, t ∈ l → PartOf (mk t) b ∧ 0 < inkB p w (mk t)) (ha : ∀ s t, s.1 < s.2 → t.1 < t.2 → s.2 ≤ t.1 → Apart (mk s) (mk t)) : Cuts p w b (l.map mk) where
  part := fun x hx => by
    obtain ⟨y, hy, rfl⟩ := List.mem_map.1 hx
    exact (hp y hy).1
  ink := fun x hx => by
    obtain ⟨y, hy, rfl⟩ := List.mem_map.1 hx
    exact (hp y hy).2
  sum := by
    rw [List.map_map, ← h0, ← h.sum]
    congr 1
    exact List.map_congr_left fun y hy => hF y hy
  apart := List.pairwise_map.2 (h.apart.imp_of_mem fun {x y} hx hy hxy => ha x y (h.bd x hx).1 (h.bd y hy).1 hxy)
theorem rows_cuts (p : List Bool) (w : Nat) (b : Nb) (gap : Nat) : Cuts p w b ((linesR p w b gap).map (rowBox p w b)) := by
  have h := rfGo_cov0 (F := fun a c => inkN p w b.x (b.y + a) b.w (c - a)) (fun a c d h1 h2 => by
    have := inkN_splitV p w b.x (b.y + a) b.w (c - a) (d - c)
    rw [show c - a + (d - c) = d - a by omega, show b.y + a + (c - a) = b.y + c by omega] at this
    exact this.symm) (fun j => !rowE p w b (b.y + j)) gap b.h (fun j hj hr => by
    have h1 : rowE p w b (b.y + j) = true := by simpa using hr
    unfold rowE rowN at h1
    rw [show j + 1 - j = 1 by omega]
    exact of_decide_eq_true h1)
  have k := pairs_cuts (p := p) (w := w) (b := b) (mk := rowBoxT b) h (fun t ht => rfl) (by unfold inkB; rfl) (fun t ht => (linesR_mem (gap := gap) ht).2.2) (fun s t h1 h2 h3 => by unfold Apart rowBoxT; dsimp only; omega)
  have k2 := k.tight
  rw [List.map_map] at k2
  exact k2
theorem words_cuts (p : List Bool) (w : Nat) (b : Nb) (gap : Nat) : Cuts p w b ((linesC p w b gap).map (wordBox p w b)) := by
  have h := rfGo_cov0 (F := fun a c => inkN p w (b.x + a) b.y (c - a) b.h) (fun a c d h1 h2 => by
    have := inkN_split p w (b.x + a) b.y (c - a) (d - c) b.h
    rw [show c - a + (d - c) = d - a by omega, show b.x + a + (c - a) = b.x + c by omega] at this
    exact this.symm) (fun j => !colE p w b (b.x + j)) gap b.w (fun j hj hr => by
    have h1 : colE p w b (b.x + j) = true := by simpa using hr
    unfold colE colN at h1
    rw [show j + 1 - j = 1 by omega]
    exact of_decide_eq_true h1)
  have k := pairs_cuts (p := p) (w := w) (b := b) (mk := wordBoxT b) h (fun t ht => rfl) (by unfold inkB; rfl) (fun t ht => (linesC_mem (gap := gap) ht).2.2) (fun s t h1 h2 h3 => by unfold Apart wordBoxT; dsimp only; omega)
  have k2 := k.tight
  rw [List.map_map] at k2
  exact k2
theorem strs_sep (is : Nat → Bool) : ∀ (n i : Nat), (strs is n i).Pairwise fun s t => s.1 + s.2 < t.1
  | 0, i => by unfold strs; exact List.Pairwise.nil
  | n + 1, i => by
    have hb := runE_bd is (n + 1) i
    unfold strs
    split
    · refine List.pairwise_cons.2 ⟨fun t ht => ?_, strs_sep is _ _⟩
      have := (strs_mem _ _ _ _ ht).1
      dsimp only; omega
    · exact strs_sep is n (i + 1)
termination_by n => n
decreasing_by all_goals omega
theorem gapV_bd (p : List Bool) (w : Nat) (b : Nb) (hb : b.w ≤ 3999) : ∃ g : Nat, gapV (inkS p w b) = g ∧ 1 ≤ g ∧ g ≤ 4000 := by
  have hs : (inkS p w b).Pairwise fun s t => s.1 + s.2 < t.1 := strs_sep _ _ _
  have hm : ∀ s, s ∈ inkS p w b → s.1 + s.2 ≤ b.w := fun s h => inkS_mem h
  generalize inkS p w b = S at *
  suffices h : 1 ≤ gapV S ∧ gapV S ≤ 4000 by exact ⟨(gapV S).toNat, by omega, by omega, by omega⟩
  unfold gapV
  split
  · omega
  · rename_i hl
    have hW : ∀ x, x ∈ sortI (gpl S (S.length - 1)) → 1 ≤ x ∧ x ≤ 3999 := fun x hx => by
      have hx := (List.mergeSort_perm _ _).mem_iff.1 hx
      unfold gpl at hx
      obtain ⟨i, hi, rfl⟩ := List.mem_map.1 hx
      have hi := List.mem_range.1 hi
      have h1 := List.pairwise_iff_getElem.1 hs i (i + 1) (by omega) (by omega) (by omega)
      have h2 := hm _ (List.getElem_mem (show i + 1 < S.length by omega))
      unfold gpf
      rw [getD_lt (show i < S.length by omega), getD_lt (show i + 1 < S.length by omega)]
      omega
    have hWl : 0 < (sortI (gpl S (S.length - 1))).length := by rw [sortI_lenG, gpl_len]; omega
    generalize sortI (gpl S (S.length - 1)) = W at *
    unfold gapR
    have get : ∀ j, j < W.length → 1 ≤ W.getD j 0 ∧ W.getD j 0 ≤ 3999 := fun j hj => by rw [getD_lt hj]; exact hW _ (List.getElem_mem hj)
    have aux : ∀ j, j ≤ W.length - 1 → 1 ≤ (gS W j).1 ∧ (gS W j).1 ≤ 4000 := by
      intro j
      induction j with
      | zero => intro _; have := get (W.length - 1) (by omega); unfold gS; dsimp only; omega
      | succ j ih =>
        intro hj
        have := get (j + 1) (by omega)
        have := ih (by omega)
        unfold gS
        split
        · dsimp only; omega
        · assumption
    exact aux _ (Nat.le_refl _)
end Go.Fv.U
