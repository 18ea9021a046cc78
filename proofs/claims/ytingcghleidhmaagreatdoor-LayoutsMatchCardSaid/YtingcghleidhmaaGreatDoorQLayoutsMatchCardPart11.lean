/-
  A part of the proof of the claim: walks over the program's functions and the plain laws that these need. No condition of its own.
-/
import Derived.Test.YtingcghleidhmaaGreatDoorQLayoutsMatchCardPart7
import Derived.Test.YtingcghleidhmaaGreatDoorQLayoutsMatchCardPart10
import Derived.Test.YtingcghleidhmaaGreatDoorQLayoutsMatchCardPart2
import Derived.Test.YtingcghleidhmaaGreatDoorQLayoutsMatchCardPart9
/-! The reference's Split: the walk. Printed by gen_splref.py. -/
namespace Go.Fv.Q
open Go Go.Proofs
set_option linter.unusedSimpArgs false
set_option linter.unusedVariables false
set_option linter.unnecessarySimpa false
set_option maxRecDepth 8000

def SplF (p : List Bool) (w h gx gy : Nat) (b : Nb) (l : List Nb) : Prop :=
  FnOk Tryz.prog 54 [.agg [.int .i64 w, .int .i64 h, .ro (.bools p)], .agg b.av, .int .i64 gx, .int .i64 gy] (.own 0) [(0, .row 26 (nbs l))]
set_option maxHeartbeats 4000000 in
theorem splNo_ok (w h : Nat) (hw : w ≤ 4000) (hh : h ≤ 4000) (p : List Bool) (hp : p.length = w * h) (gx gy : Nat) (b : Nb) (hb : InP b w h) (hi : inkB p w b = 0) : SplF p w h gx gy b [] := by
  have k := rtightNo_ok w h hw hh p hp b hb.1 hb.2 hi
  unfold SplF
  obtain ⟨bx, by', bw, bh⟩ := b
  unfold Nb.av at *
  dsimp only at *
  refine FnOk.of_vc Tryz.func54 rfl (by decide) (by simp [Tryz.f54]) [.tmp 8] rfl fun w0 T0 _ => ?_
  simp only [Tryz.f54, argEnv]
  (repeat' first | with_reducible (first | intro _ | refine rc ?_ | refine rl ?_ | refine rh ?_ | refine rt ?_ | refine rf ?_ | refine rs ?_ | refine And.intro ?_ ?_) | omega | simp (maxSteps := 1000000) only [go_sem, simprocAttr, ↓reduceIte])
  refine VcCall.k (k) ?_
  (repeat' first | with_reducible (first | intro _ | refine rc ?_ | refine rl ?_ | refine rh ?_ | refine rt ?_ | refine rf ?_ | refine rs ?_ | refine And.intro ?_ ?_) | omega | simp (maxSteps := 1000000) only [go_sem, simprocAttr, ↓reduceIte])
  refine Ret.auto 1 ?_ rfl ?_ <;> simp only [go_sem, reduceCtorEq, reduceIte, Nat.reduceEqDiff, Nat.reduceLT, Nat.reduceLeDiff, Int.natCast_succ, Post, nbs, renR_ok, belowR_ok, List.map_nil]
set_option maxHeartbeats 8000000 in
theorem spl0_ok (w h : Nat) (hw : w ≤ 4000) (hh : h ≤ 4000) (p : List Bool) (hp : p.length = w * h) (gx gy : Nat) (hgx : gx ≤ 4000) (hgy : gy ≤ 4000) (b t : Nb) (hb : InP b w h) (hi : 0 < inkB p w b) (ht : tightB p w b = t) (htp : InP t w h) (A B : List Bool)
    (kS1 : FnOk Tryz.prog 84 [.ro (.ints .i64 (natL (fun i => colN p w t (t.x + i)) t.w))] (.own 0) [(0, .row 4 (.bools A))]) (kS2 : FnOk Tryz.prog 84 [.ro (.ints .i64 (natL (fun i => rowN p w t (t.y + i)) t.h))] (.own 0) [(0, .row 4 (.bools B))])
    (kA : FnOk Tryz.prog 85 [.ro (.bools A), .ro (.bools B), .int .i64 gx, .int .i64 gy] (.tup [.int .i64 0, .int .i64 0, .int .i64 0]) []) : SplF p w h gx gy b ([t]) := by
  have k1 := rtight_ok w h hw hh p hp b hb.1 hb.2 hi
  rw [ht] at k1
  have k2 := refCut_ok w h hw hh p hp t htp.1 htp.2
  have k3 := colsC_ok p w t (by unfold InP at htp; omega) (by unfold InP at htp; omega)
  have k4 := rowsC_ok p w t (by unfold InP at htp; omega) (by unfold InP at htp; omega)
  generalize natL (fun i => colN p w t (t.x + i)) t.w = L1 at *
  generalize natL (fun i => rowN p w t (t.y + i)) t.h = L2 at *
  generalize cutP p w t = q at *
  obtain ⟨tx, ty, tw, th⟩ := t
  obtain ⟨bx, by', bw, bh⟩ := b
  simp only [SplF, Nb.av] at *
  have htp' := htp
  unfold InP at htp'
  dsimp only at htp'
  refine FnOk.of_vc Tryz.func54 rfl (by decide) (by simp [Tryz.f54]) [.tmp 8] rfl fun w0 T0 _ => ?_
  simp only [Tryz.f54, argEnv]
  (repeat' first | with_reducible (first | intro _ | refine rc ?_ | refine rl ?_ | refine rh ?_ | refine rt ?_ | refine rf ?_ | refine rs ?_ | refine And.intro ?_ ?_) | omega | simp (maxSteps := 1000000) only [go_sem, simprocAttr, ↓reduceIte])
  refine VcCall.k (k1) ?_
  (repeat' first | with_reducible (first | intro _ | refine rc ?_ | refine rl ?_ | refine rh ?_ | refine rt ?_ | refine rf ?_ | refine rs ?_ | refine And.intro ?_ ?_) | omega | simp (maxSteps := 1000000) only [go_sem, simprocAttr, ↓reduceIte])
  refine VcCall.ro (.agg [.int .i64 tw, .int .i64 th, .ro (.bools q)]) (FnFr.of_ok k2 rfl rfl) (by simp only [noIdR_ok, argOkL, argOk, allOk, argOkN, List.drop_zero, lk, reduceIte, reduceCtorEq, Nat.reduceEqDiff, Option.some.injEq, Item.row.injEq, Item.box.injEq, AV.ro.injEq, exists_eq_left, exists_and_left, exists_eq_left', exists_eq_right, and_assoc, and_true, true_and, List.cons.injEq, exists_eq', exists_eq]) (by simp [outOk, argOkL, allOk, argOk, argOkN, lk, noIdR_ok]) rfl ?_
  (repeat' first | with_reducible (first | intro _ | refine rc ?_ | refine rl ?_ | refine rh ?_ | refine rt ?_ | refine rf ?_ | refine rs ?_ | refine And.intro ?_ ?_) | omega | simp (maxSteps := 1000000) only [go_sem, simprocAttr, ↓reduceIte])
  refine VcDraw.lex [] [] (by kernel_rfl) (by kernel_rfl) ?_
  (repeat' first | with_reducible (first | intro _ | refine rc ?_ | refine rl ?_ | refine rh ?_ | refine rt ?_ | refine rf ?_ | refine rs ?_ | refine And.intro ?_ ?_) | omega | simp (maxSteps := 1000000) only [go_sem, simprocAttr, ↓reduceIte])
  refine QV.intro (.ro (.ints .i64 L1)) ?_ ?_
  · (repeat' first | with_reducible (first | intro _ | refine rc ?_ | refine rl ?_ | refine rh ?_ | refine rt ?_ | refine rf ?_ | refine rs ?_ | refine And.intro ?_ ?_) | omega | simp (maxSteps := 1000000) only [go_sem, simprocAttr, ↓reduceIte])
    refine VcCall.ro (.ro (.ints .i64 L1)) (FnFr.of_ok k3 rfl rfl) (by simp only [noIdR_ok, argOkL, argOk, allOk, argOkN, List.drop_zero, lk, reduceIte, reduceCtorEq, Nat.reduceEqDiff, Option.some.injEq, Item.row.injEq, Item.box.injEq, AV.ro.injEq, exists_eq_left, exists_and_left, exists_eq_left', exists_eq_right, and_assoc, and_true, true_and, List.cons.injEq, exists_eq', exists_eq]) (by simp [outOk, argOkL, allOk, argOk, argOkN, lk, noIdR_ok]) rfl ?_
    (repeat' first | with_reducible (first | intro _ | refine rc ?_ | refine rl ?_ | refine rh ?_ | refine rt ?_ | refine rf ?_ | refine rs ?_ | refine And.intro ?_ ?_) | omega | simp (maxSteps := 1000000) only [go_sem, simprocAttr, ↓reduceIte])
  (repeat' first | with_reducible (first | intro _ | refine rc ?_ | refine rl ?_ | refine rh ?_ | refine rt ?_ | refine rf ?_ | refine rs ?_ | refine And.intro ?_ ?_) | omega | simp (maxSteps := 1000000) only [go_sem, simprocAttr, ↓reduceIte])
  refine QV.intro (.ro (.bools A)) ?_ ?_
  · (repeat' first | with_reducible (first | intro _ | refine rc ?_ | refine rl ?_ | refine rh ?_ | refine rt ?_ | refine rf ?_ | refine rs ?_ | refine And.intro ?_ ?_) | omega | simp (maxSteps := 1000000) only [go_sem, simprocAttr, ↓reduceIte])
    refine VcCall.ro (.ro (.bools A)) (FnFr.of_ok kS1 rfl rfl) (by simp only [noIdR_ok, argOkL, argOk, allOk, argOkN, List.drop_zero, lk, reduceIte, reduceCtorEq, Nat.reduceEqDiff, Option.some.injEq, Item.row.injEq, Item.box.injEq, AV.ro.injEq, exists_eq_left, exists_and_left, exists_eq_left', exists_eq_right, and_assoc, and_true, true_and, List.cons.injEq, exists_eq', exists_eq]) (by simp [outOk, argOkL, allOk, argOk, argOkN, lk, noIdR_ok]) rfl ?_
    (repeat' first | with_reducible (first | intro _ | refine rc ?_ | refine rl ?_ | refine rh ?_ | refine rt ?_ | refine rf ?_ | refine rs ?_ | refine And.intro ?_ ?_) | omega | simp (maxSteps := 1000000) only [go_sem, simprocAttr, ↓reduceIte])
  (repeat' first | with_reducible (first | intro _ | refine rc ?_ | refine rl ?_ | refine rh ?_ | refine rt ?_ | refine rf ?_ | refine rs ?_ | refine And.intro ?_ ?_) | omega | simp (maxSteps := 1000000) only [go_sem, simprocAttr, ↓reduceIte])
  refine QV.intro (.ro (.ints .i64 L2)) ?_ ?_
  · (repeat' first | with_reducible (first | intro _ | refine rc ?_ | refine rl ?_ | refine rh ?_ | refine rt ?_ | refine rf ?_ | refine rs ?_ | refine And.intro ?_ ?_) | omega | simp (maxSteps := 1000000) only [go_sem, simprocAttr, ↓reduceIte])
    refine VcCall.ro (.ro (.ints .i64 L2)) (FnFr.of_ok k4 rfl rfl) (by simp only [noIdR_ok, argOkL, argOk, allOk, argOkN, List.drop_zero, lk, reduceIte, reduceCtorEq, Nat.reduceEqDiff, Option.some.injEq, Item.row.injEq, Item.box.injEq, AV.ro.injEq, exists_eq_left, exists_and_left, exists_eq_left', exists_eq_right, and_assoc, and_true, true_and, List.cons.injEq, exists_eq', exists_eq]) (by simp [outOk, argOkL, allOk, argOk, argOkN, lk, noIdR_ok]) rfl ?_
    (repeat' first | with_reducible (first | intro _ | refine rc ?_ | refine rl ?_ | refine rh ?_ | refine rt ?_ | refine rf ?_ | refine rs ?_ | refine And.intro ?_ ?_) | omega | simp (maxSteps := 1000000) only [go_sem, simprocAttr, ↓reduceIte])
  (repeat' first | with_reducible (first | intro _ | refine rc ?_ | refine rl ?_ | refine rh ?_ | refine rt ?_ | refine rf ?_ | refine rs ?_ | refine And.intro ?_ ?_) | omega | simp (maxSteps := 1000000) only [go_sem, simprocAttr, ↓reduceIte])
  refine QV.intro (.ro (.bools B)) ?_ ?_
  · (repeat' first | with_reducible (first | intro _ | refine rc ?_ | refine rl ?_ | refine rh ?_ | refine rt ?_ | refine rf ?_ | refine rs ?_ | refine And.intro ?_ ?_) | omega | simp (maxSteps := 1000000) only [go_sem, simprocAttr, ↓reduceIte])
    refine VcCall.ro (.ro (.bools B)) (FnFr.of_ok kS2 rfl rfl) (by simp only [noIdR_ok, argOkL, argOk, allOk, argOkN, List.drop_zero, lk, reduceIte, reduceCtorEq, Nat.reduceEqDiff, Option.some.injEq, Item.row.injEq, Item.box.injEq, AV.ro.injEq, exists_eq_left, exists_and_left, exists_eq_left', exists_eq_right, and_assoc, and_true, true_and, List.cons.injEq, exists_eq', exists_eq]) (by simp [outOk, argOkL, allOk, argOk, argOkN, lk, noIdR_ok]) rfl ?_
    (repeat' first | with_reducible (first | intro _ | refine rc ?_ | refine rl ?_ | refine rh ?_ | refine rt ?_ | refine rf ?_ | refine rs ?_ | refine And.intro ?_ ?_) | omega | simp (maxSteps := 1000000) only [go_sem, simprocAttr, ↓reduceIte])
  (repeat' first | with_reducible (first | intro _ | refine rc ?_ | refine rl ?_ | refine rh ?_ | refine rt ?_ | refine rf ?_ | refine rs ?_ | refine And.intro ?_ ?_) | omega | simp (maxSteps := 1000000) only [go_sem, simprocAttr, ↓reduceIte])
  refine QV.intro (.tup [.int .i64 0, .int .i64 0, .int .i64 0]) ?_ ?_
  · (repeat' first | with_reducible (first | intro _ | refine rc ?_ | refine rl ?_ | refine rh ?_ | refine rt ?_ | refine rf ?_ | refine rs ?_ | refine And.intro ?_ ?_) | omega | simp (maxSteps := 1000000) only [go_sem, simprocAttr, ↓reduceIte])
    refine VcCall.k (kA) ?_
    (repeat' first | with_reducible (first | intro _ | refine rc ?_ | refine rl ?_ | refine rh ?_ | refine rt ?_ | refine rf ?_ | refine rs ?_ | refine And.intro ?_ ?_) | omega | simp (maxSteps := 1000000) only [go_sem, simprocAttr, ↓reduceIte])
  (repeat' first | with_reducible (first | intro _ | refine rc ?_ | refine rl ?_ | refine rh ?_ | refine rt ?_ | refine rf ?_ | refine rs ?_ | refine And.intro ?_ ?_) | omega | simp (maxSteps := 1000000) only [go_sem, simprocAttr, ↓reduceIte])
  refine VcDraw.forkCut (.quiet 0 (.quiet 1 (.eff 2 [1, 0] (.eff 3 [1, 0] (.eff 4 [1] (.eff 5 [] .done .none) .none) .none) (.eff 3 [1, 0] (.eff 2 [1, 0] (.eff 4 [1] (.eff 5 [] .done .none) .none) .none) .none)))) (by kernel_rfl) (by kernel_rfl) (by kernel_rfl) ⟨95, [(2, .int .i64 gx), (3, .int .i64 gy), (4, .ptr 0 0), (5, .ptr 1 0), (12, .int .i64 0), (13, .int .i64 0), (14, .int .i64 0), (15, .ptr 2 0), (16, .ptr 3 0)], [(0, .box 24 [.int .i64 w, .int .i64 h, .ro (.bools p)]), (1, .box 26 [.int .i64 tx, .int .i64 ty, .int .i64 tw, .int .i64 th]), (2, .box 26 [.int .i64 tx, .int .i64 ty, .int .i64 tw, .int .i64 th]), (3, .box 26 [.int .i64 tx, .int .i64 ty, .int .i64 tw, .int .i64 th])], 4⟩ ?_ ?_
  · (repeat' first | with_reducible (first | intro _ | refine rc ?_ | refine rl ?_ | refine rh ?_ | refine rt ?_ | refine rf ?_ | refine rs ?_ | refine And.intro ?_ ?_) | omega | simp (maxSteps := 1000000) only [go_sem, simprocAttr, ↓reduceIte])
    all_goals refine Ent.auto0 rfl ?_ ?_ <;> simp only [go_sem, reduceCtorEq, reduceIte, Nat.reduceEqDiff, Nat.reduceLT, Nat.reduceLeDiff, Int.natCast_succ]
  (repeat' first | with_reducible (first | intro _ | refine rc ?_ | refine rl ?_ | refine rh ?_ | refine rt ?_ | refine rf ?_ | refine rs ?_ | refine And.intro ?_ ?_) | omega | simp (maxSteps := 1000000) only [go_sem, simprocAttr, ↓reduceIte])
  refine Ret.auto 1 ?_ rfl ?_ <;> simp only [go_sem, reduceCtorEq, reduceIte, Nat.reduceEqDiff, Nat.reduceLT, Nat.reduceLeDiff, Int.natCast_succ, Post, nbs, renR_ok, belowR_ok, List.map_cons, List.map_nil, Nb.av]
set_option maxHeartbeats 8000000 in
theorem spl1_ok (w h : Nat) (hw : w ≤ 4000) (hh : h ≤ 4000) (p : List Bool) (hp : p.length = w * h) (gx gy : Nat) (hgx : gx ≤ 4000) (hgy : gy ≤ 4000) (b t : Nb) (hb : InP b w h) (hi : 0 < inkB p w b) (ht : tightB p w b = t) (htp : InP t w h) (A B : List Bool)
    (kS1 : FnOk Tryz.prog 84 [.ro (.ints .i64 (natL (fun i => colN p w t (t.x + i)) t.w))] (.own 0) [(0, .row 4 (.bools A))]) (kS2 : FnOk Tryz.prog 84 [.ro (.ints .i64 (natL (fun i => rowN p w t (t.y + i)) t.h))] (.own 0) [(0, .row 4 (.bools B))])
    (a m : Nat) (ham : a + m ≤ t.w) (kA : FnOk Tryz.prog 85 [.ro (.bools A), .ro (.bools B), .int .i64 gx, .int .i64 gy] (.tup [.int .i64 1, .int .i64 a, .int .i64 m]) []) (l1 l2 : List Nb) (hl1 : l1.length ≤ 10000) (hl2 : l2.length ≤ 10000) (kF : FnOk Tryz.prog 54 [.agg [.int .i64 w, .int .i64 h, .ro (.bools p)], .agg [.int .i64 t.x, .int .i64 t.y, .int .i64 a, .int .i64 t.h], .int .i64 gx, .int .i64 gy] (.own 0) [(0, .row 26 (nbs l1))]) (kZ : FnOk Tryz.prog 54 [.agg [.int .i64 w, .int .i64 h, .ro (.bools p)], .agg [.int .i64 ((t.x : Int) + a + m), .int .i64 t.y, .int .i64 ((t.w : Int) - a - m), .int .i64 t.h], .int .i64 gx, .int .i64 gy] (.own 0) [(0, .row 26 (nbs l2))]) : SplF p w h gx gy b (l1 ++ l2) := by
  have k1 := rtight_ok w h hw hh p hp b hb.1 hb.2 hi
  rw [ht] at k1
  have k2 := refCut_ok w h hw hh p hp t htp.1 htp.2
  have k3 := colsC_ok p w t (by unfold InP at htp; omega) (by unfold InP at htp; omega)
  have k4 := rowsC_ok p w t (by unfold InP at htp; omega) (by unfold InP at htp; omega)
  generalize natL (fun i => colN p w t (t.x + i)) t.w = L1 at *
  generalize natL (fun i => rowN p w t (t.y + i)) t.h = L2 at *
  generalize cutP p w t = q at *
  obtain ⟨tx, ty, tw, th⟩ := t
  obtain ⟨bx, by', bw, bh⟩ := b
  simp only [SplF, Nb.av] at *
  have htp' := htp
  unfold InP at htp'
  dsimp only at htp'
  refine FnOk.of_vc Tryz.func54 rfl (by decide) (by simp [Tryz.f54]) [.tmp 8] rfl fun w0 T0 _ => ?_
  simp only [Tryz.f54, argEnv]
  (repeat' first | with_reducible (first | intro _ | refine rc ?_ | refine rl ?_ | refine rh ?_ | refine rt ?_ | refine rf ?_ | refine rs ?_ | refine And.intro ?_ ?_) | omega | simp (maxSteps := 1000000) only [go_sem, simprocAttr, ↓reduceIte])
  refine VcCall.k (k1) ?_
  (repeat' first | with_reducible (first | intro _ | refine rc ?_ | refine rl ?_ | refine rh ?_ | refine rt ?_ | refine rf ?_ | refine rs ?_ | refine And.intro ?_ ?_) | omega | simp (maxSteps := 1000000) only [go_sem, simprocAttr, ↓reduceIte])
  refine VcCall.ro (.agg [.int .i64 tw, .int .i64 th, .ro (.bools q)]) (FnFr.of_ok k2 rfl rfl) (by simp only [noIdR_ok, argOkL, argOk, allOk, argOkN, List.drop_zero, lk, reduceIte, reduceCtorEq, Nat.reduceEqDiff, Option.some.injEq, Item.row.injEq, Item.box.injEq, AV.ro.injEq, exists_eq_left, exists_and_left, exists_eq_left', exists_eq_right, and_assoc, and_true, true_and, List.cons.injEq, exists_eq', exists_eq]) (by simp [outOk, argOkL, allOk, argOk, argOkN, lk, noIdR_ok]) rfl ?_
  (repeat' first | with_reducible (first | intro _ | refine rc ?_ | refine rl ?_ | refine rh ?_ | refine rt ?_ | refine rf ?_ | refine rs ?_ | refine And.intro ?_ ?_) | omega | simp (maxSteps := 1000000) only [go_sem, simprocAttr, ↓reduceIte])
  refine VcDraw.lex [] [] (by kernel_rfl) (by kernel_rfl) ?_
  (repeat' first | with_reducible (first | intro _ | refine rc ?_ | refine rl ?_ | refine rh ?_ | refine rt ?_ | refine rf ?_ | refine rs ?_ | refine And.intro ?_ ?_) | omega | simp (maxSteps := 1000000) only [go_sem, simprocAttr, ↓reduceIte])
  refine QV.intro (.ro (.ints .i64 L1)) ?_ ?_
  · (repeat' first | with_reducible (first | intro _ | refine rc ?_ | refine rl ?_ | refine rh ?_ | refine rt ?_ | refine rf ?_ | refine rs ?_ | refine And.intro ?_ ?_) | omega | simp (maxSteps := 1000000) only [go_sem, simprocAttr, ↓reduceIte])
    refine VcCall.ro (.ro (.ints .i64 L1)) (FnFr.of_ok k3 rfl rfl) (by simp only [noIdR_ok, argOkL, argOk, allOk, argOkN, List.drop_zero, lk, reduceIte, reduceCtorEq, Nat.reduceEqDiff, Option.some.injEq, Item.row.injEq, Item.box.injEq, AV.ro.injEq, exists_eq_left, exists_and_left, exists_eq_left', exists_eq_right, and_assoc, and_true, true_and, List.cons.injEq, exists_eq', exists_eq]) (by simp [outOk, argOkL, allOk, argOk, argOkN, lk, noIdR_ok]) rfl ?_
    (repeat' first | with_reducible (first | intro _ | refine rc ?_ | refine rl ?_ | refine rh ?_ | refine rt ?_ | refine rf ?_ | refine rs ?_ | refine And.intro ?_ ?_) | omega | simp (maxSteps := 1000000) only [go_sem, simprocAttr, ↓reduceIte])
  (repeat' first | with_reducible (first | intro _ | refine rc ?_ | refine rl ?_ | refine rh ?_ | refine rt ?_ | refine rf ?_ | refine rs ?_ | refine And.intro ?_ ?_) | omega | simp (maxSteps := 1000000) only [go_sem, simprocAttr, ↓reduceIte])
  refine QV.intro (.ro (.bools A)) ?_ ?_
  · (repeat' first | with_reducible (first | intro _ | refine rc ?_ | refine rl ?_ | refine rh ?_ | refine rt ?_ | refine rf ?_ | refine rs ?_ | refine And.intro ?_ ?_) | omega | simp (maxSteps := 1000000) only [go_sem, simprocAttr, ↓reduceIte])
    refine VcCall.ro (.ro (.bools A)) (FnFr.of_ok kS1 rfl rfl) (by simp only [noIdR_ok, argOkL, argOk, allOk, argOkN, List.drop_zero, lk, reduceIte, reduceCtorEq, Nat.reduceEqDiff, Option.some.injEq, Item.row.injEq, Item.box.injEq, AV.ro.injEq, exists_eq_left, exists_and_left, exists_eq_left', exists_eq_right, and_assoc, and_true, true_and, List.cons.injEq, exists_eq', exists_eq]) (by simp [outOk, argOkL, allOk, argOk, argOkN, lk, noIdR_ok]) rfl ?_
    (repeat' first | with_reducible (first | intro _ | refine rc ?_ | refine rl ?_ | refine rh ?_ | refine rt ?_ | refine rf ?_ | refine rs ?_ | refine And.intro ?_ ?_) | omega | simp (maxSteps := 1000000) only [go_sem, simprocAttr, ↓reduceIte])
  (repeat' first | with_reducible (first | intro _ | refine rc ?_ | refine rl ?_ | refine rh ?_ | refine rt ?_ | refine rf ?_ | refine rs ?_ | refine And.intro ?_ ?_) | omega | simp (maxSteps := 1000000) only [go_sem, simprocAttr, ↓reduceIte])
  refine QV.intro (.ro (.ints .i64 L2)) ?_ ?_
  · (repeat' first | with_reducible (first | intro _ | refine rc ?_ | refine rl ?_ | refine rh ?_ | refine rt ?_ | refine rf ?_ | refine rs ?_ | refine And.intro ?_ ?_) | omega | simp (maxSteps := 1000000) only [go_sem, simprocAttr, ↓reduceIte])
    refine VcCall.ro (.ro (.ints .i64 L2)) (FnFr.of_ok k4 rfl rfl) (by simp only [noIdR_ok, argOkL, argOk, allOk, argOkN, List.drop_zero, lk, reduceIte, reduceCtorEq, Nat.reduceEqDiff, Option.some.injEq, Item.row.injEq, Item.box.injEq, AV.ro.injEq, exists_eq_left, exists_and_left, exists_eq_left', exists_eq_right, and_assoc, and_true, true_and, List.cons.injEq, exists_eq', exists_eq]) (by simp [outOk, argOkL, allOk, argOk, argOkN, lk, noIdR_ok]) rfl ?_
    (repeat' first | with_reducible (first | intro _ | refine rc ?_ | refine rl ?_ | refine rh ?_ | refine rt ?_ | refine rf ?_ | refine rs ?_ | refine And.intro ?_ ?_) | omega | simp (maxSteps := 1000000) only [go_sem, simprocAttr, ↓reduceIte])
  (repeat' first | with_reducible (first | intro _ | refine rc ?_ | refine rl ?_ | refine rh ?_ | refine rt ?_ | refine rf ?_ | refine rs ?_ | refine And.intro ?_ ?_) | omega | simp (maxSteps := 1000000) only [go_sem, simprocAttr, ↓reduceIte])
  refine QV.intro (.ro (.bools B)) ?_ ?_
  · (repeat' first | with_reducible (first | intro _ | refine rc ?_ | refine rl ?_ | refine rh ?_ | refine rt ?_ | refine rf ?_ | refine rs ?_ | refine And.intro ?_ ?_) | omega | simp (maxSteps := 1000000) only [go_sem, simprocAttr, ↓reduceIte])
    refine VcCall.ro (.ro (.bools B)) (FnFr.of_ok kS2 rfl rfl) (by simp only [noIdR_ok, argOkL, argOk, allOk, argOkN, List.drop_zero, lk, reduceIte, reduceCtorEq, Nat.reduceEqDiff, Option.some.injEq, Item.row.injEq, Item.box.injEq, AV.ro.injEq, exists_eq_left, exists_and_left, exists_eq_left', exists_eq_right, and_assoc, and_true, true_and, List.cons.injEq, exists_eq', exists_eq]) (by simp [outOk, argOkL, allOk, argOk, argOkN, lk, noIdR_ok]) rfl ?_
    (repeat' first | with_reducible (first | intro _ | refine rc ?_ | refine rl ?_ | refine rh ?_ | refine rt ?_ | refine rf ?_ | refine rs ?_ | refine And.intro ?_ ?_) | omega | simp (maxSteps := 1000000) only [go_sem, simprocAttr, ↓reduceIte])
  (repeat' first | with_reducible (first | intro _ | refine rc ?_ | refine rl ?_ | refine rh ?_ | refine rt ?_ | refine rf ?_ | refine rs ?_ | refine And.intro ?_ ?_) | omega | simp (maxSteps := 1000000) only [go_sem, simprocAttr, ↓reduceIte])
  refine QV.intro (.tup [.int .i64 1, .int .i64 a, .int .i64 m]) ?_ ?_
  · (repeat' first | with_reducible (first | intro _ | refine rc ?_ | refine rl ?_ | refine rh ?_ | refine rt ?_ | refine rf ?_ | refine rs ?_ | refine And.intro ?_ ?_) | omega | simp (maxSteps := 1000000) only [go_sem, simprocAttr, ↓reduceIte])
    refine VcCall.k (kA) ?_
    (repeat' first | with_reducible (first | intro _ | refine rc ?_ | refine rl ?_ | refine rh ?_ | refine rt ?_ | refine rf ?_ | refine rs ?_ | refine And.intro ?_ ?_) | omega | simp (maxSteps := 1000000) only [go_sem, simprocAttr, ↓reduceIte])
  (repeat' first | with_reducible (first | intro _ | refine rc ?_ | refine rl ?_ | refine rh ?_ | refine rt ?_ | refine rf ?_ | refine rs ?_ | refine And.intro ?_ ?_) | omega | simp (maxSteps := 1000000) only [go_sem, simprocAttr, ↓reduceIte])
  refine VcDraw.forkCut (.quiet 0 (.quiet 1 (.eff 2 [1, 0] (.eff 3 [1, 0] (.eff 4 [1] (.eff 5 [] .done .none) .none) .none) (.eff 3 [1, 0] (.eff 2 [1, 0] (.eff 4 [1] (.eff 5 [] .done .none) .none) .none) .none)))) (by kernel_rfl) (by kernel_rfl) (by kernel_rfl) ⟨95, [(2, .int .i64 gx), (3, .int .i64 gy), (4, .ptr 0 0), (5, .ptr 1 0), (12, .int .i64 1), (13, .int .i64 a), (14, .int .i64 m), (15, .ptr 2 0), (16, .ptr 3 0)], [(0, .box 24 [.int .i64 w, .int .i64 h, .ro (.bools p)]), (1, .box 26 [.int .i64 tx, .int .i64 ty, .int .i64 tw, .int .i64 th]), (2, .box 26 [.int .i64 tx, .int .i64 ty, .int .i64 tw, .int .i64 th]), (3, .box 26 [.int .i64 tx, .int .i64 ty, .int .i64 tw, .int .i64 th])], 4⟩ ?_ ?_
  · (repeat' first | with_reducible (first | intro _ | refine rc ?_ | refine rl ?_ | refine rh ?_ | refine rt ?_ | refine rf ?_ | refine rs ?_ | refine And.intro ?_ ?_) | omega | simp (maxSteps := 1000000) only [go_sem, simprocAttr, ↓reduceIte])
    all_goals refine Ent.auto0 rfl ?_ ?_ <;> simp only [go_sem, reduceCtorEq, reduceIte, Nat.reduceEqDiff, Nat.reduceLT, Nat.reduceLeDiff, Int.natCast_succ]
  (repeat' first | with_reducible (first | intro _ | refine rc ?_ | refine rl ?_ | refine rh ?_ | refine rt ?_ | refine rf ?_ | refine rs ?_ | refine And.intro ?_ ?_) | omega | simp (maxSteps := 1000000) only [go_sem, simprocAttr, ↓reduceIte])
  refine VcDraw.lex [13, 15] [(6, [1]), (7, [1]), (8, [1]), (9, [1]), (10, [1]), (11, [1])] (by kernel_rfl) (by kernel_rfl) ?_
  (repeat' first | with_reducible (first | intro _ | refine rc ?_ | refine rl ?_ | refine rh ?_ | refine rt ?_ | refine rf ?_ | refine rs ?_ | refine And.intro ?_ ?_) | omega | simp (maxSteps := 1000000) only [go_sem, simprocAttr, ↓reduceIte])
  refine VcDraw.lex [4, 10] [(5, [0]), (6, [0]), (7, [0]), (8, [0])] (by kernel_rfl) (by kernel_rfl) ?_
  (repeat' first | with_reducible (first | intro _ | refine rc ?_ | refine rl ?_ | refine rh ?_ | refine rt ?_ | refine rf ?_ | refine rs ?_ | refine And.intro ?_ ?_) | omega | simp (maxSteps := 1000000) only [go_sem, simprocAttr, ↓reduceIte])
  refine QE.intro (.own 4) [(4, .row 26 (nbs l1)), (0, .box 24 [.int .i64 w, .int .i64 h, .ro (.bools p)]), (1, .box 26 [.int .i64 tx, .int .i64 ty, .int .i64 tw, .int .i64 th]), (2, .box 26 [.int .i64 tx, .int .i64 ty, .int .i64 a, .int .i64 th]), (3, .box 26 [.int .i64 ((tx : Int) + a + m), .int .i64 ty, .int .i64 ((tw : Int) - a - m), .int .i64 th])] 5 ?_ ?_
  · (repeat' first | with_reducible (first | intro _ | refine rc ?_ | refine rl ?_ | refine rh ?_ | refine rt ?_ | refine rf ?_ | refine rs ?_ | refine And.intro ?_ ?_) | omega | simp (maxSteps := 1000000) only [go_sem, simprocAttr, ↓reduceIte])
    refine VcCall.fr (FnFr.of_ok kF rfl (by simp [noRoRows, noRoItem, noRoRow, noRoL, noRo, nbs, Nb.av])) (by simp only [noIdR_ok, argOkL, argOk, allOk, argOkN, List.drop_zero, lk, reduceIte, reduceCtorEq, Nat.reduceEqDiff, Option.some.injEq, Item.row.injEq, Item.box.injEq, AV.ro.injEq, exists_eq_left, exists_and_left, exists_eq_left', exists_eq_right, and_assoc, and_true, true_and, List.cons.injEq, exists_eq', exists_eq]) 1 rfl (by simp [rowsB, Item.below, nbs, belowR_ok]) ?_
    (repeat' first | with_reducible (first | intro _ | refine rc ?_ | refine rl ?_ | refine rh ?_ | refine rt ?_ | refine rf ?_ | refine rs ?_ | refine And.intro ?_ ?_) | omega | simp (maxSteps := 1000000) only [go_sem, simprocAttr, ↓reduceIte, nbs, renR_ok])
  (repeat' first | with_reducible (first | intro _ | refine rc ?_ | refine rl ?_ | refine rh ?_ | refine rt ?_ | refine rf ?_ | refine rs ?_ | refine And.intro ?_ ?_) | omega | simp (maxSteps := 1000000) only [go_sem, simprocAttr, ↓reduceIte])
  refine QV.intro (.ro (nbs l2)) ?_ ?_
  · (repeat' first | with_reducible (first | intro _ | refine rc ?_ | refine rl ?_ | refine rh ?_ | refine rt ?_ | refine rf ?_ | refine rs ?_ | refine And.intro ?_ ?_) | omega | simp (maxSteps := 1000000) only [go_sem, simprocAttr, ↓reduceIte])
    refine VcCall.ro (.ro (nbs l2)) (FnFr.of_ok kZ rfl (by simp [noRoRows, noRoItem, noRoRow, noRoL, noRo, nbs, Nb.av])) (by simp only [noIdR_ok, argOkL, argOk, allOk, argOkN, List.drop_zero, lk, reduceIte, reduceCtorEq, Nat.reduceEqDiff, Option.some.injEq, Item.row.injEq, Item.box.injEq, AV.ro.injEq, exists_eq_left, exists_and_left, exists_eq_left', exists_eq_right, and_assoc, and_true, true_and, List.cons.injEq, exists_eq', exists_eq]) (by simp [outOk, argOkL, allOk, argOk, argOkN, lk, noIdR_ok, nbs]) rfl ?_
    (repeat' first | with_reducible (first | intro _ | refine rc ?_ | refine rl ?_ | refine rh ?_ | refine rt ?_ | refine rf ?_ | refine rs ?_ | refine And.intro ?_ ?_) | omega | simp (maxSteps := 1000000) only [go_sem, simprocAttr, ↓reduceIte])
  (repeat' first | with_reducible (first | intro _ | refine rc ?_ | refine rl ?_ | refine rh ?_ | refine rt ?_ | refine rf ?_ | refine rs ?_ | refine And.intro ?_ ?_) | omega | simp (maxSteps := 1000000) only [go_sem, simprocAttr, ↓reduceIte, nbs, List.length_map])
  refine Ret.auto 1 ?_ rfl ?_ <;> simp only [go_sem, reduceCtorEq, reduceIte, Nat.reduceEqDiff, Nat.reduceLT, Nat.reduceLeDiff, Int.natCast_succ, Post, nbs, renR_ok, belowR_ok, List.map_append, Nb.av]
set_option maxHeartbeats 8000000 in
theorem spl2_ok (w h : Nat) (hw : w ≤ 4000) (hh : h ≤ 4000) (p : List Bool) (hp : p.length = w * h) (gx gy : Nat) (hgx : gx ≤ 4000) (hgy : gy ≤ 4000) (b t : Nb) (hb : InP b w h) (hi : 0 < inkB p w b) (ht : tightB p w b = t) (htp : InP t w h) (A B : List Bool)
    (kS1 : FnOk Tryz.prog 84 [.ro (.ints .i64 (natL (fun i => colN p w t (t.x + i)) t.w))] (.own 0) [(0, .row 4 (.bools A))]) (kS2 : FnOk Tryz.prog 84 [.ro (.ints .i64 (natL (fun i => rowN p w t (t.y + i)) t.h))] (.own 0) [(0, .row 4 (.bools B))])
    (a m : Nat) (ham : a + m ≤ t.h) (kA : FnOk Tryz.prog 85 [.ro (.bools A), .ro (.bools B), .int .i64 gx, .int .i64 gy] (.tup [.int .i64 2, .int .i64 a, .int .i64 m]) []) (l1 l2 : List Nb) (hl1 : l1.length ≤ 10000) (hl2 : l2.length ≤ 10000) (kF : FnOk Tryz.prog 54 [.agg [.int .i64 w, .int .i64 h, .ro (.bools p)], .agg [.int .i64 t.x, .int .i64 t.y, .int .i64 t.w, .int .i64 a], .int .i64 gx, .int .i64 gy] (.own 0) [(0, .row 26 (nbs l1))]) (kZ : FnOk Tryz.prog 54 [.agg [.int .i64 w, .int .i64 h, .ro (.bools p)], .agg [.int .i64 t.x, .int .i64 ((t.y : Int) + a + m), .int .i64 t.w, .int .i64 ((t.h : Int) - a - m)], .int .i64 gx, .int .i64 gy] (.own 0) [(0, .row 26 (nbs l2))]) : SplF p w h gx gy b (l1 ++ l2) := by
  have k1 := rtight_ok w h hw hh p hp b hb.1 hb.2 hi
  rw [ht] at k1
  have k2 := refCut_ok w h hw hh p hp t htp.1 htp.2
  have k3 := colsC_ok p w t (by unfold InP at htp; omega) (by unfold InP at htp; omega)
  have k4 := rowsC_ok p w t (by unfold InP at htp; omega) (by unfold InP at htp; omega)
  generalize natL (fun i => colN p w t (t.x + i)) t.w = L1 at *
  generalize natL (fun i => rowN p w t (t.y + i)) t.h = L2 at *
  generalize cutP p w t = q at *
  obtain ⟨tx, ty, tw, th⟩ := t
  obtain ⟨bx, by', bw, bh⟩ := b
  simp only [SplF, Nb.av] at *
  have htp' := htp
  unfold InP at htp'
  dsimp only at htp'
  refine FnOk.of_vc Tryz.func54 rfl (by decide) (by simp [Tryz.f54]) [.tmp 8] rfl fun w0 T0 _ => ?_
  simp only [Tryz.f54, argEnv]
  (repeat' first | with_reducible (first | intro _ | refine rc ?_ | refine rl ?_ | refine rh ?_ | refine rt ?_ | refine rf ?_ | refine rs ?_ | refine And.intro ?_ ?_) | omega | simp (maxSteps := 1000000) only [go_sem, simprocAttr, ↓reduceIte])
  refine VcCall.k (k1) ?_
  (repeat' first | with_reducible (first | intro _ | refine rc ?_ | refine rl ?_ | refine rh ?_ | refine rt ?_ | refine rf ?_ | refine rs ?_ | refine And.intro ?_ ?_) | omega | simp (maxSteps := 1000000) only [go_sem, simprocAttr, ↓reduceIte])
  refine VcCall.ro (.agg [.int .i64 tw, .int .i64 th, .ro (.bools q)]) (FnFr.of_ok k2 rfl rfl) (by simp only [noIdR_ok, argOkL, argOk, allOk, argOkN, List.drop_zero, lk, reduceIte, reduceCtorEq, Nat.reduceEqDiff, Option.some.injEq, Item.row.injEq, Item.box.injEq, AV.ro.injEq, exists_eq_left, exists_and_left, exists_eq_left', exists_eq_right, and_assoc, and_true, true_and, List.cons.injEq, exists_eq', exists_eq]) (by simp [outOk, argOkL, allOk, argOk, argOkN, lk, noIdR_ok]) rfl ?_
  (repeat' first | with_reducible (first | intro _ | refine rc ?_ | refine rl ?_ | refine rh ?_ | refine rt ?_ | refine rf ?_ | refine rs ?_ | refine And.intro ?_ ?_) | omega | simp (maxSteps := 1000000) only [go_sem, simprocAttr, ↓reduceIte])
  refine VcDraw.lex [] [] (by kernel_rfl) (by kernel_rfl) ?_
  (repeat' first | with_reducible (first | intro _ | refine rc ?_ | refine rl ?_ | refine rh ?_ | refine rt ?_ | refine rf ?_ | refine rs ?_ | refine And.intro ?_ ?_) | omega | simp (maxSteps := 1000000) only [go_sem, simprocAttr, ↓reduceIte])
  refine QV.intro (.ro (.ints .i64 L1)) ?_ ?_
  · (repeat' first | with_reducible (first | intro _ | refine rc ?_ | refine rl ?_ | refine rh ?_ | refine rt ?_ | refine rf ?_ | refine rs ?_ | refine And.intro ?_ ?_) | omega | simp (maxSteps := 1000000) only [go_sem, simprocAttr, ↓reduceIte])
    refine VcCall.ro (.ro (.ints .i64 L1)) (FnFr.of_ok k3 rfl rfl) (by simp only [noIdR_ok, argOkL, argOk, allOk, argOkN, List.drop_zero, lk, reduceIte, reduceCtorEq, Nat.reduceEqDiff, Option.some.injEq, Item.row.injEq, Item.box.injEq, AV.ro.injEq, exists_eq_left, exists_and_left, exists_eq_left', exists_eq_right, and_assoc, and_true, true_and, List.cons.injEq, exists_eq', exists_eq]) (by simp [outOk, argOkL, allOk, argOk, argOkN, lk, noIdR_ok]) rfl ?_
    (repeat' first | with_reducible (first | intro _ | refine rc ?_ | refine rl ?_ | refine rh ?_ | refine rt ?_ | refine rf ?_ | refine rs ?_ | refine And.intro ?_ ?_) | omega | simp (maxSteps := 1000000) only [go_sem, simprocAttr, ↓reduceIte])
  (repeat' first | with_reducible (first | intro _ | refine rc ?_ | refine rl ?_ | refine rh ?_ | refine rt ?_ | refine rf ?_ | refine rs ?_ | refine And.intro ?_ ?_) | omega | simp (maxSteps := 1000000) only [go_sem, simprocAttr, ↓reduceIte])
  refine QV.intro (.ro (.bools A)) ?_ ?_
  · (repeat' first | with_reducible (first | intro _ | refine rc ?_ | refine rl ?_ | refine rh ?_ | refine rt ?_ | refine rf ?_ | refine rs ?_ | refine And.intro ?_ ?_) | omega | simp (maxSteps := 1000000) only [go_sem, simprocAttr, ↓reduceIte])
    refine VcCall.ro (.ro (.bools A)) (FnFr.of_ok kS1 rfl rfl) (by simp only [noIdR_ok, argOkL, argOk, allOk, argOkN, List.drop_zero, lk, reduceIte, reduceCtorEq, Nat.reduceEqDiff, Option.some.injEq, Item.row.injEq, Item.box.injEq, AV.ro.injEq, exists_eq_left, exists_and_left, exists_eq_left', exists_eq_right, and_assoc, and_true, true_and, List.cons.injEq, exists_eq', exists_eq]) (by simp [outOk, argOkL, allOk, argOk, argOkN, lk, noIdR_ok]) rfl ?_
    (repeat' first | with_reducible (first | intro _ | refine rc ?_ | refine rl ?_ | refine rh ?_ | refine rt ?_ | refine rf ?_ | refine rs ?_ | refine And.intro ?_ ?_) | omega | simp (maxSteps := 1000000) only [go_sem, simprocAttr, ↓reduceIte])
  (repeat' first | with_reducible (first | intro _ | refine rc ?_ | refine rl ?_ | refine rh ?_ | refine rt ?_ | refine rf ?_ | refine rs ?_ | refine And.intro ?_ ?_) | omega | simp (maxSteps := 1000000) only [go_sem, simprocAttr, ↓reduceIte])
  refine QV.intro (.ro (.ints .i64 L2)) ?_ ?_
  · (repeat' first | with_reducible (first | intro _ | refine rc ?_ | refine rl ?_ | refine rh ?_ | refine rt ?_ | refine rf ?_ | refine rs ?_ | refine And.intro ?_ ?_) | omega | simp (maxSteps := 1000000) only [go_sem, simprocAttr, ↓reduceIte])
    refine VcCall.ro (.ro (.ints .i64 L2)) (FnFr.of_ok k4 rfl rfl) (by simp only [noIdR_ok, argOkL, argOk, allOk, argOkN, List.drop_zero, lk, reduceIte, reduceCtorEq, Nat.reduceEqDiff, Option.some.injEq, Item.row.injEq, Item.box.injEq, AV.ro.injEq, exists_eq_left, exists_and_left, exists_eq_left', exists_eq_right, and_assoc, and_true, true_and, List.cons.injEq, exists_eq', exists_eq]) (by simp [outOk, argOkL, allOk, argOk, argOkN, lk, noIdR_ok]) rfl ?_
    (repeat' first | with_reducible (first | intro _ | refine rc ?_ | refine rl ?_ | refine rh ?_ | refine rt ?_ | refine rf ?_ | refine rs ?_ | refine And.intro ?_ ?_) | omega | simp (maxSteps := 1000000) only [go_sem, simprocAttr, ↓reduceIte])
  (repeat' first | with_reducible (first | intro _ | refine rc ?_ | refine rl ?_ | refine rh ?_ | refine rt ?_ | refine rf ?_ | refine rs ?_ | refine And.intro ?_ ?_) | omega | simp (maxSteps := 1000000) only [go_sem, simprocAttr, ↓reduceIte])
  refine QV.intro (.ro (.bools B)) ?_ ?_
  · (repeat' first | with_reducible (first | intro _ | refine rc ?_ | refine rl ?_ | refine rh ?_ | refine rt ?_ | refine rf ?_ | refine rs ?_ | refine And.intro ?_ ?_) | omega | simp (maxSteps := 1000000) only [go_sem, simprocAttr, ↓reduceIte])
    refine VcCall.ro (.ro (.bools B)) (FnFr.of_ok kS2 rfl rfl) (by simp only [noIdR_ok, argOkL, argOk, allOk, argOkN, List.drop_zero, lk, reduceIte, reduceCtorEq, Nat.reduceEqDiff, Option.some.injEq, Item.row.injEq, Item.box.injEq, AV.ro.injEq, exists_eq_left, exists_and_left, exists_eq_left', exists_eq_right, and_assoc, and_true, true_and, List.cons.injEq, exists_eq', exists_eq]) (by simp [outOk, argOkL, allOk, argOk, argOkN, lk, noIdR_ok]) rfl ?_
    (repeat' first | with_reducible (first | intro _ | refine rc ?_ | refine rl ?_ | refine rh ?_ | refine rt ?_ | refine rf ?_ | refine rs ?_ | refine And.intro ?_ ?_) | omega | simp (maxSteps := 1000000) only [go_sem, simprocAttr, ↓reduceIte])
  (repeat' first | with_reducible (first | intro _ | refine rc ?_ | refine rl ?_ | refine rh ?_ | refine rt ?_ | refine rf ?_ | refine rs ?_ | refine And.intro ?_ ?_) | omega | simp (maxSteps := 1000000) only [go_sem, simprocAttr, ↓reduceIte])
  refine QV.intro (.tup [.int .i64 2, .int .i64 a, .int .i64 m]) ?_ ?_
  · (repeat' first | with_reducible (first | intro _ | refine rc ?_ | refine rl ?_ | refine rh ?_ | refine rt ?_ | refine rf ?_ | refine rs ?_ | refine And.intro ?_ ?_) | omega | simp (maxSteps := 1000000) only [go_sem, simprocAttr, ↓reduceIte])
    refine VcCall.k (kA) ?_
    (repeat' first | with_reducible (first | intro _ | refine rc ?_ | refine rl ?_ | refine rh ?_ | refine rt ?_ | refine rf ?_ | refine rs ?_ | refine And.intro ?_ ?_) | omega | simp (maxSteps := 1000000) only [go_sem, simprocAttr, ↓reduceIte])
  (repeat' first | with_reducible (first | intro _ | refine rc ?_ | refine rl ?_ | refine rh ?_ | refine rt ?_ | refine rf ?_ | refine rs ?_ | refine And.intro ?_ ?_) | omega | simp (maxSteps := 1000000) only [go_sem, simprocAttr, ↓reduceIte])
  refine VcDraw.forkCut (.quiet 0 (.quiet 1 (.eff 2 [1, 0] (.eff 3 [1, 0] (.eff 4 [1] (.eff 5 [] .done .none) .none) .none) (.eff 3 [1, 0] (.eff 2 [1, 0] (.eff 4 [1] (.eff 5 [] .done .none) .none) .none) .none)))) (by kernel_rfl) (by kernel_rfl) (by kernel_rfl) ⟨95, [(2, .int .i64 gx), (3, .int .i64 gy), (4, .ptr 0 0), (5, .ptr 1 0), (12, .int .i64 2), (13, .int .i64 a), (14, .int .i64 m), (15, .ptr 2 0), (16, .ptr 3 0)], [(0, .box 24 [.int .i64 w, .int .i64 h, .ro (.bools p)]), (1, .box 26 [.int .i64 tx, .int .i64 ty, .int .i64 tw, .int .i64 th]), (2, .box 26 [.int .i64 tx, .int .i64 ty, .int .i64 tw, .int .i64 th]), (3, .box 26 [.int .i64 tx, .int .i64 ty, .int .i64 tw, .int .i64 th])], 4⟩ ?_ ?_
  · (repeat' first | with_reducible (first | intro _ | refine rc ?_ | refine rl ?_ | refine rh ?_ | refine rt ?_ | refine rf ?_ | refine rs ?_ | refine And.intro ?_ ?_) | omega | simp (maxSteps := 1000000) only [go_sem, simprocAttr, ↓reduceIte])
    all_goals refine Ent.auto0 rfl ?_ ?_ <;> simp only [go_sem, reduceCtorEq, reduceIte, Nat.reduceEqDiff, Nat.reduceLT, Nat.reduceLeDiff, Int.natCast_succ]
  (repeat' first | with_reducible (first | intro _ | refine rc ?_ | refine rl ?_ | refine rh ?_ | refine rt ?_ | refine rf ?_ | refine rs ?_ | refine And.intro ?_ ?_) | omega | simp (maxSteps := 1000000) only [go_sem, simprocAttr, ↓reduceIte])
  refine VcDraw.lex [13, 15] [(6, [1]), (7, [1]), (8, [1]), (9, [1]), (10, [1]), (11, [1])] (by kernel_rfl) (by kernel_rfl) ?_
  (repeat' first | with_reducible (first | intro _ | refine rc ?_ | refine rl ?_ | refine rh ?_ | refine rt ?_ | refine rf ?_ | refine rs ?_ | refine And.intro ?_ ?_) | omega | simp (maxSteps := 1000000) only [go_sem, simprocAttr, ↓reduceIte])
  refine VcDraw.lex [4, 10] [(5, [0]), (6, [0]), (7, [0]), (8, [0])] (by kernel_rfl) (by kernel_rfl) ?_
  (repeat' first | with_reducible (first | intro _ | refine rc ?_ | refine rl ?_ | refine rh ?_ | refine rt ?_ | refine rf ?_ | refine rs ?_ | refine And.intro ?_ ?_) | omega | simp (maxSteps := 1000000) only [go_sem, simprocAttr, ↓reduceIte])
  refine QE.intro (.own 4) [(4, .row 26 (nbs l1)), (0, .box 24 [.int .i64 w, .int .i64 h, .ro (.bools p)]), (1, .box 26 [.int .i64 tx, .int .i64 ty, .int .i64 tw, .int .i64 th]), (2, .box 26 [.int .i64 tx, .int .i64 ty, .int .i64 tw, .int .i64 a]), (3, .box 26 [.int .i64 tx, .int .i64 ((ty : Int) + a + m), .int .i64 tw, .int .i64 ((th : Int) - a - m)])] 5 ?_ ?_
  · (repeat' first | with_reducible (first | intro _ | refine rc ?_ | refine rl ?_ | refine rh ?_ | refine rt ?_ | refine rf ?_ | refine rs ?_ | refine And.intro ?_ ?_) | omega | simp (maxSteps := 1000000) only [go_sem, simprocAttr, ↓reduceIte])
    refine VcCall.fr (FnFr.of_ok kF rfl (by simp [noRoRows, noRoItem, noRoRow, noRoL, noRo, nbs, Nb.av])) (by simp only [noIdR_ok, argOkL, argOk, allOk, argOkN, List.drop_zero, lk, reduceIte, reduceCtorEq, Nat.reduceEqDiff, Option.some.injEq, Item.row.injEq, Item.box.injEq, AV.ro.injEq, exists_eq_left, exists_and_left, exists_eq_left', exists_eq_right, and_assoc, and_true, true_and, List.cons.injEq, exists_eq', exists_eq]) 1 rfl (by simp [rowsB, Item.below, nbs, belowR_ok]) ?_
    (repeat' first | with_reducible (first | intro _ | refine rc ?_ | refine rl ?_ | refine rh ?_ | refine rt ?_ | refine rf ?_ | refine rs ?_ | refine And.intro ?_ ?_) | omega | simp (maxSteps := 1000000) only [go_sem, simprocAttr, ↓reduceIte, nbs, renR_ok])
  (repeat' first | with_reducible (first | intro _ | refine rc ?_ | refine rl ?_ | refine rh ?_ | refine rt ?_ | refine rf ?_ | refine rs ?_ | refine And.intro ?_ ?_) | omega | simp (maxSteps := 1000000) only [go_sem, simprocAttr, ↓reduceIte])
  refine QV.intro (.ro (nbs l2)) ?_ ?_
  · (repeat' first | with_reducible (first | intro _ | refine rc ?_ | refine rl ?_ | refine rh ?_ | refine rt ?_ | refine rf ?_ | refine rs ?_ | refine And.intro ?_ ?_) | omega | simp (maxSteps := 1000000) only [go_sem, simprocAttr, ↓reduceIte])
    refine VcCall.ro (.ro (nbs l2)) (FnFr.of_ok kZ rfl (by simp [noRoRows, noRoItem, noRoRow, noRoL, noRo, nbs, Nb.av])) (by simp only [noIdR_ok, argOkL, argOk, allOk, argOkN, List.drop_zero, lk, reduceIte, reduceCtorEq, Nat.reduceEqDiff, Option.some.injEq, Item.row.injEq, Item.box.injEq, AV.ro.injEq, exists_eq_left, exists_and_left, exists_eq_left', exists_eq_right, and_assoc, and_true, true_and, List.cons.injEq, exists_eq', exists_eq]) (by simp [outOk, argOkL, allOk, argOk, argOkN, lk, noIdR_ok, nbs]) rfl ?_
    (repeat' first | with_reducible (first | intro _ | refine rc ?_ | refine rl ?_ | refine rh ?_ | refine rt ?_ | refine rf ?_ | refine rs ?_ | refine And.intro ?_ ?_) | omega | simp (maxSteps := 1000000) only [go_sem, simprocAttr, ↓reduceIte])
  (repeat' first | with_reducible (first | intro _ | refine rc ?_ | refine rl ?_ | refine rh ?_ | refine rt ?_ | refine rf ?_ | refine rs ?_ | refine And.intro ?_ ?_) | omega | simp (maxSteps := 1000000) only [go_sem, simprocAttr, ↓reduceIte, nbs, List.length_map])
  refine Ret.auto 1 ?_ rfl ?_ <;> simp only [go_sem, reduceCtorEq, reduceIte, Nat.reduceEqDiff, Nat.reduceLT, Nat.reduceLeDiff, Int.natCast_succ, Post, nbs, renR_ok, belowR_ok, List.map_append, Nb.av]
end Go.Fv.Q

/-! The reference's Split gives the same blocks. -/
namespace Go.Fv.Q
open Go Go.Proofs
set_option linter.unusedSimpArgs false
set_option linter.unusedVariables false
set_option maxRecDepth 8000

theorem stGo_bd (is : Nat → Bool) (least : Nat) : ∀ (k i n : Nat) (b : Nat × Nat), n ≤ i → b.1 + b.2 ≤ i → (stGo is least k i n b).1 + (stGo is least k i n b).2 ≤ i + k
  | 0, i, n, b, h, hb => by
    unfold stGo wide
    split
    · dsimp only; omega
    · omega
  | k + 1, i, n, b, h, hb => by
    unfold stGo
    split
    · have := stGo_bd is least k (i + 1) (n + 1) b (by omega) (by omega)
      omega
    · have := stGo_bd is least k (i + 1) 0 (wide least b (i - n, n)) (by omega) (by
        unfold wide; split
        · dsimp only; omega
        · omega)
      omega
theorem hasC (p : List Bool) (w : Nat) (t : Nb) : hasL (natL (fun i => colN p w t (t.x + i)) t.w) = (List.range t.w).map fun i => !colE p w t (t.x + i) := hasL_natL _ _
theorem hasR (p : List Bool) (w : Nat) (t : Nb) : hasL (natL (fun i => rowN p w t (t.y + i)) t.h) = (List.range t.h).map fun i => !rowE p w t (t.y + i) := hasL_natL _ _
set_option maxHeartbeats 2000000 in
theorem refSplit_ok (w h : Nat) (hw : w ≤ 4000) (hh : h ≤ 4000) (hwh : w * h ≤ 5000) (p : List Bool) (hp : p.length = w * h) (gx gy : Nat) (hgx : gx ≤ 4000) (hgy : gy ≤ 4000) : ∀ (n : Nat) (b : Nb), b.w + b.h < n → InP b w h → SplF p w h gx gy b (cutL p w gx gy n b)
  | n + 1, b, hn, hb => by
    by_cases h0 : inkB p w b = 0
    · have e : cutL p w gx gy (n + 1) b = [] := by unfold cutL; rw [if_pos h0]
      rw [e]
      exact splNo_ok w h hw hh p hp gx gy b hb h0
    · have hi : 0 < inkB p w b := by omega
      obtain ⟨hpt, hti⟩ := tightB_part p w (b := b) hi
      have htp := hb.of hpt
      have hpp := hpt
      unfold PartOf at hpp
      have bd : ∀ c : Nb, InP c w h → inkB p w c ≤ 5000 := fun c hc => by
        have h1 := inkN_le p w c.x c.y c.w c.h
        have h2 : c.w * c.h ≤ w * h := Nat.mul_le_mul (by unfold InP at hc; omega) (by unfold InP at hc; omega)
        rw [Nat.mul_comm] at h1; unfold inkB; omega
      have kS1 := has_ok (natL (fun i => colN p w (tightB p w b) ((tightB p w b).x + i)) (tightB p w b).w) (by rw [natL_len]; unfold InP at htp; omega)
      have kS2 := has_ok (natL (fun i => rowN p w (tightB p w b) ((tightB p w b).y + i)) (tightB p w b).h) (by rw [natL_len]; unfold InP at htp; omega)
      rw [hasC] at kS1
      rw [hasR] at kS2
      have kR1 := rstretch_ok (fun i => colE p w (tightB p w b) ((tightB p w b).x + i)) (tightB p w b).w gx (by unfold InP at htp; omega)
      have kR2 := rstretch_ok (fun i => rowE p w (tightB p w b) ((tightB p w b).y + i)) (tightB p w b).h gy (by unfold InP at htp; omega)
      have q1 := widest_ref (colE p w (tightB p w b)) gx (tightB p w b).w (tightB p w b).x
      have q2 := widest_ref (rowE p w (tightB p w b)) gy (tightB p w b).h (tightB p w b).y
      have s1 := stGo_bd (fun i => colE p w (tightB p w b) ((tightB p w b).x + i)) gx (tightB p w b).w 0 0 (0, 0) (Nat.le_refl _) (Nat.le_refl _)
      have s2 := stGo_bd (fun i => rowE p w (tightB p w b) ((tightB p w b).y + i)) gy (tightB p w b).h 0 0 (0, 0) (Nat.le_refl _) (Nat.le_refl _)
      have hcs := cutC_spec p w (t := tightB p w b) (gx := gx)
      have hrs := cutR_spec p w (t := tightB p w b) (gy := gy)
      rw [show widest gx (strs (colE p w (tightB p w b)) (tightB p w b).w (tightB p w b).x) = cutC p w (tightB p w b) gx from rfl] at q1
      rw [show widest gy (strs (rowE p w (tightB p w b)) (tightB p w b).h (tightB p w b).y) = cutR p w (tightB p w b) gy from rfl] at q2
      have ec : cutL p w gx gy (n + 1) b = if (cutC p w (tightB p w b) gx).2 = 0 ∧ (cutR p w (tightB p w b) gy).2 = 0 then [tightB p w b]
          else if atCols (cutC p w (tightB p w b) gx) (cutR p w (tightB p w b) gy) gx gy then cutL p w gx gy n (firstC (tightB p w b) (cutC p w (tightB p w b) gx)) ++ cutL p w gx gy n (secondC (tightB p w b) (cutC p w (tightB p w b) gx))
          else cutL p w gx gy n (firstR (tightB p w b) (cutR p w (tightB p w b) gy)) ++ cutL p w gx gy n (secondR (tightB p w b) (cutR p w (tightB p w b) gy)) := by rw [cutL, if_neg h0]
      rw [ec]
      generalize ht : tightB p w b = t at *
      generalize (List.range t.w).map (fun i => !colE p w t (t.x + i)) = A at *
      generalize (List.range t.h).map (fun i => !rowE p w t (t.y + i)) = B at *
      generalize stGo (fun i => colE p w t (t.x + i)) gx t.w 0 0 (0, 0) = c' at *
      generalize stGo (fun i => rowE p w t (t.y + i)) gy t.h 0 0 (0, 0) = r' at *
      generalize cutC p w t gx = c at *
      generalize cutR p w t gy = r at *
      have kA := cutAt_ok A B c' r' gx gy hgx hgy (by unfold InP at htp; omega) (by unfold InP at htp; omega) kR1 kR2
      have bx : ∀ (X Y W H X' Y' W' H' : Int) (l : List Nb), X = X' → Y = Y' → W = W' → H = H' → FnOk Tryz.prog 54 [.agg [.int .i64 w, .int .i64 h, .ro (.bools p)], .agg [.int .i64 X, .int .i64 Y, .int .i64 W, .int .i64 H], .int .i64 gx, .int .i64 gy] (.own 0) [(0, .row 26 (nbs l))] → FnOk Tryz.prog 54 [.agg [.int .i64 w, .int .i64 h, .ro (.bools p)], .agg [.int .i64 X', .int .i64 Y', .int .i64 W', .int .i64 H'], .int .i64 gx, .int .i64 gy] (.own 0) [(0, .row 26 (nbs l))] := by
        rintro _ _ _ _ _ _ _ _ l rfl rfl rfl rfl h; exact h
      by_cases hA : c.2 = 0 ∧ r.2 = 0
      · rw [if_pos hA]
        unfold cutRes at kA
        rw [if_pos (show c'.2 = 0 ∧ r'.2 = 0 by omega)] at kA
        exact spl0_ok w h hw hh p hp gx gy hgx hgy b t hb hi ht htp A B kS1 kS2 kA
      · rw [if_neg hA]
        by_cases hB : atCols c r gx gy
        · rw [if_pos hB]
          have hB' := hB
          unfold atCols at hB'
          unfold cutRes at kA
          rw [if_neg (show ¬ (c'.2 = 0 ∧ r'.2 = 0) by omega), if_pos (show r'.2 = 0 ∨ (0 < c'.2 ∧ r'.2 * gx < c'.2 * gy) by rw [← q1.1, ← q2.1]; omega)] at kA
          have hx := q1.2 (by omega)
          obtain ⟨u1, u2, _⟩ := hcs (by omega)
          have n1 : (firstC t c).w + (firstC t c).h < n := by dsimp only [firstC]; omega
          have n2 : (secondC t c).w + (secondC t c).h < n := by dsimp only [secondC]; omega
          have i1 : InP (firstC t c) w h := by unfold InP firstC at *; dsimp only; omega
          have i2 : InP (secondC t c) w h := by unfold InP secondC at *; dsimp only; omega
          have l1 := (cutL_spec p w gx gy n _ n1).len
          have l2 := (cutL_spec p w gx gy n _ n2).len
          have b1 := bd _ i1
          have b2 := bd _ i2
          refine spl1_ok w h hw hh p hp gx gy hgx hgy b t hb hi ht htp A B kS1 kS2 c'.1 c'.2 (by omega) kA _ _ (by omega) (by omega) (bx _ _ _ _ _ _ _ _ _ ?_ ?_ ?_ ?_ (refSplit_ok w h hw hh hwh p hp gx gy hgx hgy n _ n1 i1)) (bx _ _ _ _ _ _ _ _ _ ?_ ?_ ?_ ?_ (refSplit_ok w h hw hh hwh p hp gx gy hgx hgy n _ n2 i2)) <;> (simp only [firstC, secondC] <;> omega)
        · rw [if_neg hB]
          have hB' := hB
          unfold atCols at hB'
          unfold cutRes at kA
          rw [if_neg (show ¬ (c'.2 = 0 ∧ r'.2 = 0) by omega), if_neg (show ¬ (r'.2 = 0 ∨ (0 < c'.2 ∧ r'.2 * gx < c'.2 * gy)) by rw [← q1.1, ← q2.1]; omega)] at kA
          have hx := q2.2 (by omega)
          obtain ⟨u1, u2, _⟩ := hrs (by omega)
          have n1 : (firstR t r).w + (firstR t r).h < n := by dsimp only [firstR]; omega
          have n2 : (secondR t r).w + (secondR t r).h < n := by dsimp only [secondR]; omega
          have i1 : InP (firstR t r) w h := by unfold InP firstR at *; dsimp only; omega
          have i2 : InP (secondR t r) w h := by unfold InP secondR at *; dsimp only; omega
          have l1 := (cutL_spec p w gx gy n _ n1).len
          have l2 := (cutL_spec p w gx gy n _ n2).len
          have b1 := bd _ i1
          have b2 := bd _ i2
          refine spl2_ok w h hw hh p hp gx gy hgx hgy b t hb hi ht htp A B kS1 kS2 r'.1 r'.2 (by omega) kA _ _ (by omega) (by omega) (bx _ _ _ _ _ _ _ _ _ ?_ ?_ ?_ ?_ (refSplit_ok w h hw hh hwh p hp gx gy hgx hgy n _ n1 i1)) (bx _ _ _ _ _ _ _ _ _ ?_ ?_ ?_ ?_ (refSplit_ok w h hw hh hwh p hp gx gy hgx hgy n _ n2 i2)) <;> (simp only [firstR, secondR] <;> omega)
end Go.Fv.Q

/-! The reference's Layout: the walk. -/
namespace Go.Fv.Q
open Go Go.Proofs
set_option linter.unusedSimpArgs false
set_option linter.unusedVariables false
set_option linter.unnecessarySimpa false
set_option maxRecDepth 8000

set_option maxHeartbeats 8000000 in
theorem refLayout_ok (w h : Nat) (hw1 : 1 ≤ w) (hw : w ≤ 32) (hh1 : 1 ≤ h) (hh : h ≤ 32) (p : List Bool) (hp : p.length = w * h) (least gx gy line word : Nat) (h1 : 1 ≤ least) (h2 : least ≤ 1048576) (hx1 : 1 ≤ gx) (hx2 : gx ≤ 4000) (hy1 : 1 ≤ gy) (hy2 : gy ≤ 4000) (hl1 : 1 ≤ line) (hl2 : line ≤ 4000) (hwd : word ≤ 4000) :
    FnOk Tryz.prog 21 [.agg [.int .i64 w, .int .i64 h, .ro (.bools p)], .agg [.int .i64 least, .int .i64 gx, .int .i64 gy, .int .i64 line, .int .i64 word]] (.own 0) [(0, .row 53 (bks (layL (spk w h p least) w h gx gy line word)))] := by
  have hwh : w * h ≤ 32 * 32 := Nat.mul_le_mul hw hh
  have kS := refSpecks_ok w h hw1 (by omega) hh1 (by omega) p hp ((least : Int) - 1) (by omega)
  rw [show (chgAll (!true) (speckB ((least : Int) - 1)) p (pieces ⟨p, w, h, true, true⟩)).p = spk w h p least from rfl] at kS
  have hql := (spk_len w h p least).trans hp
  generalize (chgAll (!true) (speckB ((least : Int) - 1)) p (pieces ⟨p, w, h, true, true⟩)).n = ns at *
  generalize spk w h p least = q at *
  have hfull : InP ⟨0, 0, w, h⟩ w h := by unfold InP; dsimp only; omega
  have kP := refSplit_ok w h (by omega) (by omega) (by omega) q hql gx gy hx2 hy2 (w + h + 1) ⟨0, 0, w, h⟩ (by dsimp only; omega) hfull
  unfold SplF at kP
  have hc := cutL_spec q w gx gy (w + h + 1) ⟨0, 0, w, h⟩ (by dsimp only; omega)
  have hpt := hc.part
  have hink := hc.ink
  have hlen := hc.len
  have hink0 := inkN_le q w 0 0 w h
  rw [Nat.mul_comm] at hink0
  rw [show inkB q w ⟨0, 0, w, h⟩ = inkN q w 0 0 w h from rfl] at hlen
  clear hc
  unfold layL
  generalize cutL q w gx gy (w + h + 1) ⟨0, 0, w, h⟩ = L at *
  simp only [Nb.av, Int.natCast_zero, Int.cast_ofNat_Int] at kP
  refine FnOk.of_vc Tryz.func21 rfl (by decide) (by simp [Tryz.f21]) [.tmp 4] rfl fun w0 T0 _ => ?_
  simp only [Tryz.f21, argEnv]
  (repeat' first | with_reducible (first | intro _ | refine rc ?_ | refine rl ?_ | refine rh ?_ | refine rt ?_ | refine rf ?_ | refine rs ?_ | refine And.intro ?_ ?_) | omega | simp (maxSteps := 1000000) only [go_sem, simprocAttr, ↓reduceIte])
  refine VcCall.ro (.tup [.agg [.int .i64 w, .int .i64 h, .ro (.bools q)], .int .i64 ns]) (FnFr.of_ok kS rfl rfl) (by simp only [noIdR_ok, argOkL, argOk, allOk, argOkN, List.drop_zero, lk, reduceIte, reduceCtorEq, Nat.reduceEqDiff, Option.some.injEq, Item.row.injEq, Item.box.injEq, AV.ro.injEq, exists_eq_left, exists_and_left, exists_eq_left', exists_eq_right, and_assoc, and_true, true_and, List.cons.injEq, exists_eq', exists_eq]) (by simp [outOk, argOkL, allOk, argOk, argOkN, lk, noIdR_ok]) rfl ?_
  (repeat' first | with_reducible (first | intro _ | refine rc ?_ | refine rl ?_ | refine rh ?_ | refine rt ?_ | refine rf ?_ | refine rs ?_ | refine And.intro ?_ ?_) | omega | simp (maxSteps := 1000000) only [go_sem, simprocAttr, ↓reduceIte])
  refine VcCall.ro (.ro (nbs L)) (FnFr.of_ok kP rfl (by simp [noRoRows, noRoItem, noRoRow, nbs, Nb.av, noRoL, noRo])) (by simp only [noIdR_ok, argOkL, argOk, allOk, argOkN, List.drop_zero, lk, reduceIte, reduceCtorEq, Nat.reduceEqDiff, Option.some.injEq, Item.row.injEq, Item.box.injEq, AV.ro.injEq, exists_eq_left, exists_and_left, exists_eq_left', exists_eq_right, and_assoc, and_true, true_and, List.cons.injEq, exists_eq', exists_eq]) (by simp [outOk, argOkL, allOk, argOk, argOkN, lk, noIdR_ok, nbs]) rfl ?_
  (repeat' first | with_reducible (first | intro _ | refine rc ?_ | refine rl ?_ | refine rh ?_ | refine rt ?_ | refine rf ?_ | refine rs ?_ | refine And.intro ?_ ?_) | omega | simp (maxSteps := 1000000) only [go_sem, simprocAttr, ↓reduceIte, nbs, List.length_map])
  refine VcLoop.intro (fun k : Nat => ⟨76, [(32, .int .i64 k), (31, .int .i64 L.length), (30, .ro (.objs 4 (L.map Nb.av))), (5, .own 2), (3, .ptr 1 0), (2, .ptr 0 0)], [(0, .box 24 [.int .i64 w, .int .i64 h, .ro (.bools q)]), (1, .box 41 [.int .i64 least, .int .i64 gx, .int .i64 gy, .int .i64 line, .int .i64 word]), (2, .row 53 (bks ((L.take k).map (layBk q w line word))))], 3⟩) (fun k => k ≤ L.length) (fun k => L.length - k) 0 ?_ (Nat.zero_le _) fun k hk => ?_
  · refine Ent.auto0 rfl ?_ ?_ <;> simp only [go_sem, reduceCtorEq, reduceIte, Nat.reduceEqDiff, Nat.reduceLT, Nat.reduceLeDiff, Int.natCast_succ, List.take_zero, List.map_nil]
  by_cases hlt : k < L.length
  · have he := nb_elem L hlt
    have hmem : L.getD k Nb.zero ∈ L := by rw [getD_lt hlt]; exact List.getElem_mem hlt
    have hts : ((L.take (k + 1)).map (layBk q w line word)).map Bk.av = ((L.take k).map (layBk q w line word)).map Bk.av ++ [(⟨L.getD k Nb.zero, ((linesR q w (L.getD k Nb.zero) line).map (rowBox q w (L.getD k Nb.zero))).map (layLn q w word)⟩ : Bk).av] := by
      rw [List.take_succ_eq_append_getElem hlt, getD_lt hlt, List.map_append, List.map_append]; rfl
    have hpk := hpt _ hmem
    have hik := hink _ hmem
    generalize L.getD k Nb.zero = b at *
    have hib : InP b w h := hfull.of hpk
    have kR := RowsIn_ok w h (by omega) (by omega) q hql b hib line hl2
    have hRc := rows_cuts q w b line
    have hRp := hRc.part
    have hRi := hRc.ink
    have hRl := hRc.len
    have hib2 := inkN_le q w b.x b.y b.w b.h
    rw [show inkB q w b = inkN q w b.x b.y b.w b.h from rfl] at hRl
    have hbb : b.h * b.w ≤ 32 * 32 := Nat.mul_le_mul (by unfold InP at hib; omega) (by unfold InP at hib; omega)
    have hRb := Nat.le_trans hRl (Nat.le_trans hib2 hbb)
    clear hRc hRl hib2 hbb
    generalize (linesR q w b line).map (rowBox q w b) = R at *
    obtain ⟨bx, by', bw, bh⟩ := b
    dsimp only [Nb.av] at kR
    dsimp only at he
    rw [show ∀ b s, (⟨b, s⟩ : Bk).av = [.int .i64 b.x, .int .i64 b.y, .int .i64 b.w, .int .i64 b.h, .ro (lns s)] from fun _ _ => rfl] at hts
    dsimp only at hts
    have hnl : (L.take k).length = k := by rw [List.length_take]; omega
    (repeat' first | with_reducible (first | intro _ | refine rc ?_ | refine rl ?_ | refine rh ?_ | refine rt ?_ | refine rf ?_ | refine rs ?_ | refine And.intro ?_ ?_) | omega | simp (maxSteps := 1000000) only [go_sem, simprocAttr, ↓reduceIte, List.length_map, elemA, he])
    refine VcCall.ro (.ro (nbs R)) (FnFr.of_ok kR rfl (by simp [noRoRows, noRoItem, noRoRow, nbs, Nb.av, noRoL, noRo])) (by simp only [noIdR_ok, argOkL, argOk, allOk, argOkN, List.drop_zero, lk, reduceIte, reduceCtorEq, Nat.reduceEqDiff, Option.some.injEq, Item.row.injEq, Item.box.injEq, AV.ro.injEq, exists_eq_left, exists_and_left, exists_eq_left', exists_eq_right, and_assoc, and_true, true_and, List.cons.injEq, exists_eq', exists_eq]) (by simp [outOk, argOkL, allOk, argOk, argOkN, lk, noIdR_ok, nbs]) rfl ?_
    (repeat' first | with_reducible (first | intro _ | refine rc ?_ | refine rl ?_ | refine rh ?_ | refine rt ?_ | refine rf ?_ | refine rs ?_ | refine And.intro ?_ ?_) | omega | simp (maxSteps := 1000000) only [go_sem, simprocAttr, ↓reduceIte, nbs, List.length_map])
    refine VcLoop.run (fun j : Nat => ⟨76, [(44, .int .i64 j), (43, .int .i64 R.length), (42, .ro (.objs 4 (R.map Nb.av))), (8, .ptr 4 0), (32, .int .i64 k), (31, .int .i64 L.length), (30, .ro (.objs 4 (L.map Nb.av))), (5, .own 2), (3, .ptr 1 0), (2, .ptr 0 0)], [(0, .box 24 [.int .i64 w, .int .i64 h, .ro (.bools q)]), (1, .box 41 [.int .i64 least, .int .i64 gx, .int .i64 gy, .int .i64 line, .int .i64 word]), (2, .row 53 (bks ((L.take k).map (layBk q w line word)))), (3, .row 55 (lns ((R.take j).map (layLn q w word)))), (4, .box 53 [.int .i64 bx, .int .i64 by', .int .i64 bw, .int .i64 bh, .own 3])], 5⟩) (fun j => j ≤ R.length) (fun j => R.length - j) 0 ?_ (Nat.zero_le _) fun j hj => ?_
    · refine Ent.trans (Ent.nilBox (P := Tryz.prog) 4 4 55 e55 rfl rfl) (Ent.auto0 rfl ?_ ?_) <;> simp only [go_sem, reduceCtorEq, reduceIte, Nat.reduceEqDiff, Nat.reduceLT, Nat.reduceLeDiff, Int.natCast_succ, zrow, put, List.set_cons_zero, List.set_cons_succ, Nat.zero_mul, List.range_zero, List.map_nil, List.replicate_zero, List.take_zero]
    by_cases hjl : j < R.length
    · have hel := nb_elem R hjl
      have hml : R.getD j Nb.zero ∈ R := by rw [getD_lt hjl]; exact List.getElem_mem hjl
      have htl : ((R.take (j + 1)).map (layLn q w word)).map Ln.av = ((R.take j).map (layLn q w word)).map Ln.av ++ [(layLn q w word (R.getD j Nb.zero)).av] := by
        rw [List.take_succ_eq_append_getElem hjl, getD_lt hjl, List.map_append, List.map_append]; rfl
      have hpl := hRp _ hml
      have hil2 := hRi _ hml
      generalize R.getD j Nb.zero = l at *
      have hil : InP l w h := hib.of hpl
      have hlw := ink_w q w hil2
      have hlh := ink_h q w hil2
      have kG := rgap_ok w h (by omega) (by omega) q hql l hil
      obtain ⟨g0, hg0, hg1, hg2⟩ := gapV_bd q w l (by unfold InP at hil; omega)
      have hlg : layLn q w word l = ⟨l, lowOf (bots (cutP q w l) l.w l.h) + l.y, (linesC q w l (if word = 0 then g0 else word)).map (wordBox q w l)⟩ := by
        unfold layLn lineWords lineGap; rw [hg0, Int.toNat_natCast]
      rw [hg0] at kG
      have kBs := rbase_ok w h (by omega) (by omega) q hql l hil hlw hlh
      have kW0 := WordsIn_ok w h (by omega) (by omega) q hql l hil g0 hg2
      have kW1 := fun h0 : ¬ word = 0 => WordsIn_ok w h (by omega) (by omega) q hql l hil word hwd
      rw [hlg] at htl
      generalize lowOf (bots (cutP q w l) l.w l.h) = bs at *
      have hll : (R.take j).length = j := by rw [List.length_take]; omega
      obtain ⟨lx, ly, lw, lh⟩ := l
      dsimp only [Nb.av] at kG kBs kW0 kW1
      dsimp only at hel
      rw [show ∀ b s W, (⟨b, s, W⟩ : Ln).av = [.int .i64 b.x, .int .i64 b.y, .int .i64 b.w, .int .i64 b.h, .int .i64 s, .ro (nbs W)] from fun _ _ _ => rfl] at htl
      dsimp only at htl
      by_cases hw0 : word = 0
      · rw [if_pos hw0] at htl
        generalize (linesC q w ⟨lx, ly, lw, lh⟩ g0).map (wordBox q w ⟨lx, ly, lw, lh⟩) = W at *
        refine VcRun.of ?_
        (repeat' first | with_reducible (first | intro _ | refine rc ?_ | refine rl ?_ | refine rh ?_ | refine rt ?_ | refine rf ?_ | refine rs ?_ | refine And.intro ?_ ?_) | omega | simp (maxSteps := 1000000) only [go_sem, simprocAttr, ↓reduceIte, List.length_map, elemA, hel])
        refine VcCall.k kG ?_
        (repeat' first | with_reducible (first | intro _ | refine rc ?_ | refine rl ?_ | refine rh ?_ | refine rt ?_ | refine rf ?_ | refine rs ?_ | refine And.intro ?_ ?_) | omega | simp (maxSteps := 1000000) only [go_sem, simprocAttr, ↓reduceIte])
        refine VcDraw.lex [11, 12, 14] [(0, [1]), (1, [1])] (by kernel_rfl) (by kernel_rfl) ?_
        (repeat' first | with_reducible (first | intro _ | refine rc ?_ | refine rl ?_ | refine rh ?_ | refine rt ?_ | refine rf ?_ | refine rs ?_ | refine And.intro ?_ ?_) | omega | simp (maxSteps := 1000000) only [go_sem, simprocAttr, ↓reduceIte])
        (refine QV.intro (.int .i64 (bs + ly)) ?_ ?_; focus ((repeat' first | with_reducible (first | intro _ | refine rc ?_ | refine rl ?_ | refine rh ?_ | refine rt ?_ | refine rf ?_ | refine rs ?_ | refine And.intro ?_ ?_) | omega | simp (maxSteps := 1000000) only [go_sem, simprocAttr, ↓reduceIte]); refine VcCall.k (kBs) ?_; (repeat' first | with_reducible (first | intro _ | refine rc ?_ | refine rl ?_ | refine rh ?_ | refine rt ?_ | refine rf ?_ | refine rs ?_ | refine And.intro ?_ ?_) | omega | simp (maxSteps := 1000000) only [go_sem, simprocAttr, ↓reduceIte])))
        (repeat' first | with_reducible (first | intro _ | refine rc ?_ | refine rl ?_ | refine rh ?_ | refine rt ?_ | refine rf ?_ | refine rs ?_ | refine And.intro ?_ ?_) | omega | simp (maxSteps := 1000000) only [go_sem, simprocAttr, ↓reduceIte])
        refine QV.intro (.ro (nbs W)) ?_ ?_
        · (repeat' first | with_reducible (first | intro _ | refine rc ?_ | refine rl ?_ | refine rh ?_ | refine rt ?_ | refine rf ?_ | refine rs ?_ | refine And.intro ?_ ?_) | omega | simp (maxSteps := 1000000) only [go_sem, simprocAttr, ↓reduceIte])
          refine VcCall.ro (.ro (nbs W)) (FnFr.of_ok kW0 rfl (by simp [noRoRows, noRoItem, noRoRow, nbs, Nb.av, noRoL, noRo])) (by simp only [noIdR_ok, argOkL, argOk, allOk, argOkN, List.drop_zero, lk, reduceIte, reduceCtorEq, Nat.reduceEqDiff, Option.some.injEq, Item.row.injEq, Item.box.injEq, AV.ro.injEq, exists_eq_left, exists_and_left, exists_eq_left', exists_eq_right, and_assoc, and_true, true_and, List.cons.injEq, exists_eq', exists_eq]) (by simp [outOk, argOkL, allOk, argOk, argOkN, lk, noIdR_ok, nbs]) rfl ?_
          (repeat' first | with_reducible (first | intro _ | refine rc ?_ | refine rl ?_ | refine rh ?_ | refine rt ?_ | refine rf ?_ | refine rs ?_ | refine And.intro ?_ ?_) | omega | simp (maxSteps := 1000000) only [go_sem, simprocAttr, ↓reduceIte])
        (repeat' first | with_reducible (first | intro _ | refine rc ?_ | refine rl ?_ | refine rh ?_ | refine rt ?_ | refine rf ?_ | refine rs ?_ | refine And.intro ?_ ?_) | omega | simp (maxSteps := 1000000) only [go_sem, simprocAttr, ↓reduceIte, List.length_map])
        refine ⟨j + 1, Ent.auto0 rfl ?_ ?_, by omega, by omega⟩ <;> simp only [go_sem, reduceCtorEq, reduceIte, Nat.reduceEqDiff, Nat.reduceLT, Nat.reduceLeDiff, Int.natCast_succ, htl]
      · rw [if_neg hw0] at htl
        have kW1 := kW1 hw0
        generalize (linesC q w ⟨lx, ly, lw, lh⟩ word).map (wordBox q w ⟨lx, ly, lw, lh⟩) = W at *
        refine VcRun.of ?_
        (repeat' first | with_reducible (first | intro _ | refine rc ?_ | refine rl ?_ | refine rh ?_ | refine rt ?_ | refine rf ?_ | refine rs ?_ | refine And.intro ?_ ?_) | omega | simp (maxSteps := 1000000) only [go_sem, simprocAttr, ↓reduceIte, List.length_map, elemA, hel])
        refine VcDraw.lex [11, 12, 14] [(0, [1]), (1, [1])] (by kernel_rfl) (by kernel_rfl) ?_
        (repeat' first | with_reducible (first | intro _ | refine rc ?_ | refine rl ?_ | refine rh ?_ | refine rt ?_ | refine rf ?_ | refine rs ?_ | refine And.intro ?_ ?_) | omega | simp (maxSteps := 1000000) only [go_sem, simprocAttr, ↓reduceIte])
        (refine QV.intro (.int .i64 (bs + ly)) ?_ ?_; focus ((repeat' first | with_reducible (first | intro _ | refine rc ?_ | refine rl ?_ | refine rh ?_ | refine rt ?_ | refine rf ?_ | refine rs ?_ | refine And.intro ?_ ?_) | omega | simp (maxSteps := 1000000) only [go_sem, simprocAttr, ↓reduceIte]); refine VcCall.k (kBs) ?_; (repeat' first | with_reducible (first | intro _ | refine rc ?_ | refine rl ?_ | refine rh ?_ | refine rt ?_ | refine rf ?_ | refine rs ?_ | refine And.intro ?_ ?_) | omega | simp (maxSteps := 1000000) only [go_sem, simprocAttr, ↓reduceIte])))
        (repeat' first | with_reducible (first | intro _ | refine rc ?_ | refine rl ?_ | refine rh ?_ | refine rt ?_ | refine rf ?_ | refine rs ?_ | refine And.intro ?_ ?_) | omega | simp (maxSteps := 1000000) only [go_sem, simprocAttr, ↓reduceIte])
        refine QV.intro (.ro (nbs W)) ?_ ?_
        · (repeat' first | with_reducible (first | intro _ | refine rc ?_ | refine rl ?_ | refine rh ?_ | refine rt ?_ | refine rf ?_ | refine rs ?_ | refine And.intro ?_ ?_) | omega | simp (maxSteps := 1000000) only [go_sem, simprocAttr, ↓reduceIte])
          refine VcCall.ro (.ro (nbs W)) (FnFr.of_ok kW1 rfl (by simp [noRoRows, noRoItem, noRoRow, nbs, Nb.av, noRoL, noRo])) (by simp only [noIdR_ok, argOkL, argOk, allOk, argOkN, List.drop_zero, lk, reduceIte, reduceCtorEq, Nat.reduceEqDiff, Option.some.injEq, Item.row.injEq, Item.box.injEq, AV.ro.injEq, exists_eq_left, exists_and_left, exists_eq_left', exists_eq_right, and_assoc, and_true, true_and, List.cons.injEq, exists_eq', exists_eq]) (by simp [outOk, argOkL, allOk, argOk, argOkN, lk, noIdR_ok, nbs]) rfl ?_
          (repeat' first | with_reducible (first | intro _ | refine rc ?_ | refine rl ?_ | refine rh ?_ | refine rt ?_ | refine rf ?_ | refine rs ?_ | refine And.intro ?_ ?_) | omega | simp (maxSteps := 1000000) only [go_sem, simprocAttr, ↓reduceIte])
        (repeat' first | with_reducible (first | intro _ | refine rc ?_ | refine rl ?_ | refine rh ?_ | refine rt ?_ | refine rf ?_ | refine rs ?_ | refine And.intro ?_ ?_) | omega | simp (maxSteps := 1000000) only [go_sem, simprocAttr, ↓reduceIte, List.length_map])
        refine ⟨j + 1, Ent.auto0 rfl ?_ ?_, by omega, by omega⟩ <;> simp only [go_sem, reduceCtorEq, reduceIte, Nat.reduceEqDiff, Nat.reduceLT, Nat.reduceLeDiff, Int.natCast_succ, htl]
    · have e : j = R.length := by omega
      subst e
      rw [List.take_length]
      refine VcRun.of ?_
      (repeat' first | with_reducible (first | intro _ | refine rc ?_ | refine rl ?_ | refine rh ?_ | refine rt ?_ | refine rf ?_ | refine rs ?_ | refine And.intro ?_ ?_) | omega | simp (maxSteps := 1000000) only [go_sem, simprocAttr, ↓reduceIte])
      refine ⟨k + 1, Ent.auto0 rfl ?_ ?_, by omega, by omega⟩ <;> simp only [go_sem, reduceCtorEq, reduceIte, Nat.reduceEqDiff, Nat.reduceLT, Nat.reduceLeDiff, Int.natCast_succ, hts]
  · have e : k = L.length := by omega
    subst e
    rw [List.take_length]
    (repeat' first | with_reducible (first | intro _ | refine rc ?_ | refine rl ?_ | refine rh ?_ | refine rt ?_ | refine rf ?_ | refine rs ?_ | refine And.intro ?_ ?_) | omega | simp (maxSteps := 1000000) only [go_sem, simprocAttr, ↓reduceIte])
    refine Ret.auto 1 ?_ rfl ?_ <;> simp only [go_sem, reduceCtorEq, reduceIte, Nat.reduceEqDiff, Nat.reduceLT, Nat.reduceLeDiff, Int.natCast_succ, Post]
end Go.Fv.Q
