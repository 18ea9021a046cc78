/-
  A part of the proof of the claim: walks over the program's functions and the plain laws that these need. No condition of its own.
-/
import Derived.Test.YtingcghleidhmaaGreatDoorQLayoutsMatchCardPart3
import Derived.Test.YtingcghleidhmaaGreatDoorQLayoutsMatchCardPart2
import Derived.Test.YtingcghleidhmaaGreatDoorFvPart10
import Derived.Test.YtingcghleidhmaaGreatDoorQLayoutsMatchCardPart5
import Derived.Test.YtingcghleidhmaaGreatDoorQLayoutsMatchCardPart1
import Derived.Test.YtingcghleidhmaaGreatDoorFvPart9
import Derived.Test.YtingcghleidhmaaGreatDoorQLayoutsMatchCardPart6
/-! Cutting: the walk. -/
namespace Go.Fv.Q
open Go Go.Proofs
set_option linter.unusedSimpArgs false
set_option linter.unusedVariables false
set_option linter.unnecessarySimpa false
set_option maxRecDepth 8000

theorem covC2 {a b : Item} : ∀ j, j < 2 → ∃ it, lk [(0, a), (1, b)] j = some it
  | 0, _ => ⟨_, rfl⟩
  | 1, _ => ⟨_, rfl⟩
  | _ + 2, h => absurd h (by omega)
def CutIO (p : List Bool) (w h gx gy : Nat) (b : Nb) (l r : List Nb) : Prop :=
  FnIO Tryz.prog 79 [.ptr 0 0, .agg b.av] [(0, .box 96 (ctr p w h gx gy (.own 1))), (1, .row 26 (nbs l))] 2 (.bool true) [(0, .box 96 (ctr p w h gx gy (.own 2))), (2, .row 26 (nbs r))]
set_option maxHeartbeats 4000000 in
theorem cut_none (p : List Bool) (w h : Nat) (hw : w ≤ 4000) (hh : h ≤ 4000) (gx gy : Nat) (l : List Nb) (b : Nb) (hb : InP b w h) (hi : inkB p w b = 0) : CutIO p w h gx gy b l l := by
  have k := tight_no p w h hw hh gx gy l b hb hi
  unfold CutIO
  simp only [ctr, Nb.av] at *
  generalize sumL p w h = sc at *
  refine FnIO.of_vc Tryz.func79 rfl (by decide) (by simp [Tryz.f79]) covC2 [.tmp 4] rfl fun w0 T0 _ => ?_
  simp only [Tryz.f79, argEnv]
  (repeat' first | with_reducible (first | intro _ | refine rc ?_ | refine rl ?_ | refine rh ?_ | refine rt ?_ | refine rf ?_ | refine rs ?_ | refine And.intro ?_ ?_) | omega | simp (maxSteps := 1000000) only [go_sem, simprocAttr, ↓reduceIte])
  refine VcCall.fr (FnFr.of_ok k rfl rfl) (by simp only [noIdR_ok, argOkL, argOk, allOk, argOkN, List.drop_zero, lk, reduceIte, reduceCtorEq, Nat.reduceEqDiff, Option.some.injEq, Item.row.injEq, Item.box.injEq, AV.ro.injEq, exists_eq_left, exists_and_left, exists_eq_left', exists_eq_right, and_assoc, and_true, true_and, List.cons.injEq, exists_eq', exists_eq, nbs, noIdR_ok]) 0 rfl (by simp [rowsB]) ?_
  (repeat' first | with_reducible (first | intro _ | refine rc ?_ | refine rl ?_ | refine rh ?_ | refine rt ?_ | refine rf ?_ | refine rs ?_ | refine And.intro ?_ ?_) | omega | simp (maxSteps := 1000000) only [go_sem, simprocAttr, ↓reduceIte])
  refine RetK.of [(2, 1)] 3 (by decide) (by decide) ?_ rfl ?_ <;> simp only [go_sem, reduceCtorEq, reduceIte, Nat.reduceEqDiff, Nat.reduceLT, Nat.reduceLeDiff, Int.natCast_succ, nbs, renR_ok, belowR_ok]
instance (p : List Bool) (w h gx gy : Nat) (l : List Nb) (t : Nb) : CapsOk [.cell [.cell (ctr p w h gx gy (.ro (nbs l)))], .cell t.av] := ⟨by simp [ctr, sumL, Nb.av, lendB, nbs, noIdR_ok]⟩
set_option maxHeartbeats 4000000 in
theorem cut_some (p : List Bool) (w h : Nat) (hw : w ≤ 4000) (hh : h ≤ 4000) (gx gy : Nat) (hgx : gx ≤ 4000) (hgy : gy ≤ 4000) (l : List Nb) (b t : Nb) (hb : InP b w h) (hi : 0 < inkB p w b) (ht : tightB p w b = t) (htp : InP t w h) (c r : Nat × Nat) (hc : cutC p w t gx = c) (hr : cutR p w t gy = r) (res : List Nb) (hrl : res.length ≤ 5000)
    (hA : c.2 = 0 ∧ r.2 = 0 → res = l ++ [t]) (hB : ¬ (c.2 = 0 ∧ r.2 = 0) → atCols c r gx gy → ∃ l1, CutIO p w h gx gy (firstC t c) l l1 ∧ CutIO p w h gx gy (secondC t c) l1 res)
    (hC : ¬ (c.2 = 0 ∧ r.2 = 0) → ¬ atCols c r gx gy → ∃ l1, CutIO p w h gx gy (firstR t r) l l1 ∧ CutIO p w h gx gy (secondR t r) l1 res) : CutIO p w h gx gy b l res := by
  have kT := tight_ok p w h hw hh gx gy l b hb hi
  rw [ht] at kT
  have kS1 := stretches_ok t.x (t.x + t.w) (by omega) (by unfold InP at htp; omega) 112 [.cell [.cell (ctr p w h gx gy (.ro (nbs l)))], .cell t.av] (colE p w t) fun i h1 h2 => FnFr.of_ok (cutA_ok p w h hw hh gx gy l t i (by unfold InP at htp; omega) htp) rfl rfl
  have kS2 := stretches_ok t.y (t.y + t.h) (by omega) (by unfold InP at htp; omega) 113 [.cell [.cell (ctr p w h gx gy (.ro (nbs l)))], .cell t.av] (rowE p w t) fun i h1 h2 => FnFr.of_ok (cutB_ok p w h hw hh gx gy l t i (by unfold InP at htp; omega) htp) rfl rfl
  rw [Nat.add_sub_cancel_left] at kS1 kS2
  have b1 : ∀ s, s ∈ strs (colE p w t) t.w t.x → s.1 ≤ 10000 ∧ s.2 ≤ 10000 := fun s hs => by
    have := strs_mem _ _ _ _ hs
    unfold InP at htp; omega
  have b2 : ∀ s, s ∈ strs (rowE p w t) t.h t.y → s.1 ≤ 10000 ∧ s.2 ≤ 10000 := fun s hs => by
    have := strs_mem _ _ _ _ hs
    unfold InP at htp; omega
  have kW1 := widest_ok (strs (colE p w t) t.w t.x) (by have := strs_len (colE p w t) t.w t.x; unfold InP at htp; omega) gx hgx b1
  have kW2 := widest_ok (strs (rowE p w t) t.h t.y) (by have := strs_len (rowE p w t) t.h t.y; unfold InP at htp; omega) gy hgy b2
  have hc' : widest gx (strs (colE p w t) t.w t.x) = c := hc
  have hr' : widest gy (strs (rowE p w t) t.h t.y) = r := hr
  rw [hc'] at kW1
  rw [hr'] at kW2
  have hc1 : c.1 ≤ 10000 ∧ c.2 ≤ 10000 := by rw [← hc']; exact wide_bd b1 ⟨by decide, by decide⟩
  have hr1 : r.1 ≤ 10000 ∧ r.2 ≤ 10000 := by rw [← hr']; exact wide_bd b2 ⟨by decide, by decide⟩
  have hc2 : c.2 ≠ 0 → t.x ≤ c.1 ∧ c.1 + c.2 ≤ t.x + t.w := fun h0 => by rw [← hc] at h0 ⊢; exact ⟨(cutC_spec p w h0).1, (cutC_spec p w h0).2.1⟩
  have hr2 : r.2 ≠ 0 → t.y ≤ r.1 ∧ r.1 + r.2 ≤ t.y + t.h := fun h0 => by rw [← hr] at h0 ⊢; exact ⟨(cutR_spec p w h0).1, (cutR_spec p w h0).2.1⟩
  have kA := atColumns_ok c r gx gy hc1 hr1 hgx hgy
  generalize strs (colE p w t) t.w t.x = L1 at *
  generalize strs (rowE p w t) t.h t.y = L2 at *
  obtain ⟨c1, c2⟩ := c
  obtain ⟨r1, r2⟩ := r
  obtain ⟨tx, ty, tw, th⟩ := t
  obtain ⟨bx, by', bw, bh⟩ := b
  simp only [CutIO, ctr, Nb.av, stAv, firstC, secondC, firstR, secondR] at *
  have htp' := htp
  unfold InP at htp'
  dsimp only at htp'
  generalize sumL p w h = sc at *
  refine FnIO.of_vc Tryz.func79 rfl (by decide) (by simp [Tryz.f79]) covC2 [.tmp 4] rfl fun w0 T0 _ => ?_
  simp only [Tryz.f79, argEnv]
  (repeat' first | with_reducible (first | intro _ | refine rc ?_ | refine rl ?_ | refine rh ?_ | refine rt ?_ | refine rf ?_ | refine rs ?_ | refine And.intro ?_ ?_) | omega | simp (maxSteps := 1000000) only [go_sem, simprocAttr, ↓reduceIte])
  refine VcCall.fr (FnFr.of_ok kT rfl rfl) (by simp only [noIdR_ok, argOkL, argOk, allOk, argOkN, List.drop_zero, lk, reduceIte, reduceCtorEq, Nat.reduceEqDiff, Option.some.injEq, Item.row.injEq, Item.box.injEq, AV.ro.injEq, exists_eq_left, exists_and_left, exists_eq_left', exists_eq_right, and_assoc, and_true, true_and, List.cons.injEq, exists_eq', exists_eq, nbs, noIdR_ok]) 0 rfl (by simp [rowsB]) ?_
  (repeat' first | with_reducible (first | intro _ | refine rc ?_ | refine rl ?_ | refine rh ?_ | refine rt ?_ | refine rf ?_ | refine rs ?_ | refine And.intro ?_ ?_) | omega | simp (maxSteps := 1000000) only [go_sem, simprocAttr, ↓reduceIte])
  refine VcDraw.lex [14, 15] [(0, [1]), (1, [1]), (2, [1]), (3, [1]), (4, [1]), (5, [1]), (6, [1]), (7, [1]), (8, [1]), (9, [1]), (10, [1]), (11, [1]), (12, [1]), (13, [1])] (by kernel_rfl) (by kernel_rfl) ?_
  (repeat' first | with_reducible (first | intro _ | refine rc ?_ | refine rl ?_ | refine rh ?_ | refine rt ?_ | refine rf ?_ | refine rs ?_ | refine And.intro ?_ ?_) | omega | simp (maxSteps := 1000000) only [go_sem, simprocAttr, ↓reduceIte])
  refine QV.intro (.ro (stR L1)) ?_ ?_
  · (repeat' first | with_reducible (first | intro _ | refine rc ?_ | refine rl ?_ | refine rh ?_ | refine rt ?_ | refine rf ?_ | refine rs ?_ | refine And.intro ?_ ?_) | omega | simp (maxSteps := 1000000) only [go_sem, simprocAttr, ↓reduceIte])
    refine VcCall.ro (.ro (stR L1)) (FnFr.of_ok kS1 rfl (by simp [noRoRows, noRoItem, noRoRow, noRoL, noRo, stR, stAv])) (by simp only [noIdR_ok, argOkL, argOk, allOk, argOkN, List.drop_zero, lk, reduceIte, reduceCtorEq, Nat.reduceEqDiff, Option.some.injEq, Item.row.injEq, Item.box.injEq, AV.ro.injEq, exists_eq_left, exists_and_left, exists_eq_left', exists_eq_right, and_assoc, and_true, true_and, List.cons.injEq, exists_eq', exists_eq, nbs, noIdR_ok, Int.natCast_add]) (by simp [outOk, argOkL, allOk, argOk, argOkN, lk, noIdR_ok, stR]) rfl ?_
    (repeat' first | with_reducible (first | intro _ | refine rc ?_ | refine rl ?_ | refine rh ?_ | refine rt ?_ | refine rf ?_ | refine rs ?_ | refine And.intro ?_ ?_) | omega | simp (maxSteps := 1000000) only [go_sem, simprocAttr, ↓reduceIte])
  (repeat' first | with_reducible (first | intro _ | refine rc ?_ | refine rl ?_ | refine rh ?_ | refine rt ?_ | refine rf ?_ | refine rs ?_ | refine And.intro ?_ ?_) | omega | simp (maxSteps := 1000000) only [go_sem, simprocAttr, ↓reduceIte])
  refine QV.intro (.agg [.int .i64 c1, .int .i64 c2]) ?_ ?_
  · (repeat' first | with_reducible (first | intro _ | refine rc ?_ | refine rl ?_ | refine rh ?_ | refine rt ?_ | refine rf ?_ | refine rs ?_ | refine And.intro ?_ ?_) | omega | simp (maxSteps := 1000000) only [go_sem, simprocAttr, ↓reduceIte])
    refine VcCall.fr (FnFr.of_ok kW1 rfl rfl) (by simp only [noIdR_ok, argOkL, argOk, allOk, argOkN, List.drop_zero, lk, reduceIte, reduceCtorEq, Nat.reduceEqDiff, Option.some.injEq, Item.row.injEq, Item.box.injEq, AV.ro.injEq, exists_eq_left, exists_and_left, exists_eq_left', exists_eq_right, and_assoc, and_true, true_and, List.cons.injEq, exists_eq', exists_eq, stR, noIdR_ok]) 0 rfl (by simp [rowsB]) ?_
    (repeat' first | with_reducible (first | intro _ | refine rc ?_ | refine rl ?_ | refine rh ?_ | refine rt ?_ | refine rf ?_ | refine rs ?_ | refine And.intro ?_ ?_) | omega | simp (maxSteps := 1000000) only [go_sem, simprocAttr, ↓reduceIte])
  (repeat' first | with_reducible (first | intro _ | refine rc ?_ | refine rl ?_ | refine rh ?_ | refine rt ?_ | refine rf ?_ | refine rs ?_ | refine And.intro ?_ ?_) | omega | simp (maxSteps := 1000000) only [go_sem, simprocAttr, ↓reduceIte])
  · refine VcCall.fr (FnFr.of_ok kW1 rfl rfl) (by simp only [noIdR_ok, argOkL, argOk, allOk, argOkN, List.drop_zero, lk, reduceIte, reduceCtorEq, Nat.reduceEqDiff, Option.some.injEq, Item.row.injEq, Item.box.injEq, AV.ro.injEq, exists_eq_left, exists_and_left, exists_eq_left', exists_eq_right, and_assoc, and_true, true_and, List.cons.injEq, exists_eq', exists_eq, stR, noIdR_ok]) 0 rfl (by simp [rowsB]) ?_
    (repeat' first | with_reducible (first | intro _ | refine rc ?_ | refine rl ?_ | refine rh ?_ | refine rt ?_ | refine rf ?_ | refine rs ?_ | refine And.intro ?_ ?_) | omega | simp (maxSteps := 1000000) only [go_sem, simprocAttr, ↓reduceIte])
  · refine VcCall.ro (.ro (stR L1)) (FnFr.of_ok kS1 rfl (by simp [noRoRows, noRoItem, noRoRow, noRoL, noRo, stR, stAv])) (by simp only [noIdR_ok, argOkL, argOk, allOk, argOkN, List.drop_zero, lk, reduceIte, reduceCtorEq, Nat.reduceEqDiff, Option.some.injEq, Item.row.injEq, Item.box.injEq, AV.ro.injEq, exists_eq_left, exists_and_left, exists_eq_left', exists_eq_right, and_assoc, and_true, true_and, List.cons.injEq, exists_eq', exists_eq, nbs, noIdR_ok, Int.natCast_add]) (by simp [outOk, argOkL, allOk, argOk, argOkN, lk, noIdR_ok, stR]) rfl ?_
    (repeat' first | with_reducible (first | intro _ | refine rc ?_ | refine rl ?_ | refine rh ?_ | refine rt ?_ | refine rf ?_ | refine rs ?_ | refine And.intro ?_ ?_) | omega | simp (maxSteps := 1000000) only [go_sem, simprocAttr, ↓reduceIte])
  refine VcDraw.lex [14, 15] [(0, [1]), (1, [1]), (2, [1]), (3, [1]), (4, [1]), (5, [1]), (6, [1]), (7, [1]), (8, [1]), (9, [1]), (10, [1]), (11, [1]), (12, [1]), (13, [1])] (by kernel_rfl) (by kernel_rfl) ?_
  (repeat' first | with_reducible (first | intro _ | refine rc ?_ | refine rl ?_ | refine rh ?_ | refine rt ?_ | refine rf ?_ | refine rs ?_ | refine And.intro ?_ ?_) | omega | simp (maxSteps := 1000000) only [go_sem, simprocAttr, ↓reduceIte])
  refine QV.intro (.ro (stR L2)) ?_ ?_
  · (repeat' first | with_reducible (first | intro _ | refine rc ?_ | refine rl ?_ | refine rh ?_ | refine rt ?_ | refine rf ?_ | refine rs ?_ | refine And.intro ?_ ?_) | omega | simp (maxSteps := 1000000) only [go_sem, simprocAttr, ↓reduceIte])
    refine VcCall.ro (.ro (stR L2)) (FnFr.of_ok kS2 rfl (by simp [noRoRows, noRoItem, noRoRow, noRoL, noRo, stR, stAv])) (by simp only [noIdR_ok, argOkL, argOk, allOk, argOkN, List.drop_zero, lk, reduceIte, reduceCtorEq, Nat.reduceEqDiff, Option.some.injEq, Item.row.injEq, Item.box.injEq, AV.ro.injEq, exists_eq_left, exists_and_left, exists_eq_left', exists_eq_right, and_assoc, and_true, true_and, List.cons.injEq, exists_eq', exists_eq, nbs, noIdR_ok, Int.natCast_add]) (by simp [outOk, argOkL, allOk, argOk, argOkN, lk, noIdR_ok, stR]) rfl ?_
    (repeat' first | with_reducible (first | intro _ | refine rc ?_ | refine rl ?_ | refine rh ?_ | refine rt ?_ | refine rf ?_ | refine rs ?_ | refine And.intro ?_ ?_) | omega | simp (maxSteps := 1000000) only [go_sem, simprocAttr, ↓reduceIte])
  (repeat' first | with_reducible (first | intro _ | refine rc ?_ | refine rl ?_ | refine rh ?_ | refine rt ?_ | refine rf ?_ | refine rs ?_ | refine And.intro ?_ ?_) | omega | simp (maxSteps := 1000000) only [go_sem, simprocAttr, ↓reduceIte])
  refine QV.intro (.agg [.int .i64 r1, .int .i64 r2]) ?_ ?_
  · (repeat' first | with_reducible (first | intro _ | refine rc ?_ | refine rl ?_ | refine rh ?_ | refine rt ?_ | refine rf ?_ | refine rs ?_ | refine And.intro ?_ ?_) | omega | simp (maxSteps := 1000000) only [go_sem, simprocAttr, ↓reduceIte])
    refine VcCall.fr (FnFr.of_ok kW2 rfl rfl) (by simp only [noIdR_ok, argOkL, argOk, allOk, argOkN, List.drop_zero, lk, reduceIte, reduceCtorEq, Nat.reduceEqDiff, Option.some.injEq, Item.row.injEq, Item.box.injEq, AV.ro.injEq, exists_eq_left, exists_and_left, exists_eq_left', exists_eq_right, and_assoc, and_true, true_and, List.cons.injEq, exists_eq', exists_eq, stR, noIdR_ok]) 0 rfl (by simp [rowsB]) ?_
    (repeat' first | with_reducible (first | intro _ | refine rc ?_ | refine rl ?_ | refine rh ?_ | refine rt ?_ | refine rf ?_ | refine rs ?_ | refine And.intro ?_ ?_) | omega | simp (maxSteps := 1000000) only [go_sem, simprocAttr, ↓reduceIte])
  (repeat' first | with_reducible (first | intro _ | refine rc ?_ | refine rl ?_ | refine rh ?_ | refine rt ?_ | refine rf ?_ | refine rs ?_ | refine And.intro ?_ ?_) | omega | simp (maxSteps := 1000000) only [go_sem, simprocAttr, ↓reduceIte])
  · refine VcCall.fr (FnFr.of_ok kW2 rfl rfl) (by simp only [noIdR_ok, argOkL, argOk, allOk, argOkN, List.drop_zero, lk, reduceIte, reduceCtorEq, Nat.reduceEqDiff, Option.some.injEq, Item.row.injEq, Item.box.injEq, AV.ro.injEq, exists_eq_left, exists_and_left, exists_eq_left', exists_eq_right, and_assoc, and_true, true_and, List.cons.injEq, exists_eq', exists_eq, stR, noIdR_ok]) 0 rfl (by simp [rowsB]) ?_
    (repeat' first | with_reducible (first | intro _ | refine rc ?_ | refine rl ?_ | refine rh ?_ | refine rt ?_ | refine rf ?_ | refine rs ?_ | refine And.intro ?_ ?_) | omega | simp (maxSteps := 1000000) only [go_sem, simprocAttr, ↓reduceIte])
  · refine VcCall.ro (.ro (stR L2)) (FnFr.of_ok kS2 rfl (by simp [noRoRows, noRoItem, noRoRow, noRoL, noRo, stR, stAv])) (by simp only [noIdR_ok, argOkL, argOk, allOk, argOkN, List.drop_zero, lk, reduceIte, reduceCtorEq, Nat.reduceEqDiff, Option.some.injEq, Item.row.injEq, Item.box.injEq, AV.ro.injEq, exists_eq_left, exists_and_left, exists_eq_left', exists_eq_right, and_assoc, and_true, true_and, List.cons.injEq, exists_eq', exists_eq, nbs, noIdR_ok, Int.natCast_add]) (by simp [outOk, argOkL, allOk, argOk, argOkN, lk, noIdR_ok, stR]) rfl ?_
    (repeat' first | with_reducible (first | intro _ | refine rc ?_ | refine rl ?_ | refine rh ?_ | refine rt ?_ | refine rf ?_ | refine rs ?_ | refine And.intro ?_ ?_) | omega | simp (maxSteps := 1000000) only [go_sem, simprocAttr, ↓reduceIte])
  refine VcDraw.forkCut (.quiet 0 (.quiet 1 (.eff 2 [1, 0] (.eff 3 [1, 0] (.eff 4 [1] (.eff 5 [] .done .none) .none) .none) (.eff 3 [1, 0] (.eff 2 [1, 0] (.eff 4 [1] (.eff 5 [] .done .none) .none) .none) .none)))) (by kernel_rfl) (by kernel_rfl) (by kernel_rfl) ⟨137, [(2, .ptr 2 0), (3, .ptr 3 0), (6, .ptr 4 0), (7, .ptr 5 0), (8, .ptr 6 0), (9, .ptr 7 0)], [(0, .box 96 [.int .i64 w, .int .i64 h, .ro (.bools p), .cell sc, .int .i64 gx, .int .i64 gy, .own 1]), (1, .row 26 (nbs l)), (2, .box 60 [.ptr 0 0]), (3, .box 26 [.int .i64 tx, .int .i64 ty, .int .i64 tw, .int .i64 th]), (4, .box 114 [.int .i64 c1, .int .i64 c2]), (5, .box 114 [.int .i64 r1, .int .i64 r2]), (6, .box 26 [.int .i64 tx, .int .i64 ty, .int .i64 tw, .int .i64 th]), (7, .box 26 [.int .i64 tx, .int .i64 ty, .int .i64 tw, .int .i64 th])], 8⟩ ?_ ?_
  · (repeat' first | with_reducible (first | intro _ | refine rc ?_ | refine rl ?_ | refine rh ?_ | refine rt ?_ | refine rf ?_ | refine rs ?_ | refine And.intro ?_ ?_) | omega | simp (maxSteps := 1000000) only [go_sem, simprocAttr, ↓reduceIte])
    all_goals refine Ent.autoK 2 rfl (by show 2 ≤ 8; decide) ?_ ?_ <;> simp only [go_sem, reduceCtorEq, reduceIte, Nat.reduceEqDiff, Nat.reduceLT, Nat.reduceLeDiff, Int.natCast_succ, fromL, nbs, renR_ok, belowR_ok]
  (repeat' first | with_reducible (first | intro _ | refine rc ?_ | refine rl ?_ | refine rh ?_ | refine rt ?_ | refine rf ?_ | refine rs ?_ | refine And.intro ?_ ?_) | omega | simp (maxSteps := 1000000) only [go_sem, simprocAttr, ↓reduceIte])
  · rename_i h0
    have hres := hA (by omega)
    subst hres
    have hl5 : l.length + 1 ≤ 5000 := by simpa using hrl
    refine VcDraw.lex [6, 7, 10] [(0, [1, 2]), (1, [1]), (2, [1]), (3, [1]), (4, [1])] (by kernel_rfl) (by kernel_rfl) ?_
    (repeat' first | with_reducible (first | intro _ | refine rc ?_ | refine rl ?_ | refine rh ?_ | refine rt ?_ | refine rf ?_ | refine rs ?_ | refine And.intro ?_ ?_) | omega | simp (maxSteps := 1000000) only [go_sem, simprocAttr, ↓reduceIte, nbs, List.length_map])
    have hd : decide (((l.length + 1 : Nat) : Int) ≤ 5000) = true := decide_eq_true (by omega)
    refine RetK.of [(2, 9)] 3 (by decide) (by decide) ?_ rfl ?_ <;> simp only [go_sem, reduceCtorEq, reduceIte, Nat.reduceEqDiff, Nat.reduceLT, Nat.reduceLeDiff, Int.natCast_succ, hd, nbs, renR_ok, belowR_ok, List.map_append, List.map_cons, List.map_nil, Nb.av]
    omega
  · rename_i h0
    have h0' : ¬ (c2 = 0 ∧ r2 = 0) := by omega
    refine VcDraw.lex [] [] (by kernel_rfl) (by kernel_rfl) ?_
    (repeat' first | with_reducible (first | intro _ | refine rc ?_ | refine rl ?_ | refine rh ?_ | refine rt ?_ | refine rf ?_ | refine rs ?_ | refine And.intro ?_ ?_) | omega | simp (maxSteps := 1000000) only [go_sem, simprocAttr, ↓reduceIte])
    by_cases hat : atCols (c1, c2) (r1, r2) gx gy
    · obtain ⟨l1, k1, k2⟩ := hB h0' hat
      have hatd : decide (0 < c2 ∧ (r2 = 0 ∨ r2 * gx < c2 * gy)) = true := decide_eq_true hat
      rw [hatd] at kA
      have h3 := hc2 (by have := hat.1; dsimp only at this; omega)
      refine QV.intro (.bool true) ?_ ?_
      · (repeat' first | with_reducible (first | intro _ | refine rc ?_ | refine rl ?_ | refine rh ?_ | refine rt ?_ | refine rf ?_ | refine rs ?_ | refine And.intro ?_ ?_) | omega | simp (maxSteps := 1000000) only [go_sem, simprocAttr, ↓reduceIte])
        refine VcCall.k (kA) ?_
        (repeat' first | with_reducible (first | intro _ | refine rc ?_ | refine rl ?_ | refine rh ?_ | refine rt ?_ | refine rf ?_ | refine rs ?_ | refine And.intro ?_ ?_) | omega | simp (maxSteps := 1000000) only [go_sem, simprocAttr, ↓reduceIte])
      (repeat' first | with_reducible (first | intro _ | refine rc ?_ | refine rl ?_ | refine rh ?_ | refine rt ?_ | refine rf ?_ | refine rs ?_ | refine And.intro ?_ ?_) | omega | simp (maxSteps := 1000000) only [go_sem, simprocAttr, ↓reduceIte])
      refine VcDraw.lex [9, 11] [(1, [1]), (2, [1]), (3, [1]), (4, [1]), (5, [1]), (6, [1]), (7, [1])] (by kernel_rfl) (by kernel_rfl) ?_
      (repeat' first | with_reducible (first | intro _ | refine rc ?_ | refine rl ?_ | refine rh ?_ | refine rt ?_ | refine rf ?_ | refine rs ?_ | refine And.intro ?_ ?_) | omega | simp (maxSteps := 1000000) only [go_sem, simprocAttr, ↓reduceIte])
      have e1 : ((c1 - tx : Nat) : Int) = (c1 : Int) - tx := by omega
      have e2 : ((c1 + c2 : Nat) : Int) = (c1 : Int) + c2 := by omega
      have e3 : ((tx + tw - (c1 + c2) : Nat) : Int) = (tx : Int) + tw - ((c1 : Int) + c2) := by omega
      rw [e1] at k1
      rw [e2, e3] at k2
      refine VcCall.io [0, 1] k1 (by decide) (by simp [renL, ren, ioN]) rfl (by simp [subOk, ioN, lk, Item.ren, Item.below, ren, renL, belowL, Fv.below, nbs, renR_ok, belowR_ok]) covC2 3 (by decide) rfl (by simp [rowsB, Item.below, Fv.below, belowL, nbs, belowR_ok]) ?_
      (repeat' first | with_reducible (first | intro _ | refine rc ?_ | refine rl ?_ | refine rh ?_ | refine rt ?_ | refine rf ?_ | refine rs ?_ | refine And.intro ?_ ?_) | omega | simp (maxSteps := 1000000) only [go_sem, simprocAttr, ↓reduceIte, S.ioS, ioRows, ioN, delL, Item.ren, ren, renL, nbs, renR_ok, List.length_cons, List.length_nil, List.getElem?_cons_zero, List.getElem?_cons_succ, List.getElem?_nil, List.cons_append, List.nil_append, Nat.reduceAdd, Nat.sub_self, Nat.add_zero, List.filter])
      refine VcCall.io [0, 8] k2 (by decide) (by simp [renL, ren, ioN]) rfl (by simp [subOk, ioN, lk, Item.ren, Item.below, ren, renL, belowL, Fv.below, nbs, renR_ok, belowR_ok]) covC2 3 (by decide) rfl (by simp [rowsB, Item.below, Fv.below, belowL, nbs, belowR_ok]) ?_
      (repeat' first | with_reducible (first | intro _ | refine rc ?_ | refine rl ?_ | refine rh ?_ | refine rt ?_ | refine rf ?_ | refine rs ?_ | refine And.intro ?_ ?_) | omega | simp (maxSteps := 1000000) only [go_sem, simprocAttr, ↓reduceIte, S.ioS, ioRows, ioN, delL, Item.ren, ren, renL, nbs, renR_ok, List.length_cons, List.length_nil, List.getElem?_cons_zero, List.getElem?_cons_succ, List.getElem?_nil, List.cons_append, List.nil_append, Nat.reduceAdd, Nat.sub_self, Nat.add_zero, List.filter])
      refine RetK.of [(2, 9)] 3 (by decide) (by decide) ?_ rfl ?_ <;> simp only [go_sem, reduceCtorEq, reduceIte, Nat.reduceEqDiff, Nat.reduceLT, Nat.reduceLeDiff, Int.natCast_succ, nbs, renR_ok, belowR_ok]
    · obtain ⟨l1, k1, k2⟩ := hC h0' hat
      have hatd : decide (0 < c2 ∧ (r2 = 0 ∨ r2 * gx < c2 * gy)) = false := decide_eq_false hat
      rw [hatd] at kA
      have h3 := hr2 (by intro h9; exact hat ⟨by show 0 < c2; omega, .inl h9⟩)
      refine QV.intro (.bool false) ?_ ?_
      · (repeat' first | with_reducible (first | intro _ | refine rc ?_ | refine rl ?_ | refine rh ?_ | refine rt ?_ | refine rf ?_ | refine rs ?_ | refine And.intro ?_ ?_) | omega | simp (maxSteps := 1000000) only [go_sem, simprocAttr, ↓reduceIte])
        refine VcCall.k (kA) ?_
        (repeat' first | with_reducible (first | intro _ | refine rc ?_ | refine rl ?_ | refine rh ?_ | refine rt ?_ | refine rf ?_ | refine rs ?_ | refine And.intro ?_ ?_) | omega | simp (maxSteps := 1000000) only [go_sem, simprocAttr, ↓reduceIte])
      (repeat' first | with_reducible (first | intro _ | refine rc ?_ | refine rl ?_ | refine rh ?_ | refine rt ?_ | refine rf ?_ | refine rs ?_ | refine And.intro ?_ ?_) | omega | simp (maxSteps := 1000000) only [go_sem, simprocAttr, ↓reduceIte])
      refine VcDraw.lex [9, 11] [(1, [1]), (2, [1]), (3, [1]), (4, [1]), (5, [1]), (6, [1]), (7, [1])] (by kernel_rfl) (by kernel_rfl) ?_
      (repeat' first | with_reducible (first | intro _ | refine rc ?_ | refine rl ?_ | refine rh ?_ | refine rt ?_ | refine rf ?_ | refine rs ?_ | refine And.intro ?_ ?_) | omega | simp (maxSteps := 1000000) only [go_sem, simprocAttr, ↓reduceIte])
      have e1 : ((r1 - ty : Nat) : Int) = (r1 : Int) - ty := by omega
      have e2 : ((r1 + r2 : Nat) : Int) = (r1 : Int) + r2 := by omega
      have e3 : ((ty + th - (r1 + r2) : Nat) : Int) = (ty : Int) + th - ((r1 : Int) + r2) := by omega
      rw [e1] at k1
      rw [e2, e3] at k2
      refine VcCall.io [0, 1] k1 (by decide) (by simp [renL, ren, ioN]) rfl (by simp [subOk, ioN, lk, Item.ren, Item.below, ren, renL, belowL, Fv.below, nbs, renR_ok, belowR_ok]) covC2 3 (by decide) rfl (by simp [rowsB, Item.below, Fv.below, belowL, nbs, belowR_ok]) ?_
      (repeat' first | with_reducible (first | intro _ | refine rc ?_ | refine rl ?_ | refine rh ?_ | refine rt ?_ | refine rf ?_ | refine rs ?_ | refine And.intro ?_ ?_) | omega | simp (maxSteps := 1000000) only [go_sem, simprocAttr, ↓reduceIte, S.ioS, ioRows, ioN, delL, Item.ren, ren, renL, nbs, renR_ok, List.length_cons, List.length_nil, List.getElem?_cons_zero, List.getElem?_cons_succ, List.getElem?_nil, List.cons_append, List.nil_append, Nat.reduceAdd, Nat.sub_self, Nat.add_zero, List.filter])
      refine VcCall.io [0, 8] k2 (by decide) (by simp [renL, ren, ioN]) rfl (by simp [subOk, ioN, lk, Item.ren, Item.below, ren, renL, belowL, Fv.below, nbs, renR_ok, belowR_ok]) covC2 3 (by decide) rfl (by simp [rowsB, Item.below, Fv.below, belowL, nbs, belowR_ok]) ?_
      (repeat' first | with_reducible (first | intro _ | refine rc ?_ | refine rl ?_ | refine rh ?_ | refine rt ?_ | refine rf ?_ | refine rs ?_ | refine And.intro ?_ ?_) | omega | simp (maxSteps := 1000000) only [go_sem, simprocAttr, ↓reduceIte, S.ioS, ioRows, ioN, delL, Item.ren, ren, renL, nbs, renR_ok, List.length_cons, List.length_nil, List.getElem?_cons_zero, List.getElem?_cons_succ, List.getElem?_nil, List.cons_append, List.nil_append, Nat.reduceAdd, Nat.sub_self, Nat.add_zero, List.filter])
      refine RetK.of [(2, 9)] 3 (by decide) (by decide) ?_ rfl ?_ <;> simp only [go_sem, reduceCtorEq, reduceIte, Nat.reduceEqDiff, Nat.reduceLT, Nat.reduceLeDiff, Int.natCast_succ, nbs, renR_ok, belowR_ok]
theorem cutW_ok (p : List Bool) (w h : Nat) (hw : w ≤ 4000) (hh : h ≤ 4000) (gx gy : Nat) (hgx : gx ≤ 4000) (hgy : gy ≤ 4000) : ∀ (n : Nat) (b : Nb) (l : List Nb), b.w + b.h < n → InP b w h → l.length + inkB p w b ≤ 5000 → CutIO p w h gx gy b l (l ++ cutL p w gx gy n b)
  | n + 1, b, l, hn, hb, hl => by
    by_cases h0 : inkB p w b = 0
    · have e : cutL p w gx gy (n + 1) b = [] := by unfold cutL; rw [if_pos h0]
      rw [e, List.append_nil]
      exact cut_none p w h hw hh gx gy l b hb h0
    · have hi : 0 < inkB p w b := by omega
      obtain ⟨hp, hti⟩ := tightB_part p w (b := b) hi
      have hlen := (cutL_spec p w gx gy (n + 1) b hn).len
      have htp := hb.of hp
      have hpp := hp
      unfold PartOf at hpp
      refine cut_some p w h hw hh gx gy hgx hgy l b (tightB p w b) hb hi rfl htp _ _ rfl rfl _ (by rw [List.length_append]; omega) (fun hA => ?_) (fun hA hB => ?_) fun hA hB => ?_
      · unfold cutL; rw [if_neg h0, if_pos hA]
      · have e : cutL p w gx gy (n + 1) b = cutL p w gx gy n (firstC (tightB p w b) (cutC p w (tightB p w b) gx)) ++ cutL p w gx gy n (secondC (tightB p w b) (cutC p w (tightB p w b) gx)) := by
          rw [cutL, if_neg h0, if_neg hA, if_pos hB]
        rw [e, ← List.append_assoc]
        have hc : (cutC p w (tightB p w b) gx).2 ≠ 0 := by unfold atCols at hB; omega
        obtain ⟨c1, c2, c3⟩ := cutC_spec p w hc
        have hs := inkC p w c1 c2 c3
        rw [hti] at hs
        generalize tightB p w b = t at *
        generalize cutC p w t gx = c at *
        have hn1 : (firstC t c).w + (firstC t c).h < n := by dsimp only [firstC]; omega
        have hn2 : (secondC t c).w + (secondC t c).h < n := by dsimp only [secondC]; omega
        have hl1 := (cutL_spec p w gx gy n (firstC t c) hn1).len
        refine ⟨_, cutW_ok p w h hw hh gx gy hgx hgy n (firstC t c) l hn1 ?_ (by omega), cutW_ok p w h hw hh gx gy hgx hgy n (secondC t c) _ hn2 ?_ (by rw [List.length_append]; omega)⟩
        · unfold InP firstC at *; dsimp only; omega
        · unfold InP secondC at *; dsimp only; omega
      · have e : cutL p w gx gy (n + 1) b = cutL p w gx gy n (firstR (tightB p w b) (cutR p w (tightB p w b) gy)) ++ cutL p w gx gy n (secondR (tightB p w b) (cutR p w (tightB p w b) gy)) := by
          rw [cutL, if_neg h0, if_neg hA, if_neg hB]
        rw [e, ← List.append_assoc]
        have hc : (cutR p w (tightB p w b) gy).2 ≠ 0 := by unfold atCols at hB; omega
        obtain ⟨c1, c2, c3⟩ := cutR_spec p w hc
        have hs := inkR p w c1 c2 c3
        rw [hti] at hs
        generalize tightB p w b = t at *
        generalize cutR p w t gy = c at *
        have hn1 : (firstR t c).w + (firstR t c).h < n := by dsimp only [firstR]; omega
        have hn2 : (secondR t c).w + (secondR t c).h < n := by dsimp only [secondR]; omega
        have hl1 := (cutL_spec p w gx gy n (firstR t c) hn1).len
        refine ⟨_, cutW_ok p w h hw hh gx gy hgx hgy n (firstR t c) l hn1 ?_ (by omega), cutW_ok p w h hw hh gx gy hgx hgy n (secondR t c) _ hn2 ?_ (by rw [List.length_append]; omega)⟩
        · unfold InP firstR at *; dsimp only; omega
        · unfold InP secondR at *; dsimp only; omega
end Go.Fv.Q

/-! Split: the walk. -/
namespace Go.Fv.Q
open Go Go.Proofs
set_option linter.unusedSimpArgs false
set_option linter.unusedVariables false
set_option linter.unnecessarySimpa false
set_option maxRecDepth 8000

set_option maxHeartbeats 4000000 in
theorem splitErr_ok (w h : Nat) (hw1 : 1 ≤ w) (hw : w ≤ 4000) (hh1 : 1 ≤ h) (hh : h ≤ 4000) (hwh : w * h ≤ 1048576) (p : List Bool) (hp : p.length = w * h) (X Y W H gx gy : Int) (he : boxErr w h X Y W H [gx, gy] ≠ 0) :
    FnOk Tryz.prog 47 [.agg [.int .i64 w, .int .i64 h, .ro (.bools p)], .agg [.int .i64 X, .int .i64 Y, .int .i64 W, .int .i64 H], .int .i64 gx, .int .i64 gy] (.tup [.own 0, .int .i64 (boxErr w h X Y W H [gx, gy])]) [(0, .row 26 (nbs []))] := by
  have k1 := checkBothG_ok w h hw1 hw hh1 hh hwh p hp X Y W H
  have k2 := badGap_ok [gx, gy] (by show 2 ≤ 1000; decide)
  by_cases hb : BoxIn w h X Y W H
  · have hg : [gx, gy].any gapBad = true := by
      unfold boxErr at he
      rw [if_pos hb] at he
      cases hc : [gx, gy].any gapBad with
      | true => rfl
      | false => rw [hc] at he; exact absurd rfl he
    have e : boxErr w h X Y W H [gx, gy] = 3 := by unfold boxErr; rw [if_pos hb, hg]; rfl
    rw [e]
    rw [if_pos hb] at k1
    rw [hg] at k2
    refine FnOk.of_vc Tryz.func47 rfl (by decide) (by simp [Tryz.f47]) [.tmp 8, .tmp 9] rfl fun w0 T0 _ => ?_
    simp only [Tryz.f47, argEnv]
    (repeat' first | with_reducible (first | intro _ | refine rc ?_ | refine rl ?_ | refine rh ?_ | refine rt ?_ | refine rf ?_ | refine rs ?_ | refine And.intro ?_ ?_) | omega | simp (maxSteps := 1000000) only [go_sem, simprocAttr, ↓reduceIte])
    refine VcCall.k (k1) ?_
    (repeat' first | with_reducible (first | intro _ | refine rc ?_ | refine rl ?_ | refine rh ?_ | refine rt ?_ | refine rf ?_ | refine rs ?_ | refine And.intro ?_ ?_) | omega | simp (maxSteps := 1000000) only [go_sem, simprocAttr, ↓reduceIte])
    refine VcCall.k (k2) ?_
    (repeat' first | with_reducible (first | intro _ | refine rc ?_ | refine rl ?_ | refine rh ?_ | refine rt ?_ | refine rf ?_ | refine rs ?_ | refine And.intro ?_ ?_) | omega | simp (maxSteps := 1000000) only [go_sem, simprocAttr, ↓reduceIte])
    refine Ret.auto 1 ?_ rfl ?_ <;> simp only [go_sem, reduceCtorEq, reduceIte, Nat.reduceEqDiff, Nat.reduceLT, Nat.reduceLeDiff, Int.natCast_succ, Post, nbs, renR_ok, belowR_ok, List.map_nil]
  · have e : boxErr w h X Y W H [gx, gy] = 13 := by unfold boxErr; rw [if_neg hb]
    rw [e]
    rw [if_neg hb] at k1
    refine FnOk.of_vc Tryz.func47 rfl (by decide) (by simp [Tryz.f47]) [.tmp 8, .tmp 9] rfl fun w0 T0 _ => ?_
    simp only [Tryz.f47, argEnv]
    (repeat' first | with_reducible (first | intro _ | refine rc ?_ | refine rl ?_ | refine rh ?_ | refine rt ?_ | refine rf ?_ | refine rs ?_ | refine And.intro ?_ ?_) | omega | simp (maxSteps := 1000000) only [go_sem, simprocAttr, ↓reduceIte])
    refine VcCall.k (k1) ?_
    (repeat' first | with_reducible (first | intro _ | refine rc ?_ | refine rl ?_ | refine rh ?_ | refine rt ?_ | refine rf ?_ | refine rs ?_ | refine And.intro ?_ ?_) | omega | simp (maxSteps := 1000000) only [go_sem, simprocAttr, ↓reduceIte])
    refine Ret.auto 1 ?_ rfl ?_ <;> simp only [go_sem, reduceCtorEq, reduceIte, Nat.reduceEqDiff, Nat.reduceLT, Nat.reduceLeDiff, Int.natCast_succ, Post, nbs, renR_ok, belowR_ok, List.map_nil]
set_option maxHeartbeats 4000000 in
theorem splitB_ok (w h : Nat) (hw1 : 1 ≤ w) (hw : w ≤ 4000) (hh1 : 1 ≤ h) (hh : h ≤ 4000) (hwh : w * h ≤ 5000) (p : List Bool) (hp : p.length = w * h) (b : Nb) (hb : InP b w h) (hbw : 1 ≤ b.w) (hbh : 1 ≤ b.h) (gx gy : Nat) (hgx : gx ≤ 4000) (hgy : gy ≤ 4000) (hgx1 : 1 ≤ gx) (hgy1 : 1 ≤ gy) :
    FnOk Tryz.prog 47 [.agg [.int .i64 w, .int .i64 h, .ro (.bools p)], .agg b.av, .int .i64 gx, .int .i64 gy] (.tup [.own 0, .int .i64 0]) [(0, .row 26 (nbs (cutL p w gx gy (b.w + b.h + 1) b)))] := by
  have k1 := checkBothG_ok w h hw1 hw hh1 hh (by omega) p hp b.x b.y b.w b.h
  rw [if_pos (show BoxIn w h b.x b.y b.w b.h by unfold BoxIn InP at *; omega)] at k1
  have k2 := badGap_ok [(gx : Int), (gy : Int)] (by show 2 ≤ 1000; decide)
  rw [show [(gx : Int), (gy : Int)].any gapBad = false by simp [gapBad]; omega] at k2
  have k3 := inkSums_ok w h hw hh p hp
  have hi : inkB p w b ≤ 5000 := by
    have h1 := inkN_le p w b.x b.y b.w b.h
    have h2 : b.w * b.h ≤ w * h := Nat.mul_le_mul (by unfold InP at hb; omega) (by unfold InP at hb; omega)
    rw [Nat.mul_comm] at h1; unfold inkB; omega
  have k4 := cutW_ok p w h hw hh gx gy hgx hgy (b.w + b.h + 1) b [] (by omega) hb (by simpa using hi)
  rw [List.nil_append] at k4
  generalize cutL p w gx gy (b.w + b.h + 1) b = L at *
  obtain ⟨bx, by', bw, bh⟩ := b
  simp only [CutIO, ctr, sumL, Nb.av] at *
  generalize sumsAt (inkV p) w ((w + 1) * (h + 1)) ((w + 1) * (h + 1)) = SL at *
  refine FnOk.of_vc Tryz.func47 rfl (by decide) (by simp [Tryz.f47]) [.tmp 8, .tmp 9] rfl fun w0 T0 _ => ?_
  simp only [Tryz.f47, argEnv]
  (repeat' first | with_reducible (first | intro _ | refine rc ?_ | refine rl ?_ | refine rh ?_ | refine rt ?_ | refine rf ?_ | refine rs ?_ | refine And.intro ?_ ?_) | omega | simp (maxSteps := 1000000) only [go_sem, simprocAttr, ↓reduceIte])
  refine VcCall.k (k1) ?_
  (repeat' first | with_reducible (first | intro _ | refine rc ?_ | refine rl ?_ | refine rh ?_ | refine rt ?_ | refine rf ?_ | refine rs ?_ | refine And.intro ?_ ?_) | omega | simp (maxSteps := 1000000) only [go_sem, simprocAttr, ↓reduceIte])
  refine VcCall.k (k2) ?_
  (repeat' first | with_reducible (first | intro _ | refine rc ?_ | refine rl ?_ | refine rh ?_ | refine rt ?_ | refine rf ?_ | refine rs ?_ | refine And.intro ?_ ?_) | omega | simp (maxSteps := 1000000) only [go_sem, simprocAttr, ↓reduceIte])
  refine VcDraw.lexCut [6] [] (by kernel_rfl) (by kernel_rfl) ⟨37, [(11, .ptr 0 0), (5, .ptr 2 0)], [(0, .box 96 [.int .i64 w, .int .i64 h, .ro (.bools p), .cell [.int .i64 w, .int .i64 h, .ro (.ints .i64 SL)], .int .i64 gx, .int .i64 gy, .own 1]), (1, .row 26 (nbs [])), (2, .box 26 [.int .i64 bx, .int .i64 by', .int .i64 bw, .int .i64 bh])], 3⟩ ?_ ?_
  · (repeat' first | with_reducible (first | intro _ | refine rc ?_ | refine rl ?_ | refine rh ?_ | refine rt ?_ | refine rf ?_ | refine rs ?_ | refine And.intro ?_ ?_) | omega | simp (maxSteps := 1000000) only [go_sem, simprocAttr, ↓reduceIte])
    refine QV.intro (.cell [.int .i64 w, .int .i64 h, .ro (.ints .i64 SL)]) ?_ ?_
    · (repeat' first | with_reducible (first | intro _ | refine rc ?_ | refine rl ?_ | refine rh ?_ | refine rt ?_ | refine rf ?_ | refine rs ?_ | refine And.intro ?_ ?_) | omega | simp (maxSteps := 1000000) only [go_sem, simprocAttr, ↓reduceIte])
      refine VcCall.ro (.cell [.int .i64 w, .int .i64 h, .ro (.ints .i64 SL)]) (FnFr.of_ok k3 rfl (by simp [noRoRows, noRoItem, noRoRow, noRoL, noRo])) (by simp only [noIdR_ok, argOkL, argOk, allOk, argOkN, List.drop_zero, lk, reduceIte, reduceCtorEq, Nat.reduceEqDiff, Option.some.injEq, Item.row.injEq, Item.box.injEq, AV.ro.injEq, exists_eq_left, exists_and_left, exists_eq_left', exists_eq_right, and_assoc, and_true, true_and, List.cons.injEq, exists_eq', exists_eq]) (by simp [outOk, argOkL, argOk, argOkN, lk]; exact ⟨_, _, ⟨rfl, rfl⟩, by simp [allOk, argOkN, lk, noIdR_ok]⟩) rfl ?_
      (repeat' first | with_reducible (first | intro _ | refine rc ?_ | refine rl ?_ | refine rh ?_ | refine rt ?_ | refine rf ?_ | refine rs ?_ | refine And.intro ?_ ?_) | omega | simp (maxSteps := 1000000) only [go_sem, simprocAttr, ↓reduceIte])
    (repeat' first | with_reducible (first | intro _ | refine rc ?_ | refine rl ?_ | refine rh ?_ | refine rt ?_ | refine rf ?_ | refine rs ?_ | refine And.intro ?_ ?_) | omega | simp (maxSteps := 1000000) only [go_sem, simprocAttr, ↓reduceIte])
    refine Ent.trans (Ent.nilBox (P := Tryz.prog) 4 6 26 e26 rfl rfl) (Ent.auto0 rfl ?_ ?_) <;> simp only [go_sem, reduceCtorEq, reduceIte, Nat.reduceEqDiff, Nat.reduceLT, Nat.reduceLeDiff, Int.natCast_succ, nbs, zrow, put, List.set_cons_zero, List.set_cons_succ, Nat.zero_mul, List.range_zero, List.map_nil, List.replicate_zero]
  · (repeat' first | with_reducible (first | intro _ | refine rc ?_ | refine rl ?_ | refine rh ?_ | refine rt ?_ | refine rf ?_ | refine rs ?_ | refine And.intro ?_ ?_) | omega | simp (maxSteps := 1000000) only [go_sem, simprocAttr, ↓reduceIte])
    refine VcCall.io [0, 1] k4 (by decide) (by simp [renL, ren, ioN]) rfl (by simp [subOk, ioN, lk, Item.ren, Item.below, ren, renL, belowL, Fv.below, nbs, renR_ok, belowR_ok]) covC2 3 (by decide) rfl (by simp [rowsB, Item.below, Fv.below, belowL, nbs, belowR_ok]) ?_
    (repeat' first | with_reducible (first | intro _ | refine rc ?_ | refine rl ?_ | refine rh ?_ | refine rt ?_ | refine rf ?_ | refine rs ?_ | refine And.intro ?_ ?_) | omega | simp (maxSteps := 1000000) only [go_sem, simprocAttr, ↓reduceIte, S.ioS, ioRows, ioN, delL, Item.ren, ren, renL, nbs, renR_ok, List.length_cons, List.length_nil, List.getElem?_cons_zero, List.getElem?_cons_succ, List.getElem?_nil, List.cons_append, List.nil_append, Nat.reduceAdd, Nat.sub_self, Nat.add_zero, List.filter])
    refine Ret.auto 1 ?_ rfl ?_ <;> simp only [go_sem, reduceCtorEq, reduceIte, Nat.reduceEqDiff, Nat.reduceLT, Nat.reduceLeDiff, Int.natCast_succ, Post, nbs, renR_ok, belowR_ok]
end Go.Fv.Q

namespace Go.Fv.Q
open Go Go.Proofs
set_option linter.unusedSimpArgs false
set_option linter.unusedVariables false
set_option maxRecDepth 8000
theorem cloneBools_ok (l : List Bool) (hl : l.length ≤ 137438953472) : FnOk Tryz.prog 115 [.ro (.bools l)] (.own 0) [(0, .row 4 (.bools l))] := by
  refine FnOk.of_vc Tryz.func115 rfl (by decide) (by simp [Tryz.f115]) [.tmp 2] rfl fun w0 T0 _ => ?_
  simp only [Tryz.f115, argEnv]
  (repeat' first | with_reducible (first | intro _ | refine rc ?_ | refine rl ?_ | refine rh ?_ | refine rt ?_ | refine rf ?_ | refine rs ?_ | refine And.intro ?_ ?_) | omega | simp (maxSteps := 1000000) only [go_sem, simprocAttr, ↓reduceIte])
  · rename_i h
    have : l = [] := List.eq_nil_of_length_eq_zero h
    refine Ret.auto 1 ?_ rfl ?_ <;> simp only [go_sem, reduceCtorEq, reduceIte, Nat.reduceEqDiff, Nat.reduceLT, Nat.reduceLeDiff, Int.natCast_succ, Post, this, zrow, List.replicate_zero]
  · refine Ret.auto 1 ?_ rfl ?_ <;> simp only [go_sem, reduceCtorEq, reduceIte, Nat.reduceEqDiff, Nat.reduceLT, Nat.reduceLeDiff, Int.natCast_succ, Post, zrow, List.replicate_zero]
end Go.Fv.Q

/- The reference's Specks, Holes and Border: the walk. -/
namespace Go.Fv.Q
open Go Go.Proofs
set_option linter.unusedSimpArgs false
set_option linter.unusedVariables false
set_option linter.unnecessarySimpa false
set_option maxRecDepth 8000

theorem refSpecks1_ok (l : List Int) (most : Int) :
    FnOk Tryz.prog 83 [.ro (.ints .i64 l), .cell [.int .i64 most]] (.bool (speckB most l)) [] := by
  unfold speckB
  refine FnOk.of_vc Tryz.func83 rfl (by decide) (by simp [Tryz.f83]) [.tmp 3] rfl fun w0 T0 _ => ?_
  simp only [Tryz.f83, argEnv]
  (repeat' first | with_reducible (first | intro _ | refine rc ?_ | refine rl ?_ | refine rh ?_ | refine rt ?_ | refine rf ?_ | refine rs ?_ | refine And.intro ?_ ?_) | omega | simp (maxSteps := 1000000) only [go_sem, simprocAttr, ↓reduceIte])
  refine Ret.auto 0 ?_ rfl ?_ <;> simp only [go_sem, reduceCtorEq, reduceIte, Nat.reduceEqDiff, Nat.reduceLT, Nat.reduceLeDiff, Int.natCast_succ, Post]
set_option maxHeartbeats 16000000 in
theorem change_ok (w h : Nat) (hw1 : 1 ≤ w) (hw : w ≤ 1000) (hh1 : 1 ≤ h) (hh : h ≤ 1000) (p : List Bool) (hp : p.length = w * h) (ink : Bool) (f : Nat) (caps : List AV) [CapsOk caps] (told : List Int → Bool)
    (hsel : ∀ l, InPg w h l → FnFr Tryz.prog f ([.ro (.ints .i64 l)] ++ caps) (.bool (told l)) []) :
    FnOk Tryz.prog 82 [.agg [.int .i64 w, .int .i64 h, .ro (.bools p)], .bool ink, .fn f caps]
      (.tup [.agg [.int .i64 w, .int .i64 h, .own 0], .int .i64 (chgAll (!ink) told p ((pieces ⟨p, w, h, ink, ink⟩).map sortI)).n]) [(0, .row 4 (.bools (chgAll (!ink) told p ((pieces ⟨p, w, h, ink, ink⟩).map sortI)).p))] := by
  have hn : w * h ≤ 1000 * 1000 := Nat.mul_le_mul hw hh
  have k1 := cloneBools_ok p (by omega)
  have k2 := parts_ok w h hw1 hw hh1 hh p hp ink
  have hin : ∀ l, l ∈ (pieces ⟨p, w, h, ink, ink⟩).map sortI → InPg w h l ∧ l.length ≤ w * h := fun l hl => by
    obtain ⟨r, hr, rfl⟩ := List.mem_map.1 hl
    obtain ⟨j, hj, ho⟩ := pieces_ok _ r hr
    refine ⟨fun i hi => ?_, by rw [sortI_len]; exact ho.le⟩
    have := ho.bd i ((sortI_mem r i).1 hi)
    dsimp only at this; omega
  have hRl : ((pieces ⟨p, w, h, ink, ink⟩).map sortI).length ≤ w * h := by rw [List.length_map]; exact pieces_len _
  generalize (pieces ⟨p, w, h, ink, ink⟩).map sortI = R at *
  refine FnOk.of_vc Tryz.func82 rfl (by decide) (by simp [Tryz.f82]) [.cell 6 24, .tmp 7] rfl fun w0 T0 _ => ?_
  simp only [Tryz.f82, argEnv]
  (repeat' first | with_reducible (first | intro _ | refine rc ?_ | refine rl ?_ | refine rh ?_ | refine rt ?_ | refine rf ?_ | refine rs ?_ | refine And.intro ?_ ?_) | omega | simp (maxSteps := 1000000) only [go_sem, simprocAttr, ↓reduceIte])
  refine VcDraw.cut (.first 0 (.first 2 (.first 4 (.cons 1 (.cons 3 (.cons 5 (.cons 6 (.cons 7 (.cons 8 (.cons 9 .done .stop) .stop) (.cons 8 (.cons 7 (.cons 9 .done .stop) .stop) .stop)) (.cons 8 (.cons 6 (.cons 7 (.cons 9 .done .stop) .stop) .stop) .stop)) (.cons 8 (.cons 5 (.cons 6 (.cons 7 (.cons 9 .done .stop) .stop) .stop) .stop) .stop)) (.cons 5 (.cons 3 (.cons 6 (.cons 7 (.cons 8 (.cons 9 .done .stop) .stop) (.cons 8 (.cons 7 (.cons 9 .done .stop) .stop) .stop)) (.cons 8 (.cons 6 (.cons 7 (.cons 9 .done .stop) .stop) .stop) .stop)) (.cons 6 (.cons 3 (.cons 7 (.cons 8 (.cons 9 .done .stop) .stop) (.cons 8 (.cons 7 (.cons 9 .done .stop) .stop) .stop)) (.cons 8 (.cons 3 (.cons 7 (.cons 9 .done .stop) .stop) .stop) .stop)) (.cons 8 (.cons 3 (.cons 6 (.cons 7 (.cons 9 .done .stop) .stop) .stop) (.cons 6 (.cons 3 (.cons 7 (.cons 9 .done .stop) .stop) .stop) .stop)) .stop))) (.cons 8 (.cons 3 (.cons 5 (.cons 6 (.cons 7 (.cons 9 .done .stop) .stop) .stop) .stop) (.cons 5 (.cons 3 (.cons 6 (.cons 7 (.cons 9 .done .stop) .stop) .stop) (.cons 6 (.cons 3 (.cons 7 (.cons 9 .done .stop) .stop) .stop) .stop)) .stop)) .stop))) (.cons 3 (.cons 1 (.cons 5 (.cons 6 (.cons 7 (.cons 8 (.cons 9 .done .stop) .stop) (.cons 8 (.cons 7 (.cons 9 .done .stop) .stop) .stop)) (.cons 8 (.cons 6 (.cons 7 (.cons 9 .done .stop) .stop) .stop) .stop)) (.cons 8 (.cons 5 (.cons 6 (.cons 7 (.cons 9 .done .stop) .stop) .stop) .stop) .stop)) (.cons 5 (.cons 1 (.cons 6 (.cons 7 (.cons 8 (.cons 9 .done .stop) .stop) (.cons 8 (.cons 7 (.cons 9 .done .stop) .stop) .stop)) (.cons 8 (.cons 6 (.cons 7 (.cons 9 .done .stop) .stop) .stop) .stop)) (.cons 6 (.cons 1 (.cons 7 (.cons 8 (.cons 9 .done .stop) .stop) (.cons 8 (.cons 7 (.cons 9 .done .stop) .stop) .stop)) (.cons 8 (.cons 1 (.cons 7 (.cons 9 .done .stop) .stop) .stop) .stop)) (.cons 8 (.cons 1 (.cons 6 (.cons 7 (.cons 9 .done .stop) .stop) .stop) (.cons 6 (.cons 1 (.cons 7 (.cons 9 .done .stop) .stop) .stop) .stop)) .stop))) (.cons 8 (.cons 1 (.cons 5 (.cons 6 (.cons 7 (.cons 9 .done .stop) .stop) .stop) .stop) (.cons 5 (.cons 1 (.cons 6 (.cons 7 (.cons 9 .done .stop) .stop) .stop) (.cons 6 (.cons 1 (.cons 7 (.cons 9 .done .stop) .stop) .stop) .stop)) .stop)) .stop))) (.cons 5 (.cons 1 (.cons 3 (.cons 6 (.cons 7 (.cons 8 (.cons 9 .done .stop) .stop) (.cons 8 (.cons 7 (.cons 9 .done .stop) .stop) .stop)) (.cons 8 (.cons 6 (.cons 7 (.cons 9 .done .stop) .stop) .stop) .stop)) (.cons 6 (.cons 3 (.cons 7 (.cons 8 (.cons 9 .done .stop) .stop) (.cons 8 (.cons 7 (.cons 9 .done .stop) .stop) .stop)) (.cons 8 (.cons 3 (.cons 7 (.cons 9 .done .stop) .stop) .stop) .stop)) (.cons 8 (.cons 3 (.cons 6 (.cons 7 (.cons 9 .done .stop) .stop) .stop) (.cons 6 (.cons 3 (.cons 7 (.cons 9 .done .stop) .stop) .stop) .stop)) .stop))) (.cons 3 (.cons 1 (.cons 6 (.cons 7 (.cons 8 (.cons 9 .done .stop) .stop) (.cons 8 (.cons 7 (.cons 9 .done .stop) .stop) .stop)) (.cons 8 (.cons 6 (.cons 7 (.cons 9 .done .stop) .stop) .stop) .stop)) (.cons 6 (.cons 1 (.cons 7 (.cons 8 (.cons 9 .done .stop) .stop) (.cons 8 (.cons 7 (.cons 9 .done .stop) .stop) .stop)) (.cons 8 (.cons 1 (.cons 7 (.cons 9 .done .stop) .stop) .stop) .stop)) (.cons 8 (.cons 1 (.cons 6 (.cons 7 (.cons 9 .done .stop) .stop) .stop) (.cons 6 (.cons 1 (.cons 7 (.cons 9 .done .stop) .stop) .stop) .stop)) .stop))) (.cons 6 (.cons 1 (.cons 3 (.cons 7 (.cons 8 (.cons 9 .done .stop) .stop) (.cons 8 (.cons 7 (.cons 9 .done .stop) .stop) .stop)) (.cons 8 (.cons 3 (.cons 7 (.cons 9 .done .stop) .stop) .stop) .stop)) (.cons 3 (.cons 1 (.cons 7 (.cons 8 (.cons 9 .done .stop) .stop) (.cons 8 (.cons 7 (.cons 9 .done .stop) .stop) .stop)) (.cons 8 (.cons 1 (.cons 7 (.cons 9 .done .stop) .stop) .stop) .stop)) (.cons 8 (.cons 1 (.cons 3 (.cons 7 (.cons 9 .done .stop) .stop) .stop) (.cons 3 (.cons 1 (.cons 7 (.cons 9 .done .stop) .stop) .stop) .stop)) .stop))) (.cons 8 (.cons 1 (.cons 3 (.cons 6 (.cons 7 (.cons 9 .done .stop) .stop) .stop) (.cons 6 (.cons 3 (.cons 7 (.cons 9 .done .stop) .stop) .stop) .stop)) (.cons 3 (.cons 1 (.cons 6 (.cons 7 (.cons 9 .done .stop) .stop) .stop) (.cons 6 (.cons 1 (.cons 7 (.cons 9 .done .stop) .stop) .stop) .stop)) (.cons 6 (.cons 1 (.cons 3 (.cons 7 (.cons 9 .done .stop) .stop) .stop) (.cons 3 (.cons 1 (.cons 7 (.cons 9 .done .stop) .stop) .stop) .stop)) .stop))) .stop)))) (.cons 8 (.cons 1 (.cons 3 (.cons 5 (.cons 6 (.cons 7 (.cons 9 .done .stop) .stop) .stop) .stop) (.cons 5 (.cons 3 (.cons 6 (.cons 7 (.cons 9 .done .stop) .stop) .stop) (.cons 6 (.cons 3 (.cons 7 (.cons 9 .done .stop) .stop) .stop) .stop)) .stop)) (.cons 3 (.cons 1 (.cons 5 (.cons 6 (.cons 7 (.cons 9 .done .stop) .stop) .stop) .stop) (.cons 5 (.cons 1 (.cons 6 (.cons 7 (.cons 9 .done .stop) .stop) .stop) (.cons 6 (.cons 1 (.cons 7 (.cons 9 .done .stop) .stop) .stop) .stop)) .stop)) (.cons 5 (.cons 1 (.cons 3 (.cons 6 (.cons 7 (.cons 9 .done .stop) .stop) .stop) (.cons 6 (.cons 3 (.cons 7 (.cons 9 .done .stop) .stop) .stop) .stop)) (.cons 3 (.cons 1 (.cons 6 (.cons 7 (.cons 9 .done .stop) .stop) .stop) (.cons 6 (.cons 1 (.cons 7 (.cons 9 .done .stop) .stop) .stop) .stop)) (.cons 6 (.cons 1 (.cons 3 (.cons 7 (.cons 9 .done .stop) .stop) .stop) (.cons 3 (.cons 1 (.cons 7 (.cons 9 .done .stop) .stop) .stop) .stop)) .stop))) .stop))) .stop))))))) (by kernel_rfl) (by kernel_rfl) (by kernel_rfl) ⟨51, [(8, .ptr 2 0), (6, .ptr 1 0), (3, .ptr 0 0), (1, .bool ink), (2, .fn f caps)], [(0, .box 24 [.int .i64 w, .int .i64 h, .ro (.bools p)]), (1, .box 24 [.int .i64 0, .int .i64 0, .nilS]), (2, .box 24 [.int .i64 w, .int .i64 h, .own 3]), (3, .row 4 (.bools p))], 4⟩ ?_ ?_
  · (repeat' first | with_reducible (first | intro _ | refine rc ?_ | refine rl ?_ | refine rh ?_ | refine rt ?_ | refine rf ?_ | refine rs ?_ | refine And.intro ?_ ?_) | omega | simp (maxSteps := 1000000) only [go_sem, simprocAttr, ↓reduceIte])
    all_goals
      refine VcCall.fr (FnFr.of_ok k1 rfl rfl) (by simp only [noIdR_ok, argOkL, argOk, allOk, argOkN, List.drop_zero, lk, reduceIte, reduceCtorEq, Nat.reduceEqDiff, Option.some.injEq, Item.row.injEq, Item.box.injEq, AV.ro.injEq, exists_eq_left, exists_and_left, exists_eq_left', exists_eq_right, and_assoc, and_true, true_and, List.cons.injEq, exists_eq', exists_eq]) 1 rfl (by simp [rowsB, Item.below, Fv.below, belowL]) ?_
      (repeat' first | with_reducible (first | intro _ | refine rc ?_ | refine rl ?_ | refine rh ?_ | refine rt ?_ | refine rf ?_ | refine rs ?_ | refine And.intro ?_ ?_) | omega | simp (maxSteps := 1000000) only [go_sem, simprocAttr, ↓reduceIte])
    all_goals
      refine Ent.auto0 rfl ?_ ?_ <;> simp only [go_sem, reduceCtorEq, reduceIte, Nat.reduceEqDiff, Nat.reduceLT, Nat.reduceLeDiff, Int.natCast_succ]
  (repeat' first | with_reducible (first | intro _ | refine rc ?_ | refine rl ?_ | refine rh ?_ | refine rt ?_ | refine rf ?_ | refine rs ?_ | refine And.intro ?_ ?_) | omega | simp (maxSteps := 1000000) only [go_sem, simprocAttr, ↓reduceIte])
  refine VcCall.ros (.ro (.objs 1 (R.map gAv))) k2 (by simp only [noIdR_ok, argOkL, argOk, allOk, argOkN, List.drop_zero, lk, reduceIte, reduceCtorEq, Nat.reduceEqDiff, Option.some.injEq, Item.row.injEq, Item.box.injEq, AV.ro.injEq, exists_eq_left, exists_and_left, exists_eq_left', exists_eq_right, and_assoc, and_true, true_and, List.cons.injEq, exists_eq', exists_eq]) (by simp [outOk, argOk, argOkN, lk, noIdR_ok]) rfl ?_
  (repeat' first | with_reducible (first | intro _ | refine rc ?_ | refine rl ?_ | refine rh ?_ | refine rt ?_ | refine rf ?_ | refine rs ?_ | refine And.intro ?_ ?_) | omega | simp (maxSteps := 1000000) only [go_sem, simprocAttr, ↓reduceIte])
  refine VcLoop.intro (fun k : Nat => ⟨51, [(26, .int .i64 k), (25, .int .i64 R.length), (24, .ro (.objs 1 (R.map gAv))), (9, .int .i64 (chgAll (!ink) told p (R.take k)).n), (8, .ptr 2 0), (6, .ptr 1 0), (3, .ptr 0 0), (2, .fn f caps), (1, .bool ink)], [(0, .box 24 [.int .i64 w, .int .i64 h, .ro (.bools p)]), (1, .box 24 [.int .i64 0, .int .i64 0, .nilS]), (2, .box 24 [.int .i64 w, .int .i64 h, .own 3]), (3, .row 4 (.bools (chgAll (!ink) told p (R.take k)).p))], 4⟩) (fun k => k ≤ R.length) (fun k => R.length - k) 0 ?_ (Nat.zero_le _) fun k hk => ?_
  · refine Ent.auto0 rfl ?_ ?_ <;> simp only [go_sem, reduceCtorEq, reduceIte, Nat.reduceEqDiff, Nat.reduceLT, Nat.reduceLeDiff, Int.natCast_succ, List.take_zero, chgAll, List.foldl_nil]
  by_cases hlt : k < R.length
  · have hel := g_elem R hlt
    have hts : R.take (k + 1) = R.take k ++ [R.getD k []] := by rw [List.take_succ_eq_append_getElem hlt, getD_lt hlt]
    obtain ⟨hb, hll⟩ := hin (R.getD k []) (by rw [getD_lt hlt]; exact List.getElem_mem hlt)
    have hcl := chgAll_len (!ink) told p (R.take k)
    have hcs := chgAll_snoc (!ink) told p (R.take k) (R.getD k [])
    rw [← hts] at hcs
    rw [List.length_take] at hcl
    generalize chgAll (!ink) told p (R.take k) = C at *
    generalize R.getD k [] = l at *
    have ks := hsel l hb
    unfold CS.step at hcs
    obtain ⟨P, n⟩ := C
    dsimp only at hcl hcs
    (repeat' first | with_reducible (first | intro _ | refine rc ?_ | refine rl ?_ | refine rh ?_ | refine rt ?_ | refine rf ?_ | refine rs ?_ | refine And.intro ?_ ?_) | omega | simp (maxSteps := 1000000) only [go_sem, simprocAttr, ↓reduceIte, elemA, hel])
    refine VcCall.fr (args' := [.ro (.ints .i64 l)] ++ caps) ks (by simp [argOkL, allOk, argOkN, allOk_caps]) 0 rfl (by simp [rowsB]) ?_
    generalize told l = sl at *
    cases sl
    · rw [if_neg (by decide)] at hcs
      (repeat' first | with_reducible (first | intro _ | refine rc ?_ | refine rl ?_ | refine rh ?_ | refine rt ?_ | refine rf ?_ | refine rs ?_ | refine And.intro ?_ ?_) | omega | simp (maxSteps := 1000000) only [go_sem, simprocAttr, ↓reduceIte])
      refine ⟨k + 1, Ent.auto0 rfl ?_ ?_, by omega, by omega⟩ <;> simp only [go_sem, reduceCtorEq, reduceIte, Nat.reduceEqDiff, Nat.reduceLT, Nat.reduceLeDiff, Int.natCast_succ, hcs]
    · rw [if_pos rfl] at hcs
      (repeat' first | with_reducible (first | intro _ | refine rc ?_ | refine rl ?_ | refine rh ?_ | refine rt ?_ | refine rf ?_ | refine rs ?_ | refine And.intro ?_ ?_) | omega | simp (maxSteps := 1000000) only [go_sem, simprocAttr, ↓reduceIte])
      refine VcLoop.intro (fun m : Nat => ⟨51, [(37, .int .i64 m), (36, .int .i64 l.length), (35, .ro (.ints .i64 l)), (26, .int .i64 k), (25, .int .i64 R.length), (24, .ro (.objs 1 (R.map gAv))), (9, .int .i64 (n + 1 : Nat)), (8, .ptr 2 0), (6, .ptr 1 0), (3, .ptr 0 0), (2, .fn f caps), (1, .bool ink)], [(0, .box 24 [.int .i64 w, .int .i64 h, .ro (.bools p)]), (1, .box 24 [.int .i64 0, .int .i64 0, .nilS]), (2, .box 24 [.int .i64 w, .int .i64 h, .own 3]), (3, .row 4 (.bools (chg (!ink) P (l.take m))))], 4⟩) (fun m => m ≤ l.length) (fun m => l.length - m) 0 ?_ (Nat.zero_le _) fun m hm => ?_
      · refine Ent.auto0 rfl ?_ ?_ <;> simp only [go_sem, reduceCtorEq, reduceIte, Nat.reduceEqDiff, Nat.reduceLT, Nat.reduceLeDiff, Int.natCast_succ, List.take_zero, chg, List.foldl_nil]
      by_cases hml : m < l.length
      · obtain ⟨b1, b2⟩ := hb _ (getD_mem hml)
        have hms := take_snoc hml
        have hpl := chg_len (!ink) (l.take m) P
        have hsn := chg_snoc (!ink) P (l.take m) (l.getD m 0)
        rw [← hms] at hsn
        (repeat' first | with_reducible (first | intro _ | refine rc ?_ | refine rl ?_ | refine rh ?_ | refine rt ?_ | refine rf ?_ | refine rs ?_ | refine And.intro ?_ ?_) | omega | simp (maxSteps := 1000000) only [go_sem, simprocAttr, ↓reduceIte, Int.toNat_natCast])
        refine ⟨m + 1, Ent.auto0 rfl ?_ ?_, by omega, by omega⟩ <;> simp only [go_sem, reduceCtorEq, reduceIte, Nat.reduceEqDiff, Nat.reduceLT, Nat.reduceLeDiff, Int.natCast_succ, hsn]
      · have e : m = l.length := by omega
        subst e
        rw [List.take_length]
        (repeat' first | with_reducible (first | intro _ | refine rc ?_ | refine rl ?_ | refine rh ?_ | refine rt ?_ | refine rf ?_ | refine rs ?_ | refine And.intro ?_ ?_) | omega | simp (maxSteps := 1000000) only [go_sem, simprocAttr, ↓reduceIte])
        refine ⟨k + 1, Ent.auto0 rfl ?_ ?_, by omega, by omega⟩ <;> simp only [go_sem, reduceCtorEq, reduceIte, Nat.reduceEqDiff, Nat.reduceLT, Nat.reduceLeDiff, Int.natCast_succ, hcs]
  · have e : k = R.length := by omega
    subst e
    rw [List.take_length]
    (repeat' first | with_reducible (first | intro _ | refine rc ?_ | refine rl ?_ | refine rh ?_ | refine rt ?_ | refine rf ?_ | refine rs ?_ | refine And.intro ?_ ?_) | omega | simp (maxSteps := 1000000) only [go_sem, simprocAttr, ↓reduceIte])
    refine Ret.auto 1 ?_ rfl ?_ <;> simp only [go_sem, reduceCtorEq, reduceIte, Nat.reduceEqDiff, Nat.reduceLT, Nat.reduceLeDiff, Int.natCast_succ, Post, List.drop_zero]
end Go.Fv.Q

namespace Go.Fv.Q
open Go Go.Proofs
set_option linter.unusedSimpArgs false
set_option linter.unusedVariables false
set_option maxRecDepth 8000
theorem and_bd (a : Int) (m : Nat) (hm : m < 2 ^ 63) : 0 ≤ bitsI .and .i64 a m ∧ bitsI .and .i64 a m ≤ m := by
  unfold bitsI
  dsimp only
  have h1 : (BitVec.ofInt 64 a &&& BitVec.ofInt 64 (m : Int)).toNat ≤ m := by
    rw [BitVec.toNat_and]
    refine Nat.le_trans Nat.and_le_right ?_
    rw [BitVec.ofInt_natCast, BitVec.toNat_ofNat]
    exact Nat.mod_le _ _
  rw [show IntKind.i64.bits = 64 from rfl]
  rw [wrap_of_in (InK_i64.2 ⟨by omega, by omega⟩)]
  omega
/-- The size that a page is fitted to. -/
def fitN (a : Int) (m : Nat) : Nat := (1 + bitsI .and .i64 a m).toNat
theorem fitN_bd (a : Int) (m : Nat) (hm : m < 2 ^ 63) : 1 ≤ fitN a m ∧ fitN a m ≤ m + 1 ∧ 1 + bitsI .and .i64 a m = ((fitN a m : Nat) : Int) := by
  have := and_bd a m hm
  unfold fitN; omega
def fitB (p : List Bool) (w x y : Nat) : Bool := decide (0 < p.length) && p.getD ((y * w + x) % p.length) false
set_option maxHeartbeats 2000000 in
theorem fit1_ok (W H : Int) (p : List Bool) (w x y : Nat) (hw : w ≤ 32) (hx : x < w) (hy : y < 32) :
    FnOk Tryz.prog 26 [.int .i64 x, .int .i64 y, .cell [.int .i64 W, .int .i64 H, .ro (.bools p)], .cell [.int .i64 w]] (.bool (fitB p w x y)) [] := by
  have b1 : y * w ≤ 32 * 32 := Nat.mul_le_mul (by omega) hw
  have hm := Nat.mod_lt (y * w + x) (y := p.length)
  refine FnOk.of_vc Tryz.func26 rfl (by decide) (by simp [Tryz.f26]) [.tmp 6] rfl fun w0 T0 _ => ?_
  simp only [Tryz.f26, argEnv]
  (repeat' first | with_reducible (first | intro _ | refine rc ?_ | refine rl ?_ | refine rh ?_ | refine rt ?_ | refine rf ?_ | refine rs ?_ | refine And.intro ?_ ?_) | omega | simp (maxSteps := 1000000) only [go_sem, simprocAttr, ↓reduceIte])
  refine VcDraw.lex [] [] (by kernel_rfl) (by kernel_rfl) ?_
  (repeat' first | with_reducible (first | intro _ | refine rc ?_ | refine rl ?_ | refine rh ?_ | refine rt ?_ | refine rf ?_ | refine rs ?_ | refine And.intro ?_ ?_) | omega | simp (maxSteps := 1000000) only [go_sem, simprocAttr, ↓reduceIte, up_mul, up_add, up_tmod, Int.toNat_natCast])
  refine Ret.auto 0 ?_ rfl ?_ <;> simp only [go_sem, reduceCtorEq, reduceIte, Nat.reduceEqDiff, Nat.reduceLT, Nat.reduceLeDiff, Int.natCast_succ, Post, fitB]
  simp
set_option maxHeartbeats 2000000 in
theorem fit_ok (W H : Int) (p : List Bool) :
    FnOk Tryz.prog 6 [.agg [.int .i64 W, .int .i64 H, .ro (.bools p)]] (.agg [.int .i64 (fitN W 31), .int .i64 (fitN H 31), .own 0]) [(0, .row 4 (.bools (rowsOf (fitN W 31) (fitB p (fitN W 31)) (fitN H 31 * fitN W 31))))] := by
  obtain ⟨w1, w2, w3⟩ := fitN_bd W 31 (by decide)
  obtain ⟨h1, h2, h3⟩ := fitN_bd H 31 (by decide)
  replace w3 : 1 + bitsI .and .i64 W 31 = ((fitN W 31 : Nat) : Int) := w3
  replace h3 : 1 + bitsI .and .i64 H 31 = ((fitN H 31 : Nat) : Int) := h3
  generalize fitN W 31 = w at *
  generalize fitN H 31 = h at *
  haveI c1 : CapsOk [.cell [.int .i64 W, .int .i64 H, .ro (.bools p)], .cell [.int .i64 w]] := ⟨rfl⟩
  have k1 := made_ok w h (by omega) (by omega) 26 [.cell [.int .i64 W, .int .i64 H, .ro (.bools p)], .cell [.int .i64 w]] (fitB p w)
    (fun x y hx hy => FnFr.of_ok (fit1_ok W H p w x y (by omega) hx (by omega)) rfl rfl)
  generalize rowsOf w (fitB p w) (h * w) = out at *
  refine FnOk.of_vc Tryz.func6 rfl (by decide) (by simp [Tryz.f6]) [.cell 2 24] rfl fun w0 T0 _ => ?_
  simp only [Tryz.f6, argEnv]
  (repeat' first | with_reducible (first | intro _ | refine rc ?_ | refine rl ?_ | refine rh ?_ | refine rt ?_ | refine rf ?_ | refine rs ?_ | refine And.intro ?_ ?_) | omega | simp (maxSteps := 1000000) only [go_sem, simprocAttr, ↓reduceIte])
  refine VcDraw.lex [8, 9] [(0, [1]), (1, [1]), (2, [1]), (3, [1]), (4, [1, 2]), (5, [1, 2]), (6, [1, 2]), (7, [1, 2])] (by kernel_rfl) (by kernel_rfl) ?_
  (repeat' first | with_reducible (first | intro _ | refine rc ?_ | refine rl ?_ | refine rh ?_ | refine rt ?_ | refine rf ?_ | refine rs ?_ | refine And.intro ?_ ?_) | omega | simp (maxSteps := 1000000) only [go_sem, simprocAttr, ↓reduceIte, w3, h3])
  refine VcCall.fr (FnFr.of_ok k1 rfl rfl) (by simp only [noIdR_ok, argOkL, argOk, allOk, argOkN, List.drop_zero, lk, reduceIte, reduceCtorEq, Nat.reduceEqDiff, Option.some.injEq, Item.row.injEq, Item.box.injEq, AV.ro.injEq, exists_eq_left, exists_and_left, exists_eq_left', exists_eq_right, and_assoc, and_true, true_and, List.cons.injEq, exists_eq', exists_eq]) 1 rfl (by simp [rowsB, Item.below, Fv.below, belowL]) ?_
  (repeat' first | with_reducible (first | intro _ | refine rc ?_ | refine rl ?_ | refine rh ?_ | refine rt ?_ | refine rf ?_ | refine rs ?_ | refine And.intro ?_ ?_) | omega | simp (maxSteps := 1000000) only [go_sem, simprocAttr, ↓reduceIte])
  refine Ret.auto 1 ?_ rfl ?_ <;> simp only [go_sem, reduceCtorEq, reduceIte, Nat.reduceEqDiff, Nat.reduceLT, Nat.reduceLeDiff, Int.natCast_succ, Post, List.drop_zero]
  all_goals simp (maxSteps := 1000000) only [go_sem, simprocAttr, ↓reduceIte]
end Go.Fv.Q

namespace Go.Fv.Q
open Go Go.Proofs
set_option linter.unusedSimpArgs false
set_option linter.unusedVariables false
set_option maxRecDepth 8000
end Go.Fv.Q

namespace Go.Fv.Q
open Go Go.Proofs
set_option linter.unusedSimpArgs false
set_option linter.unusedVariables false
set_option maxRecDepth 8000
end Go.Fv.Q

namespace Go.Fv.Q
open Go Go.Proofs
set_option linter.unusedSimpArgs false
set_option linter.unusedVariables false
set_option maxRecDepth 8000
end Go.Fv.Q
