/-
  A part of the proof of the claim: walks over the program's functions and the plain laws that these need. No condition of its own.
-/
import Derived.Test.YtgjeejogiohefaaGreatDoorUTopAllInkCardPart2
import Derived.Test.YtgjeejogiohefaaGreatDoorUTopAllInkCardPart3
import Derived.Test.YtgjeejogiohefaaGreatDoorFvPart11
import Derived.Test.YtgjeejogiohefaaGreatDoorUTopAllInkCardPart5
import Derived.Test.YtgjeejogiohefaaGreatDoorUTopAllInkCardPart1
import Derived.Test.YtgjeejogiohefaaGreatDoorFvPart9
import Derived.Test.YtgjeejogiohefaaGreatDoorUTopAllInkCardPart4
/-! Cutting: the walk. -/
namespace Go.Fv.U
open Go Go.Proofs
set_option linter.unusedSimpArgs false
set_option linter.unusedVariables false
set_option linter.unnecessarySimpa false
set_option maxRecDepth 8000

theorem covC2 {a b : Item} : ∀ j, j < 2 → ∃ it, lk [(0, a), (1, b)] j = some it
  | 0, _ => ⟨_, rfl⟩
  | 1, _ => ⟨_, rfl⟩
  | _ + 2, h => absurd h (by omega)
def CutIO (p : List Bool) (w h gx gy : Nat) (b : Nb) (l r : List Nb) : Prop :=
  FnIO Tryz.prog 118 [.ptr 0 0, .agg b.av] [(0, .box 145 (ctr p w h gx gy (.own 1))), (1, .row 65 (nbs l))] 2 (.bool true) [(0, .box 145 (ctr p w h gx gy (.own 2))), (2, .row 65 (nbs r))]
set_option maxHeartbeats 4000000 in
theorem cut_none (p : List Bool) (w h : Nat) (hw : w ≤ 4000) (hh : h ≤ 4000) (gx gy : Nat) (l : List Nb) (b : Nb) (hb : InP b w h) (hi : inkB p w b = 0) : CutIO p w h gx gy b l l := by
  have k := tight_no p w h hw hh gx gy l b hb hi
  unfold CutIO
  simp only [ctr, Nb.av] at *
  generalize sumL p w h = sc at *
  refine FnIO.of_vc Tryz.func118 rfl (by decide) (by simp [Tryz.f118]) covC2 [.tmp 4] rfl fun w0 T0 _ => ?_
  simp only [Tryz.f118, argEnv]
  (repeat' first | with_reducible (first | intro _ | refine rc ?_ | refine rl ?_ | refine rh ?_ | refine rt ?_ | refine rf ?_ | refine rs ?_ | refine And.intro ?_ ?_) | omega | simp (maxSteps := 1000000) only [go_sem, simprocAttr, ↓reduceIte])
  refine VcCall.fr (FnFr.of_ok k rfl rfl) (by simp only [noIdR_ok, argOkL, argOk, allOk, argOkN, List.drop_zero, lk, reduceIte, reduceCtorEq, Nat.reduceEqDiff, Option.some.injEq, Item.row.injEq, Item.box.injEq, AV.ro.injEq, exists_eq_left, exists_and_left, exists_eq_left', exists_eq_right, and_assoc, and_true, true_and, List.cons.injEq, exists_eq', exists_eq, nbs, noIdR_ok]) 0 rfl (by simp [rowsB]) ?_
  (repeat' first | with_reducible (first | intro _ | refine rc ?_ | refine rl ?_ | refine rh ?_ | refine rt ?_ | refine rf ?_ | refine rs ?_ | refine And.intro ?_ ?_) | omega | simp (maxSteps := 1000000) only [go_sem, simprocAttr, ↓reduceIte])
  refine RetK.of [(2, 1)] 3 (by decide) (by decide) ?_ rfl ?_ <;> simp only [go_sem, reduceCtorEq, reduceIte, Nat.reduceEqDiff, Nat.reduceLT, Nat.reduceLeDiff, Int.natCast_succ, nbs, renR_ok, belowR_ok]
instance (p : List Bool) (w h gx gy : Nat) (l : List Nb) (t : Nb) : CapsOk [.cell [.cell (ctr p w h gx gy (.ro (nbs l)))], .cell t.av] := ⟨by simp [ctr, sumL, Nb.av, lendB, nbs, noIdR_ok]⟩
set_option maxHeartbeats 4000000 in
theorem cut_some (p : List Bool) (w h : Nat) (hw : w ≤ 4000) (hh : h ≤ 4000) (gx gy : Nat) (hgx : gx ≤ 4000) (hgy : gy ≤ 4000) (l : List Nb) (b t : Nb) (hb : InP b w h) (hi : 0 < inkB p w b) (ht : tightB p w b = t) (htp : InP t w h) (c r : Nat × Nat) (hc : cutC p w t gx = c) (hr : cutR p w t gy = r) (res : List Nb) (hrl : res.length ≤ 5000)
    (hA : c.2 = 0 ∧ r.2 = 0 → res = l ++ [t]) (hB : ¬ (c.2 = 0 ∧ r.2 = 0) → atCols c r gx gy → ∃ l1, CutIO p w h gx gy (firstC t c) l l1 ∧ CutIO p w h gx gy (secondC t c) l1 res)
    (hC : ¬ (c.2 = 0 ∧ r.2 = 0) → ¬ atCols c r gx gy → ∃ l1, CutIO p w h gx gy (firstR t r) l l1 ∧ CutIO p w h gx gy (secondR t r) l1 res) : CutIO p w h gx gy b l res := by
  have kT := tight_ok p w h hw hh gx gy l b hb hi
  rw [ht] at kT
  have kS1 := stretches_ok t.x (t.x + t.w) (by omega) (by unfold InP at htp; omega) 171 [.cell [.cell (ctr p w h gx gy (.ro (nbs l)))], .cell t.av] (colE p w t) fun i h1 h2 => FnFr.of_ok (cutA_ok p w h hw hh gx gy l t i (by unfold InP at htp; omega) htp) rfl rfl
  have kS2 := stretches_ok t.y (t.y + t.h) (by omega) (by unfold InP at htp; omega) 172 [.cell [.cell (ctr p w h gx gy (.ro (nbs l)))], .cell t.av] (rowE p w t) fun i h1 h2 => FnFr.of_ok (cutB_ok p w h hw hh gx gy l t i (by unfold InP at htp; omega) htp) rfl rfl
  rw [Nat.add_sub_cancel_left] at kS1 kS2
  have b1 : ∀ s, s ∈ strs (colE p w t) t.w t.x → s.1 ≤ 10000 ∧ s.2 ≤ 10000 := fun s hs => by
    have := strs_mem _ _ _ _ hs
    unfold InP at htp; omega
  have b2 : ∀ s, s ∈ strs (rowE p w t) t.h t.y → s.1 ≤ 10000 ∧ s.2 ≤ 10000 := fun s hs => by
    have := strs_mem _ _ _ _ hs
    unfold InP at htp; omega
  have kW1 := widest_ok (strs (colE p w t) t.w t.x) (by have := strs_len (colE p w t) t.w t.x; unfold InP at htp; omega) gx hgx b1
  have kW2 := widest_ok (strs (rowE p w t) t.h t.y) (by have := strs_len (rowE p w t) t.h t.y; unfold InP at htp; omega) gy hgy b2
  have hc' : widest gx (strs (colE p w t) t.w t.x) = c := hc
  have hr' : widest gy (strs (rowE p w t) t.h t.y) = r := hr
  rw [hc'] at kW1
  rw [hr'] at kW2
  have hc1 : c.1 ≤ 10000 ∧ c.2 ≤ 10000 := by rw [← hc']; exact wide_bd b1 ⟨by decide, by decide⟩
  have hr1 : r.1 ≤ 10000 ∧ r.2 ≤ 10000 := by rw [← hr']; exact wide_bd b2 ⟨by decide, by decide⟩
  have hc2 : c.2 ≠ 0 → t.x ≤ c.1 ∧ c.1 + c.2 ≤ t.x + t.w := fun h0 => by rw [← hc] at h0 ⊢; exact ⟨(cutC_spec p w h0).1, (cutC_spec p w h0).2.1⟩
  have hr2 : r.2 ≠ 0 → t.y ≤ r.1 ∧ r.1 + r.2 ≤ t.y + t.h := fun h0 => by rw [← hr] at h0 ⊢; exact ⟨(cutR_spec p w h0).1, (cutR_spec p w h0).2.1⟩
  have kA := atColumns_ok c r gx gy hc1 hr1 hgx hgy
  generalize strs (colE p w t) t.w t.x = L1 at *
  generalize strs (rowE p w t) t.h t.y = L2 at *
  obtain ⟨c1, c2⟩ := c
  obtain ⟨r1, r2⟩ := r
  obtain ⟨tx, ty, tw, th⟩ := t
  obtain ⟨bx, by', bw, bh⟩ := b
  simp only [CutIO, ctr, Nb.av, stAv, firstC, secondC, firstR, secondR] at *
  have htp' := htp
  unfold InP at htp'
  dsimp only at htp'
  generalize sumL p w h = sc at *
  refine FnIO.of_vc Tryz.func118 rfl (by decide) (by simp [Tryz.f118]) covC2 [.tmp 4] rfl fun w0 T0 _ => ?_
  simp only [Tryz.f118, argEnv]
  (repeat' first | with_reducible (first | intro _ | refine rc ?_ | refine rl ?_ | refine rh ?_ | refine rt ?_ | refine rf ?_ | refine rs ?_ | refine And.intro ?_ ?_) | omega | simp (maxSteps := 1000000) only [go_sem, simprocAttr, ↓reduceIte])
  refine VcCall.fr (FnFr.of_ok kT rfl rfl) (by simp only [noIdR_ok, argOkL, argOk, allOk, argOkN, List.drop_zero, lk, reduceIte, reduceCtorEq, Nat.reduceEqDiff, Option.some.injEq, Item.row.injEq, Item.box.injEq, AV.ro.injEq, exists_eq_left, exists_and_left, exists_eq_left', exists_eq_right, and_assoc, and_true, true_and, List.cons.injEq, exists_eq', exists_eq, nbs, noIdR_ok]) 0 rfl (by simp [rowsB]) ?_
  (repeat' first | with_reducible (first | intro _ | refine rc ?_ | refine rl ?_ | refine rh ?_ | refine rt ?_ | refine rf ?_ | refine rs ?_ | refine And.intro ?_ ?_) | omega | simp (maxSteps := 1000000) only [go_sem, simprocAttr, ↓reduceIte])
  refine VcDraw.lex [14, 15] [(0, [1]), (1, [1]), (2, [1]), (3, [1]), (4, [1]), (5, [1]), (6, [1]), (7, [1]), (8, [1]), (9, [1]), (10, [1]), (11, [1]), (12, [1]), (13, [1])] (by kernel_rfl) (by kernel_rfl) ?_
  (repeat' first | with_reducible (first | intro _ | refine rc ?_ | refine rl ?_ | refine rh ?_ | refine rt ?_ | refine rf ?_ | refine rs ?_ | refine And.intro ?_ ?_) | omega | simp (maxSteps := 1000000) only [go_sem, simprocAttr, ↓reduceIte])
  refine QV.intro (.ro (stR L1)) ?_ ?_
  · (repeat' first | with_reducible (first | intro _ | refine rc ?_ | refine rl ?_ | refine rh ?_ | refine rt ?_ | refine rf ?_ | refine rs ?_ | refine And.intro ?_ ?_) | omega | simp (maxSteps := 1000000) only [go_sem, simprocAttr, ↓reduceIte])
    refine VcCall.ro (.ro (stR L1)) (FnFr.of_ok kS1 rfl (by simp [noRoRows, noRoItem, noRoRow, noRoL, noRo, stR, stAv])) (by simp only [noIdR_ok, argOkL, argOk, allOk, argOkN, List.drop_zero, lk, reduceIte, reduceCtorEq, Nat.reduceEqDiff, Option.some.injEq, Item.row.injEq, Item.box.injEq, AV.ro.injEq, exists_eq_left, exists_and_left, exists_eq_left', exists_eq_right, and_assoc, and_true, true_and, List.cons.injEq, exists_eq', exists_eq, nbs, noIdR_ok, Int.natCast_add]) (by simp [outOk, argOkL, allOk, argOk, argOkN, lk, noIdR_ok, stR]) rfl ?_
    (repeat' first | with_reducible (first | intro _ | refine rc ?_ | refine rl ?_ | refine rh ?_ | refine rt ?_ | refine rf ?_ | refine rs ?_ | refine And.intro ?_ ?_) | omega | simp (maxSteps := 1000000) only [go_sem, simprocAttr, ↓reduceIte])
  (repeat' first | with_reducible (first | intro _ | refine rc ?_ | refine rl ?_ | refine rh ?_ | refine rt ?_ | refine rf ?_ | refine rs ?_ | refine And.intro ?_ ?_) | omega | simp (maxSteps := 1000000) only [go_sem, simprocAttr, ↓reduceIte])
  refine QV.intro (.agg [.int .i64 c1, .int .i64 c2]) ?_ ?_
  · (repeat' first | with_reducible (first | intro _ | refine rc ?_ | refine rl ?_ | refine rh ?_ | refine rt ?_ | refine rf ?_ | refine rs ?_ | refine And.intro ?_ ?_) | omega | simp (maxSteps := 1000000) only [go_sem, simprocAttr, ↓reduceIte])
    refine VcCall.fr (FnFr.of_ok kW1 rfl rfl) (by simp only [noIdR_ok, argOkL, argOk, allOk, argOkN, List.drop_zero, lk, reduceIte, reduceCtorEq, Nat.reduceEqDiff, Option.some.injEq, Item.row.injEq, Item.box.injEq, AV.ro.injEq, exists_eq_left, exists_and_left, exists_eq_left', exists_eq_right, and_assoc, and_true, true_and, List.cons.injEq, exists_eq', exists_eq, stR, noIdR_ok]) 0 rfl (by simp [rowsB]) ?_
    (repeat' first | with_reducible (first | intro _ | refine rc ?_ | refine rl ?_ | refine rh ?_ | refine rt ?_ | refine rf ?_ | refine rs ?_ | refine And.intro ?_ ?_) | omega | simp (maxSteps := 1000000) only [go_sem, simprocAttr, ↓reduceIte])
  (repeat' first | with_reducible (first | intro _ | refine rc ?_ | refine rl ?_ | refine rh ?_ | refine rt ?_ | refine rf ?_ | refine rs ?_ | refine And.intro ?_ ?_) | omega | simp (maxSteps := 1000000) only [go_sem, simprocAttr, ↓reduceIte])
  · refine VcCall.fr (FnFr.of_ok kW1 rfl rfl) (by simp only [noIdR_ok, argOkL, argOk, allOk, argOkN, List.drop_zero, lk, reduceIte, reduceCtorEq, Nat.reduceEqDiff, Option.some.injEq, Item.row.injEq, Item.box.injEq, AV.ro.injEq, exists_eq_left, exists_and_left, exists_eq_left', exists_eq_right, and_assoc, and_true, true_and, List.cons.injEq, exists_eq', exists_eq, stR, noIdR_ok]) 0 rfl (by simp [rowsB]) ?_
    (repeat' first | with_reducible (first | intro _ | refine rc ?_ | refine rl ?_ | refine rh ?_ | refine rt ?_ | refine rf ?_ | refine rs ?_ | refine And.intro ?_ ?_) | omega | simp (maxSteps := 1000000) only [go_sem, simprocAttr, ↓reduceIte])
  · refine VcCall.ro (.ro (stR L1)) (FnFr.of_ok kS1 rfl (by simp [noRoRows, noRoItem, noRoRow, noRoL, noRo, stR, stAv])) (by simp only [noIdR_ok, argOkL, argOk, allOk, argOkN, List.drop_zero, lk, reduceIte, reduceCtorEq, Nat.reduceEqDiff, Option.some.injEq, Item.row.injEq, Item.box.injEq, AV.ro.injEq, exists_eq_left, exists_and_left, exists_eq_left', exists_eq_right, and_assoc, and_true, true_and, List.cons.injEq, exists_eq', exists_eq, nbs, noIdR_ok, Int.natCast_add]) (by simp [outOk, argOkL, allOk, argOk, argOkN, lk, noIdR_ok, stR]) rfl ?_
    (repeat' first | with_reducible (first | intro _ | refine rc ?_ | refine rl ?_ | refine rh ?_ | refine rt ?_ | refine rf ?_ | refine rs ?_ | refine And.intro ?_ ?_) | omega | simp (maxSteps := 1000000) only [go_sem, simprocAttr, ↓reduceIte])
  refine VcDraw.lex [14, 15] [(0, [1]), (1, [1]), (2, [1]), (3, [1]), (4, [1]), (5, [1]), (6, [1]), (7, [1]), (8, [1]), (9, [1]), (10, [1]), (11, [1]), (12, [1]), (13, [1])] (by kernel_rfl) (by kernel_rfl) ?_
  (repeat' first | with_reducible (first | intro _ | refine rc ?_ | refine rl ?_ | refine rh ?_ | refine rt ?_ | refine rf ?_ | refine rs ?_ | refine And.intro ?_ ?_) | omega | simp (maxSteps := 1000000) only [go_sem, simprocAttr, ↓reduceIte])
  refine QV.intro (.ro (stR L2)) ?_ ?_
  · (repeat' first | with_reducible (first | intro _ | refine rc ?_ | refine rl ?_ | refine rh ?_ | refine rt ?_ | refine rf ?_ | refine rs ?_ | refine And.intro ?_ ?_) | omega | simp (maxSteps := 1000000) only [go_sem, simprocAttr, ↓reduceIte])
    refine VcCall.ro (.ro (stR L2)) (FnFr.of_ok kS2 rfl (by simp [noRoRows, noRoItem, noRoRow, noRoL, noRo, stR, stAv])) (by simp only [noIdR_ok, argOkL, argOk, allOk, argOkN, List.drop_zero, lk, reduceIte, reduceCtorEq, Nat.reduceEqDiff, Option.some.injEq, Item.row.injEq, Item.box.injEq, AV.ro.injEq, exists_eq_left, exists_and_left, exists_eq_left', exists_eq_right, and_assoc, and_true, true_and, List.cons.injEq, exists_eq', exists_eq, nbs, noIdR_ok, Int.natCast_add]) (by simp [outOk, argOkL, allOk, argOk, argOkN, lk, noIdR_ok, stR]) rfl ?_
    (repeat' first | with_reducible (first | intro _ | refine rc ?_ | refine rl ?_ | refine rh ?_ | refine rt ?_ | refine rf ?_ | refine rs ?_ | refine And.intro ?_ ?_) | omega | simp (maxSteps := 1000000) only [go_sem, simprocAttr, ↓reduceIte])
  (repeat' first | with_reducible (first | intro _ | refine rc ?_ | refine rl ?_ | refine rh ?_ | refine rt ?_ | refine rf ?_ | refine rs ?_ | refine And.intro ?_ ?_) | omega | simp (maxSteps := 1000000) only [go_sem, simprocAttr, ↓reduceIte])
  refine QV.intro (.agg [.int .i64 r1, .int .i64 r2]) ?_ ?_
  · (repeat' first | with_reducible (first | intro _ | refine rc ?_ | refine rl ?_ | refine rh ?_ | refine rt ?_ | refine rf ?_ | refine rs ?_ | refine And.intro ?_ ?_) | omega | simp (maxSteps := 1000000) only [go_sem, simprocAttr, ↓reduceIte])
    refine VcCall.fr (FnFr.of_ok kW2 rfl rfl) (by simp only [noIdR_ok, argOkL, argOk, allOk, argOkN, List.drop_zero, lk, reduceIte, reduceCtorEq, Nat.reduceEqDiff, Option.some.injEq, Item.row.injEq, Item.box.injEq, AV.ro.injEq, exists_eq_left, exists_and_left, exists_eq_left', exists_eq_right, and_assoc, and_true, true_and, List.cons.injEq, exists_eq', exists_eq, stR, noIdR_ok]) 0 rfl (by simp [rowsB]) ?_
    (repeat' first | with_reducible (first | intro _ | refine rc ?_ | refine rl ?_ | refine rh ?_ | refine rt ?_ | refine rf ?_ | refine rs ?_ | refine And.intro ?_ ?_) | omega | simp (maxSteps := 1000000) only [go_sem, simprocAttr, ↓reduceIte])
  (repeat' first | with_reducible (first | intro _ | refine rc ?_ | refine rl ?_ | refine rh ?_ | refine rt ?_ | refine rf ?_ | refine rs ?_ | refine And.intro ?_ ?_) | omega | simp (maxSteps := 1000000) only [go_sem, simprocAttr, ↓reduceIte])
  · refine VcCall.fr (FnFr.of_ok kW2 rfl rfl) (by simp only [noIdR_ok, argOkL, argOk, allOk, argOkN, List.drop_zero, lk, reduceIte, reduceCtorEq, Nat.reduceEqDiff, Option.some.injEq, Item.row.injEq, Item.box.injEq, AV.ro.injEq, exists_eq_left, exists_and_left, exists_eq_left', exists_eq_right, and_assoc, and_true, true_and, List.cons.injEq, exists_eq', exists_eq, stR, noIdR_ok]) 0 rfl (by simp [rowsB]) ?_
    (repeat' first | with_reducible (first | intro _ | refine rc ?_ | refine rl ?_ | refine rh ?_ | refine rt ?_ | refine rf ?_ | refine rs ?_ | refine And.intro ?_ ?_) | omega | simp (maxSteps := 1000000) only [go_sem, simprocAttr, ↓reduceIte])
  · refine VcCall.ro (.ro (stR L2)) (FnFr.of_ok kS2 rfl (by simp [noRoRows, noRoItem, noRoRow, noRoL, noRo, stR, stAv])) (by simp only [noIdR_ok, argOkL, argOk, allOk, argOkN, List.drop_zero, lk, reduceIte, reduceCtorEq, Nat.reduceEqDiff, Option.some.injEq, Item.row.injEq, Item.box.injEq, AV.ro.injEq, exists_eq_left, exists_and_left, exists_eq_left', exists_eq_right, and_assoc, and_true, true_and, List.cons.injEq, exists_eq', exists_eq, nbs, noIdR_ok, Int.natCast_add]) (by simp [outOk, argOkL, allOk, argOk, argOkN, lk, noIdR_ok, stR]) rfl ?_
    (repeat' first | with_reducible (first | intro _ | refine rc ?_ | refine rl ?_ | refine rh ?_ | refine rt ?_ | refine rf ?_ | refine rs ?_ | refine And.intro ?_ ?_) | omega | simp (maxSteps := 1000000) only [go_sem, simprocAttr, ↓reduceIte])
  refine VcDraw.forkCut (.quiet 0 (.quiet 1 (.eff 2 [1, 0] (.eff 3 [1, 0] (.eff 4 [1] (.eff 5 [] .done .none) .none) .none) (.eff 3 [1, 0] (.eff 2 [1, 0] (.eff 4 [1] (.eff 5 [] .done .none) .none) .none) .none)))) (by kernel_rfl) (by kernel_rfl) (by kernel_rfl) ⟨137, [(2, .ptr 2 0), (3, .ptr 3 0), (6, .ptr 4 0), (7, .ptr 5 0), (8, .ptr 6 0), (9, .ptr 7 0)], [(0, .box 145 [.int .i64 w, .int .i64 h, .ro (.bools p), .cell sc, .int .i64 gx, .int .i64 gy, .own 1]), (1, .row 65 (nbs l)), (2, .box 141 [.ptr 0 0]), (3, .box 65 [.int .i64 tx, .int .i64 ty, .int .i64 tw, .int .i64 th]), (4, .box 156 [.int .i64 c1, .int .i64 c2]), (5, .box 156 [.int .i64 r1, .int .i64 r2]), (6, .box 65 [.int .i64 tx, .int .i64 ty, .int .i64 tw, .int .i64 th]), (7, .box 65 [.int .i64 tx, .int .i64 ty, .int .i64 tw, .int .i64 th])], 8⟩ ?_ ?_
  · (repeat' first | with_reducible (first | intro _ | refine rc ?_ | refine rl ?_ | refine rh ?_ | refine rt ?_ | refine rf ?_ | refine rs ?_ | refine And.intro ?_ ?_) | omega | simp (maxSteps := 1000000) only [go_sem, simprocAttr, ↓reduceIte])
    all_goals refine Ent.autoK 2 rfl (by show 2 ≤ 8; decide) ?_ ?_ <;> simp only [go_sem, reduceCtorEq, reduceIte, Nat.reduceEqDiff, Nat.reduceLT, Nat.reduceLeDiff, Int.natCast_succ, fromL, nbs, renR_ok, belowR_ok]
  (repeat' first | with_reducible (first | intro _ | refine rc ?_ | refine rl ?_ | refine rh ?_ | refine rt ?_ | refine rf ?_ | refine rs ?_ | refine And.intro ?_ ?_) | omega | simp (maxSteps := 1000000) only [go_sem, simprocAttr, ↓reduceIte])
  · rename_i h0
    have hres := hA (by omega)
    subst hres
    have hl5 : l.length + 1 ≤ 5000 := by simpa using hrl
    refine VcDraw.lex [6, 7, 10] [(0, [1, 2]), (1, [1]), (2, [1]), (3, [1]), (4, [1])] (by kernel_rfl) (by kernel_rfl) ?_
    (repeat' first | with_reducible (first | intro _ | refine rc ?_ | refine rl ?_ | refine rh ?_ | refine rt ?_ | refine rf ?_ | refine rs ?_ | refine And.intro ?_ ?_) | omega | simp (maxSteps := 1000000) only [go_sem, simprocAttr, ↓reduceIte, nbs, List.length_map])
    have hd : decide (((l.length + 1 : Nat) : Int) ≤ 5000) = true := decide_eq_true (by omega)
    refine RetK.of [(2, 9)] 3 (by decide) (by decide) ?_ rfl ?_ <;> simp only [go_sem, reduceCtorEq, reduceIte, Nat.reduceEqDiff, Nat.reduceLT, Nat.reduceLeDiff, Int.natCast_succ, hd, nbs, renR_ok, belowR_ok, List.map_append, List.map_cons, List.map_nil, Nb.av]
    omega
  · rename_i h0
    have h0' : ¬ (c2 = 0 ∧ r2 = 0) := by omega
    refine VcDraw.lex [] [] (by kernel_rfl) (by kernel_rfl) ?_
    (repeat' first | with_reducible (first | intro _ | refine rc ?_ | refine rl ?_ | refine rh ?_ | refine rt ?_ | refine rf ?_ | refine rs ?_ | refine And.intro ?_ ?_) | omega | simp (maxSteps := 1000000) only [go_sem, simprocAttr, ↓reduceIte])
    by_cases hat : atCols (c1, c2) (r1, r2) gx gy
    · obtain ⟨l1, k1, k2⟩ := hB h0' hat
      have hatd : decide (0 < c2 ∧ (r2 = 0 ∨ r2 * gx < c2 * gy)) = true := decide_eq_true hat
      rw [hatd] at kA
      have h3 := hc2 (by have := hat.1; dsimp only at this; omega)
      refine QV.intro (.bool true) ?_ ?_
      · (repeat' first | with_reducible (first | intro _ | refine rc ?_ | refine rl ?_ | refine rh ?_ | refine rt ?_ | refine rf ?_ | refine rs ?_ | refine And.intro ?_ ?_) | omega | simp (maxSteps := 1000000) only [go_sem, simprocAttr, ↓reduceIte])
        refine VcCall.k (kA) ?_
        (repeat' first | with_reducible (first | intro _ | refine rc ?_ | refine rl ?_ | refine rh ?_ | refine rt ?_ | refine rf ?_ | refine rs ?_ | refine And.intro ?_ ?_) | omega | simp (maxSteps := 1000000) only [go_sem, simprocAttr, ↓reduceIte])
      (repeat' first | with_reducible (first | intro _ | refine rc ?_ | refine rl ?_ | refine rh ?_ | refine rt ?_ | refine rf ?_ | refine rs ?_ | refine And.intro ?_ ?_) | omega | simp (maxSteps := 1000000) only [go_sem, simprocAttr, ↓reduceIte])
      refine VcDraw.lex [9, 11] [(1, [1]), (2, [1]), (3, [1]), (4, [1]), (5, [1]), (6, [1]), (7, [1])] (by kernel_rfl) (by kernel_rfl) ?_
      (repeat' first | with_reducible (first | intro _ | refine rc ?_ | refine rl ?_ | refine rh ?_ | refine rt ?_ | refine rf ?_ | refine rs ?_ | refine And.intro ?_ ?_) | omega | simp (maxSteps := 1000000) only [go_sem, simprocAttr, ↓reduceIte])
      have e1 : ((c1 - tx : Nat) : Int) = (c1 : Int) - tx := by omega
      have e2 : ((c1 + c2 : Nat) : Int) = (c1 : Int) + c2 := by omega
      have e3 : ((tx + tw - (c1 + c2) : Nat) : Int) = (tx : Int) + tw - ((c1 : Int) + c2) := by omega
      rw [e1] at k1
      rw [e2, e3] at k2
      refine VcCall.io [0, 1] k1 (by decide) (by simp [renL, ren, ioN]) rfl (by simp [subOk, ioN, lk, Item.ren, Item.below, ren, renL, belowL, Fv.below, nbs, renR_ok, belowR_ok]) covC2 3 (by decide) rfl (by simp [rowsB, Item.below, Fv.below, belowL, nbs, belowR_ok]) ?_
      (repeat' first | with_reducible (first | intro _ | refine rc ?_ | refine rl ?_ | refine rh ?_ | refine rt ?_ | refine rf ?_ | refine rs ?_ | refine And.intro ?_ ?_) | omega | simp (maxSteps := 1000000) only [go_sem, simprocAttr, ↓reduceIte, S.ioS, ioRows, ioN, delL, Item.ren, ren, renL, nbs, renR_ok, List.length_cons, List.length_nil, List.getElem?_cons_zero, List.getElem?_cons_succ, List.getElem?_nil, List.cons_append, List.nil_append, Nat.reduceAdd, Nat.sub_self, Nat.add_zero, List.filter])
      refine VcCall.io [0, 8] k2 (by decide) (by simp [renL, ren, ioN]) rfl (by simp [subOk, ioN, lk, Item.ren, Item.below, ren, renL, belowL, Fv.below, nbs, renR_ok, belowR_ok]) covC2 3 (by decide) rfl (by simp [rowsB, Item.below, Fv.below, belowL, nbs, belowR_ok]) ?_
      (repeat' first | with_reducible (first | intro _ | refine rc ?_ | refine rl ?_ | refine rh ?_ | refine rt ?_ | refine rf ?_ | refine rs ?_ | refine And.intro ?_ ?_) | omega | simp (maxSteps := 1000000) only [go_sem, simprocAttr, ↓reduceIte, S.ioS, ioRows, ioN, delL, Item.ren, ren, renL, nbs, renR_ok, List.length_cons, List.length_nil, List.getElem?_cons_zero, List.getElem?_cons_succ, List.getElem?_nil, List.cons_append, List.nil_append, Nat.reduceAdd, Nat.sub_self, Nat.add_zero, List.filter])
      refine RetK.of [(2, 9)] 3 (by decide) (by decide) ?_ rfl ?_ <;> simp only [go_sem, reduceCtorEq, reduceIte, Nat.reduceEqDiff, Nat.reduceLT, Nat.reduceLeDiff, Int.natCast_succ, nbs, renR_ok, belowR_ok]
    · obtain ⟨l1, k1, k2⟩ := hC h0' hat
      have hatd : decide (0 < c2 ∧ (r2 = 0 ∨ r2 * gx < c2 * gy)) = false := decide_eq_false hat
      rw [hatd] at kA
      have h3 := hr2 (by intro h9; exact hat ⟨by show 0 < c2; omega, .inl h9⟩)
      refine QV.intro (.bool false) ?_ ?_
      · (repeat' first | with_reducible (first | intro _ | refine rc ?_ | refine rl ?_ | refine rh ?_ | refine rt ?_ | refine rf ?_ | refine rs ?_ | refine And.intro ?_ ?_) | omega | simp (maxSteps := 1000000) only [go_sem, simprocAttr, ↓reduceIte])
        refine VcCall.k (kA) ?_
        (repeat' first | with_reducible (first | intro _ | refine rc ?_ | refine rl ?_ | refine rh ?_ | refine rt ?_ | refine rf ?_ | refine rs ?_ | refine And.intro ?_ ?_) | omega | simp (maxSteps := 1000000) only [go_sem, simprocAttr, ↓reduceIte])
      (repeat' first | with_reducible (first | intro _ | refine rc ?_ | refine rl ?_ | refine rh ?_ | refine rt ?_ | refine rf ?_ | refine rs ?_ | refine And.intro ?_ ?_) | omega | simp (maxSteps := 1000000) only [go_sem, simprocAttr, ↓reduceIte])
      refine VcDraw.lex [9, 11] [(1, [1]), (2, [1]), (3, [1]), (4, [1]), (5, [1]), (6, [1]), (7, [1])] (by kernel_rfl) (by kernel_rfl) ?_
      (repeat' first | with_reducible (first | intro _ | refine rc ?_ | refine rl ?_ | refine rh ?_ | refine rt ?_ | refine rf ?_ | refine rs ?_ | refine And.intro ?_ ?_) | omega | simp (maxSteps := 1000000) only [go_sem, simprocAttr, ↓reduceIte])
      have e1 : ((r1 - ty : Nat) : Int) = (r1 : Int) - ty := by omega
      have e2 : ((r1 + r2 : Nat) : Int) = (r1 : Int) + r2 := by omega
      have e3 : ((ty + th - (r1 + r2) : Nat) : Int) = (ty : Int) + th - ((r1 : Int) + r2) := by omega
      rw [e1] at k1
      rw [e2, e3] at k2
      refine VcCall.io [0, 1] k1 (by decide) (by simp [renL, ren, ioN]) rfl (by simp [subOk, ioN, lk, Item.ren, Item.below, ren, renL, belowL, Fv.below, nbs, renR_ok, belowR_ok]) covC2 3 (by decide) rfl (by simp [rowsB, Item.below, Fv.below, belowL, nbs, belowR_ok]) ?_
      (repeat' first | with_reducible (first | intro _ | refine rc ?_ | refine rl ?_ | refine rh ?_ | refine rt ?_ | refine rf ?_ | refine rs ?_ | refine And.intro ?_ ?_) | omega | simp (maxSteps := 1000000) only [go_sem, simprocAttr, ↓reduceIte, S.ioS, ioRows, ioN, delL, Item.ren, ren, renL, nbs, renR_ok, List.length_cons, List.length_nil, List.getElem?_cons_zero, List.getElem?_cons_succ, List.getElem?_nil, List.cons_append, List.nil_append, Nat.reduceAdd, Nat.sub_self, Nat.add_zero, List.filter])
      refine VcCall.io [0, 8] k2 (by decide) (by simp [renL, ren, ioN]) rfl (by simp [subOk, ioN, lk, Item.ren, Item.below, ren, renL, belowL, Fv.below, nbs, renR_ok, belowR_ok]) covC2 3 (by decide) rfl (by simp [rowsB, Item.below, Fv.below, belowL, nbs, belowR_ok]) ?_
      (repeat' first | with_reducible (first | intro _ | refine rc ?_ | refine rl ?_ | refine rh ?_ | refine rt ?_ | refine rf ?_ | refine rs ?_ | refine And.intro ?_ ?_) | omega | simp (maxSteps := 1000000) only [go_sem, simprocAttr, ↓reduceIte, S.ioS, ioRows, ioN, delL, Item.ren, ren, renL, nbs, renR_ok, List.length_cons, List.length_nil, List.getElem?_cons_zero, List.getElem?_cons_succ, List.getElem?_nil, List.cons_append, List.nil_append, Nat.reduceAdd, Nat.sub_self, Nat.add_zero, List.filter])
      refine RetK.of [(2, 9)] 3 (by decide) (by decide) ?_ rfl ?_ <;> simp only [go_sem, reduceCtorEq, reduceIte, Nat.reduceEqDiff, Nat.reduceLT, Nat.reduceLeDiff, Int.natCast_succ, nbs, renR_ok, belowR_ok]
theorem cutW_ok (p : List Bool) (w h : Nat) (hw : w ≤ 4000) (hh : h ≤ 4000) (gx gy : Nat) (hgx : gx ≤ 4000) (hgy : gy ≤ 4000) : ∀ (n : Nat) (b : Nb) (l : List Nb), b.w + b.h < n → InP b w h → l.length + inkB p w b ≤ 5000 → CutIO p w h gx gy b l (l ++ cutL p w gx gy n b)
  | n + 1, b, l, hn, hb, hl => by
    by_cases h0 : inkB p w b = 0
    · have e : cutL p w gx gy (n + 1) b = [] := by unfold cutL; rw [if_pos h0]
      rw [e, List.append_nil]
      exact cut_none p w h hw hh gx gy l b hb h0
    · have hi : 0 < inkB p w b := by omega
      obtain ⟨hp, hti⟩ := tightB_part p w (b := b) hi
      have hlen := (cutL_spec p w gx gy (n + 1) b hn).len
      have htp := hb.of hp
      have hpp := hp
      unfold PartOf at hpp
      refine cut_some p w h hw hh gx gy hgx hgy l b (tightB p w b) hb hi rfl htp _ _ rfl rfl _ (by rw [List.length_append]; omega) (fun hA => ?_) (fun hA hB => ?_) fun hA hB => ?_
      · unfold cutL; rw [if_neg h0, if_pos hA]
      · have e : cutL p w gx gy (n + 1) b = cutL p w gx gy n (firstC (tightB p w b) (cutC p w (tightB p w b) gx)) ++ cutL p w gx gy n (secondC (tightB p w b) (cutC p w (tightB p w b) gx)) := by
          rw [cutL, if_neg h0, if_neg hA, if_pos hB]
        rw [e, ← List.append_assoc]
        have hc : (cutC p w (tightB p w b) gx).2 ≠ 0 := by unfold atCols at hB; omega
        obtain ⟨c1, c2, c3⟩ := cutC_spec p w hc
        have hs := inkC p w c1 c2 c3
        rw [hti] at hs
        generalize tightB p w b = t at *
        generalize cutC p w t gx = c at *
        have hn1 : (firstC t c).w + (firstC t c).h < n := by dsimp only [firstC]; omega
        have hn2 : (secondC t c).w + (secondC t c).h < n := by dsimp only [secondC]; omega
        have hl1 := (cutL_spec p w gx gy n (firstC t c) hn1).len
        refine ⟨_, cutW_ok p w h hw hh gx gy hgx hgy n (firstC t c) l hn1 ?_ (by omega), cutW_ok p w h hw hh gx gy hgx hgy n (secondC t c) _ hn2 ?_ (by rw [List.length_append]; omega)⟩
        · unfold InP firstC at *; dsimp only; omega
        · unfold InP secondC at *; dsimp only; omega
      · have e : cutL p w gx gy (n + 1) b = cutL p w gx gy n (firstR (tightB p w b) (cutR p w (tightB p w b) gy)) ++ cutL p w gx gy n (secondR (tightB p w b) (cutR p w (tightB p w b) gy)) := by
          rw [cutL, if_neg h0, if_neg hA, if_neg hB]
        rw [e, ← List.append_assoc]
        have hc : (cutR p w (tightB p w b) gy).2 ≠ 0 := by unfold atCols at hB; omega
        obtain ⟨c1, c2, c3⟩ := cutR_spec p w hc
        have hs := inkR p w c1 c2 c3
        rw [hti] at hs
        generalize tightB p w b = t at *
        generalize cutR p w t gy = c at *
        have hn1 : (firstR t c).w + (firstR t c).h < n := by dsimp only [firstR]; omega
        have hn2 : (secondR t c).w + (secondR t c).h < n := by dsimp only [secondR]; omega
        have hl1 := (cutL_spec p w gx gy n (firstR t c) hn1).len
        refine ⟨_, cutW_ok p w h hw hh gx gy hgx hgy n (firstR t c) l hn1 ?_ (by omega), cutW_ok p w h hw hh gx gy hgx hgy n (secondR t c) _ hn2 ?_ (by rw [List.length_append]; omega)⟩
        · unfold InP firstR at *; dsimp only; omega
        · unfold InP secondR at *; dsimp only; omega
end Go.Fv.U

/-! Split: the walk. -/
namespace Go.Fv.U
open Go Go.Proofs
set_option linter.unusedSimpArgs false
set_option linter.unusedVariables false
set_option linter.unnecessarySimpa false
set_option maxRecDepth 8000

set_option maxHeartbeats 4000000 in
theorem splitErr_ok (w h : Nat) (hw1 : 1 ≤ w) (hw : w ≤ 4000) (hh1 : 1 ≤ h) (hh : h ≤ 4000) (hwh : w * h ≤ 1048576) (p : List Bool) (hp : p.length = w * h) (X Y W H gx gy : Int) (he : pgErr w h X Y W H [gx, gy] ≠ 0) :
    FnOk Tryz.prog 56 [.agg [.int .i64 w, .int .i64 h, .ro (.bools p)], .agg [.int .i64 X, .int .i64 Y, .int .i64 W, .int .i64 H], .int .i64 gx, .int .i64 gy] (.tup [.own 0, .int .i64 (pgErr w h X Y W H [gx, gy])]) [(0, .row 65 (nbs []))] := by
  have k1 := checkBothG_ok w h hw1 hw hh1 hh hwh p hp X Y W H
  have k2 := badGap_ok [gx, gy] (by show 2 ≤ 1000; decide)
  by_cases hb : BoxIn w h X Y W H
  · have hg : [gx, gy].any gapBad = true := by
      unfold pgErr at he
      rw [if_pos hb] at he
      cases hc : [gx, gy].any gapBad with
      | true => rfl
      | false => rw [hc] at he; exact absurd rfl he
    have e : pgErr w h X Y W H [gx, gy] = 3 := by unfold pgErr; rw [if_pos hb, hg]; rfl
    rw [e]
    rw [if_pos hb] at k1
    rw [hg] at k2
    refine FnOk.of_vc Tryz.func56 rfl (by decide) (by simp [Tryz.f56]) [.tmp 8, .tmp 9] rfl fun w0 T0 _ => ?_
    simp only [Tryz.f56, argEnv]
    (repeat' first | with_reducible (first | intro _ | refine rc ?_ | refine rl ?_ | refine rh ?_ | refine rt ?_ | refine rf ?_ | refine rs ?_ | refine And.intro ?_ ?_) | omega | simp (maxSteps := 1000000) only [go_sem, simprocAttr, ↓reduceIte])
    refine VcCall.k (k1) ?_
    (repeat' first | with_reducible (first | intro _ | refine rc ?_ | refine rl ?_ | refine rh ?_ | refine rt ?_ | refine rf ?_ | refine rs ?_ | refine And.intro ?_ ?_) | omega | simp (maxSteps := 1000000) only [go_sem, simprocAttr, ↓reduceIte])
    refine VcCall.k (k2) ?_
    (repeat' first | with_reducible (first | intro _ | refine rc ?_ | refine rl ?_ | refine rh ?_ | refine rt ?_ | refine rf ?_ | refine rs ?_ | refine And.intro ?_ ?_) | omega | simp (maxSteps := 1000000) only [go_sem, simprocAttr, ↓reduceIte])
    refine Ret.auto 1 ?_ rfl ?_ <;> simp only [go_sem, reduceCtorEq, reduceIte, Nat.reduceEqDiff, Nat.reduceLT, Nat.reduceLeDiff, Int.natCast_succ, Post, nbs, renR_ok, belowR_ok, List.map_nil]
  · have e : pgErr w h X Y W H [gx, gy] = 13 := by unfold pgErr; rw [if_neg hb]
    rw [e]
    rw [if_neg hb] at k1
    refine FnOk.of_vc Tryz.func56 rfl (by decide) (by simp [Tryz.f56]) [.tmp 8, .tmp 9] rfl fun w0 T0 _ => ?_
    simp only [Tryz.f56, argEnv]
    (repeat' first | with_reducible (first | intro _ | refine rc ?_ | refine rl ?_ | refine rh ?_ | refine rt ?_ | refine rf ?_ | refine rs ?_ | refine And.intro ?_ ?_) | omega | simp (maxSteps := 1000000) only [go_sem, simprocAttr, ↓reduceIte])
    refine VcCall.k (k1) ?_
    (repeat' first | with_reducible (first | intro _ | refine rc ?_ | refine rl ?_ | refine rh ?_ | refine rt ?_ | refine rf ?_ | refine rs ?_ | refine And.intro ?_ ?_) | omega | simp (maxSteps := 1000000) only [go_sem, simprocAttr, ↓reduceIte])
    refine Ret.auto 1 ?_ rfl ?_ <;> simp only [go_sem, reduceCtorEq, reduceIte, Nat.reduceEqDiff, Nat.reduceLT, Nat.reduceLeDiff, Int.natCast_succ, Post, nbs, renR_ok, belowR_ok, List.map_nil]
set_option maxHeartbeats 4000000 in
theorem splitB_ok (w h : Nat) (hw1 : 1 ≤ w) (hw : w ≤ 4000) (hh1 : 1 ≤ h) (hh : h ≤ 4000) (hwh : w * h ≤ 5000) (p : List Bool) (hp : p.length = w * h) (b : Nb) (hb : InP b w h) (hbw : 1 ≤ b.w) (hbh : 1 ≤ b.h) (gx gy : Nat) (hgx : gx ≤ 4000) (hgy : gy ≤ 4000) (hgx1 : 1 ≤ gx) (hgy1 : 1 ≤ gy) :
    FnOk Tryz.prog 56 [.agg [.int .i64 w, .int .i64 h, .ro (.bools p)], .agg b.av, .int .i64 gx, .int .i64 gy] (.tup [.own 0, .int .i64 0]) [(0, .row 65 (nbs (cutL p w gx gy (b.w + b.h + 1) b)))] := by
  have k1 := checkBothG_ok w h hw1 hw hh1 hh (by omega) p hp b.x b.y b.w b.h
  rw [if_pos (show BoxIn w h b.x b.y b.w b.h by unfold BoxIn InP at *; omega)] at k1
  have k2 := badGap_ok [(gx : Int), (gy : Int)] (by show 2 ≤ 1000; decide)
  rw [show [(gx : Int), (gy : Int)].any gapBad = false by simp [gapBad]; omega] at k2
  have k3 := inkSums_ok w h hw hh p hp
  have hi : inkB p w b ≤ 5000 := by
    have h1 := inkN_le p w b.x b.y b.w b.h
    have h2 : b.w * b.h ≤ w * h := Nat.mul_le_mul (by unfold InP at hb; omega) (by unfold InP at hb; omega)
    rw [Nat.mul_comm] at h1; unfold inkB; omega
  have k4 := cutW_ok p w h hw hh gx gy hgx hgy (b.w + b.h + 1) b [] (by omega) hb (by simpa using hi)
  rw [List.nil_append] at k4
  generalize cutL p w gx gy (b.w + b.h + 1) b = L at *
  obtain ⟨bx, by', bw, bh⟩ := b
  simp only [CutIO, ctr, sumL, Nb.av] at *
  generalize sumsAt (inkV p) w ((w + 1) * (h + 1)) ((w + 1) * (h + 1)) = SL at *
  refine FnOk.of_vc Tryz.func56 rfl (by decide) (by simp [Tryz.f56]) [.tmp 8, .tmp 9] rfl fun w0 T0 _ => ?_
  simp only [Tryz.f56, argEnv]
  (repeat' first | with_reducible (first | intro _ | refine rc ?_ | refine rl ?_ | refine rh ?_ | refine rt ?_ | refine rf ?_ | refine rs ?_ | refine And.intro ?_ ?_) | omega | simp (maxSteps := 1000000) only [go_sem, simprocAttr, ↓reduceIte])
  refine VcCall.k (k1) ?_
  (repeat' first | with_reducible (first | intro _ | refine rc ?_ | refine rl ?_ | refine rh ?_ | refine rt ?_ | refine rf ?_ | refine rs ?_ | refine And.intro ?_ ?_) | omega | simp (maxSteps := 1000000) only [go_sem, simprocAttr, ↓reduceIte])
  refine VcCall.k (k2) ?_
  (repeat' first | with_reducible (first | intro _ | refine rc ?_ | refine rl ?_ | refine rh ?_ | refine rt ?_ | refine rf ?_ | refine rs ?_ | refine And.intro ?_ ?_) | omega | simp (maxSteps := 1000000) only [go_sem, simprocAttr, ↓reduceIte])
  refine VcDraw.lexCut [6] [] (by kernel_rfl) (by kernel_rfl) ⟨37, [(11, .ptr 0 0), (5, .ptr 2 0)], [(0, .box 145 [.int .i64 w, .int .i64 h, .ro (.bools p), .cell [.int .i64 w, .int .i64 h, .ro (.ints .i64 SL)], .int .i64 gx, .int .i64 gy, .own 1]), (1, .row 65 (nbs [])), (2, .box 65 [.int .i64 bx, .int .i64 by', .int .i64 bw, .int .i64 bh])], 3⟩ ?_ ?_
  · (repeat' first | with_reducible (first | intro _ | refine rc ?_ | refine rl ?_ | refine rh ?_ | refine rt ?_ | refine rf ?_ | refine rs ?_ | refine And.intro ?_ ?_) | omega | simp (maxSteps := 1000000) only [go_sem, simprocAttr, ↓reduceIte])
    refine QV.intro (.cell [.int .i64 w, .int .i64 h, .ro (.ints .i64 SL)]) ?_ ?_
    · (repeat' first | with_reducible (first | intro _ | refine rc ?_ | refine rl ?_ | refine rh ?_ | refine rt ?_ | refine rf ?_ | refine rs ?_ | refine And.intro ?_ ?_) | omega | simp (maxSteps := 1000000) only [go_sem, simprocAttr, ↓reduceIte])
      refine VcCall.ro (.cell [.int .i64 w, .int .i64 h, .ro (.ints .i64 SL)]) (FnFr.of_ok k3 rfl (by simp [noRoRows, noRoItem, noRoRow, noRoL, noRo])) (by simp only [noIdR_ok, argOkL, argOk, allOk, argOkN, List.drop_zero, lk, reduceIte, reduceCtorEq, Nat.reduceEqDiff, Option.some.injEq, Item.row.injEq, Item.box.injEq, AV.ro.injEq, exists_eq_left, exists_and_left, exists_eq_left', exists_eq_right, and_assoc, and_true, true_and, List.cons.injEq, exists_eq', exists_eq]) (by simp [outOk, argOkL, argOk, argOkN, lk]; exact ⟨_, _, ⟨rfl, rfl⟩, by simp [allOk, argOkN, lk, noIdR_ok]⟩) rfl ?_
      (repeat' first | with_reducible (first | intro _ | refine rc ?_ | refine rl ?_ | refine rh ?_ | refine rt ?_ | refine rf ?_ | refine rs ?_ | refine And.intro ?_ ?_) | omega | simp (maxSteps := 1000000) only [go_sem, simprocAttr, ↓reduceIte])
    (repeat' first | with_reducible (first | intro _ | refine rc ?_ | refine rl ?_ | refine rh ?_ | refine rt ?_ | refine rf ?_ | refine rs ?_ | refine And.intro ?_ ?_) | omega | simp (maxSteps := 1000000) only [go_sem, simprocAttr, ↓reduceIte])
    refine Ent.trans (Ent.nilBox (P := Tryz.prog) 4 6 65 e65 rfl rfl) (Ent.auto0 rfl ?_ ?_) <;> simp only [go_sem, reduceCtorEq, reduceIte, Nat.reduceEqDiff, Nat.reduceLT, Nat.reduceLeDiff, Int.natCast_succ, nbs, zrow, put, List.set_cons_zero, List.set_cons_succ, Nat.zero_mul, List.range_zero, List.map_nil, List.replicate_zero]
  · (repeat' first | with_reducible (first | intro _ | refine rc ?_ | refine rl ?_ | refine rh ?_ | refine rt ?_ | refine rf ?_ | refine rs ?_ | refine And.intro ?_ ?_) | omega | simp (maxSteps := 1000000) only [go_sem, simprocAttr, ↓reduceIte])
    refine VcCall.io [0, 1] k4 (by decide) (by simp [renL, ren, ioN]) rfl (by simp [subOk, ioN, lk, Item.ren, Item.below, ren, renL, belowL, Fv.below, nbs, renR_ok, belowR_ok]) covC2 3 (by decide) rfl (by simp [rowsB, Item.below, Fv.below, belowL, nbs, belowR_ok]) ?_
    (repeat' first | with_reducible (first | intro _ | refine rc ?_ | refine rl ?_ | refine rh ?_ | refine rt ?_ | refine rf ?_ | refine rs ?_ | refine And.intro ?_ ?_) | omega | simp (maxSteps := 1000000) only [go_sem, simprocAttr, ↓reduceIte, S.ioS, ioRows, ioN, delL, Item.ren, ren, renL, nbs, renR_ok, List.length_cons, List.length_nil, List.getElem?_cons_zero, List.getElem?_cons_succ, List.getElem?_nil, List.cons_append, List.nil_append, Nat.reduceAdd, Nat.sub_self, Nat.add_zero, List.filter])
    refine Ret.auto 1 ?_ rfl ?_ <;> simp only [go_sem, reduceCtorEq, reduceIte, Nat.reduceEqDiff, Nat.reduceLT, Nat.reduceLeDiff, Int.natCast_succ, Post, nbs, renR_ok, belowR_ok]
end Go.Fv.U

namespace Go.Fv.U
open Go Go.Proofs
set_option linter.unusedSimpArgs false
set_option linter.unusedVariables false
set_option maxRecDepth 8000
end Go.Fv.U

/- The reference's Specks, Holes and Border: the walk. -/
namespace Go.Fv.U
open Go Go.Proofs
set_option linter.unusedSimpArgs false
set_option linter.unusedVariables false
set_option linter.unnecessarySimpa false
set_option maxRecDepth 8000

end Go.Fv.U

namespace Go.Fv.U
open Go Go.Proofs
set_option linter.unusedSimpArgs false
set_option linter.unusedVariables false
set_option maxRecDepth 8000
theorem and_bd (a : Int) (m : Nat) (hm : m < 2 ^ 63) : 0 ≤ bitsI .and .i64 a m ∧ bitsI .and .i64 a m ≤ m := by
  unfold bitsI
  dsimp only
  have h1 : (BitVec.ofInt 64 a &&& BitVec.ofInt 64 (m : Int)).toNat ≤ m := by
    rw [BitVec.toNat_and]
    refine Nat.le_trans Nat.and_le_right ?_
    rw [BitVec.ofInt_natCast, BitVec.toNat_ofNat]
    exact Nat.mod_le _ _
  rw [show IntKind.i64.bits = 64 from rfl]
  rw [wrap_of_in (InK_i64.2 ⟨by omega, by omega⟩)]
  omega
/-- The size that a page is fitted to. -/
def fitN (a : Int) (m : Nat) : Nat := (1 + bitsI .and .i64 a m).toNat
theorem fitN_bd (a : Int) (m : Nat) (hm : m < 2 ^ 63) : 1 ≤ fitN a m ∧ fitN a m ≤ m + 1 ∧ 1 + bitsI .and .i64 a m = ((fitN a m : Nat) : Int) := by
  have := and_bd a m hm
  unfold fitN; omega
end Go.Fv.U

namespace Go.Fv.U
open Go Go.Proofs
set_option linter.unusedSimpArgs false
set_option linter.unusedVariables false
set_option maxRecDepth 8000
end Go.Fv.U

namespace Go.Fv.U
open Go Go.Proofs
set_option linter.unusedSimpArgs false
set_option linter.unusedVariables false
set_option maxRecDepth 8000
end Go.Fv.U

namespace Go.Fv.U
open Go Go.Proofs
set_option linter.unusedSimpArgs false
set_option linter.unusedVariables false
set_option maxRecDepth 8000
end Go.Fv.U

namespace Go.Fv.U
open Go Go.Proofs
set_option linter.unusedSimpArgs false
set_option linter.unusedVariables false
set_option maxRecDepth 8000
theorem drop_bools {tab : List Bool} {n : Nat} (h : n < tab.length) : (tab.map AV.bool).drop n = .bool (tab.getD n false) :: (tab.map AV.bool).drop (n + 1) := by
  rw [List.drop_eq_getElem_cons (by simpa using h)]
  simp [List.getD, h]

set_option maxHeartbeats 1000000 in
theorem contains_ok (tab : List Bool) (b : Int) (hl : tab.length = 256) (h0 : 0 ≤ b) (h1 : b < 256) : FnOk Tryz.prog 165 [.cell (tab.map .bool), .int .u8 b] (.bool (tab.getD b.toNat false)) [] := by
  refine FnOk.of_vc Tryz.func165 rfl (by decide) (by simp [Tryz.f165]) [.tmp 4] rfl fun w0 T0 _ => ?_
  simp only [Tryz.f165, argEnv]
  have hd := drop_bools (tab := tab) (n := b.toNat) (by omega)
  simp (maxSteps := 1000000) only [go_sem, reduceCtorEq, Nat.reduceLT, Nat.reduceLeDiff, reduceIte, ↓reduceIte, Nat.reduceEqDiff, Nat.reduceAdd, Nat.reduceMul, Nat.reduceSub, Int.reduceLE, Int.reduceLT, Int.reduceNeg, Int.reduceToNat, Nat.mul_one, hd]
  (repeat' first | (with_reducible refine Asm.intro fun _ => ?_) | ((with_reducible refine Chk.intro ?_ ?_); (· first | omega | (with_reducible refine Chk.intro ?_ ?_ <;> omega) | (simp; done) | (simp; omega))) | ((with_reducible refine LetW.i64 ?_ ?_ ?_); (· omega); (· omega)) | ((with_reducible refine Ite.decide (fun _ => ?_) (fun _ => ?_)) <;> first | (exfalso; omega) | simp (maxSteps := 1000000) only [go_sem, reduceCtorEq, Nat.reduceLT, Nat.reduceLeDiff, reduceIte, ↓reduceIte, Nat.reduceEqDiff, Nat.reduceAdd, Nat.reduceMul, Nat.reduceSub, Int.reduceLE, Int.reduceLT, Int.reduceNeg, Int.reduceToNat]) | ((with_reducible refine Ite.bool (fun _ => ?_) (fun _ => ?_)) <;> simp (maxSteps := 1000000) only [go_sem, reduceCtorEq, Nat.reduceLT, Nat.reduceLeDiff, reduceIte, ↓reduceIte, Nat.reduceEqDiff, Nat.reduceAdd, Nat.reduceMul, Nat.reduceSub, Int.reduceLE, Int.reduceLT, Int.reduceNeg, Int.reduceToNat]) | (with_reducible refine And.intro ?_ ?_))
  refine Ret.auto 0 ?_ rfl ?_ <;> simp only [go_sem, reduceCtorEq, reduceIte, Nat.reduceEqDiff, Nat.reduceLT, Nat.reduceLeDiff, Int.natCast_succ, Post]

set_option maxHeartbeats 1000000 in
theorem trimRight_a (tab : List Bool) (hl : tab.length = 256) (ha : tab.getD 97 false = true) : FnOk Tryz.prog 111 [.str [97], .cell (tab.map .bool)] (.str []) [] := by
  refine FnOk.of_vc Tryz.func111 rfl (by decide) (by simp [Tryz.f111]) [.tmp 4] rfl fun w0 T0 _ => ?_
  simp only [Tryz.f111, argEnv]
  simp (maxSteps := 1000000) only [go_sem, reduceCtorEq, Nat.reduceLT, Nat.reduceLeDiff, reduceIte, ↓reduceIte, Nat.reduceEqDiff, Nat.reduceAdd, Nat.reduceMul, Nat.reduceSub, Int.reduceLE, Int.reduceLT, Int.reduceNeg, Int.reduceToNat]
  refine VcLoop.intro (fun k : Bool => ⟨22, [(0, .str (cond k [97] [])), (1, .cell (tab.map .bool))], [], 0⟩) (fun _ => True) (fun k => cond k 1 0) true ?_ trivial fun k _ => ?_
  · refine Ent.auto0 rfl ?_ ?_ <;> simp only [go_sem, reduceCtorEq, reduceIte, Nat.reduceEqDiff, Nat.reduceLT, Nat.reduceLeDiff, Int.natCast_succ, cond_true]
  cases k with
  | true =>
    simp (maxSteps := 1000000) only [go_sem, reduceCtorEq, Nat.reduceLT, Nat.reduceLeDiff, reduceIte, ↓reduceIte, Nat.reduceEqDiff, Nat.reduceAdd, Nat.reduceMul, Nat.reduceSub, Int.reduceLE, Int.reduceLT, Int.reduceNeg, Int.reduceToNat]
    (repeat' first | (with_reducible refine Asm.intro fun _ => ?_) | ((with_reducible refine Chk.intro ?_ ?_); (· first | omega | (with_reducible refine Chk.intro ?_ ?_ <;> omega) | (simp; done) | (simp; omega))) | ((with_reducible refine LetW.i64 ?_ ?_ ?_); (· omega); (· omega)) | ((with_reducible refine Ite.decide (fun _ => ?_) (fun _ => ?_)) <;> first | (exfalso; omega) | simp (maxSteps := 1000000) only [go_sem, reduceCtorEq, Nat.reduceLT, Nat.reduceLeDiff, reduceIte, ↓reduceIte, Nat.reduceEqDiff, Nat.reduceAdd, Nat.reduceMul, Nat.reduceSub, Int.reduceLE, Int.reduceLT, Int.reduceNeg, Int.reduceToNat]) | ((with_reducible refine Ite.bool (fun _ => ?_) (fun _ => ?_)) <;> simp (maxSteps := 1000000) only [go_sem, reduceCtorEq, Nat.reduceLT, Nat.reduceLeDiff, reduceIte, ↓reduceIte, Nat.reduceEqDiff, Nat.reduceAdd, Nat.reduceMul, Nat.reduceSub, Int.reduceLE, Int.reduceLT, Int.reduceNeg, Int.reduceToNat]) | (with_reducible refine And.intro ?_ ?_))
    have e : ((([97] : List UInt8).getD (((1 : Nat) : Int) - 1).toNat 0).toNat : Int) = 97 := rfl
    rw [e]
    refine VcCall.fr (args' := [.cell (tab.map .bool), .int .u8 97]) (FnFr.of_ok (contains_ok tab 97 hl (by omega) (by omega)) rfl rfl) (by simp [argOkL, allOk, argOkN]) 0 rfl (by simp [rowsB]) ?_
    simp (maxSteps := 1000000) only [go_sem, reduceCtorEq, Nat.reduceLT, Nat.reduceLeDiff, reduceIte, ↓reduceIte, Nat.reduceEqDiff, Nat.reduceAdd, Nat.reduceMul, Nat.reduceSub, Int.reduceLE, Int.reduceLT, Int.reduceNeg, Int.reduceToNat, ha]
    (repeat' first | (with_reducible refine Asm.intro fun _ => ?_) | ((with_reducible refine Chk.intro ?_ ?_); (· first | omega | (with_reducible refine Chk.intro ?_ ?_ <;> omega) | (simp; done) | (simp; omega))) | ((with_reducible refine LetW.i64 ?_ ?_ ?_); (· omega); (· omega)) | ((with_reducible refine Ite.decide (fun _ => ?_) (fun _ => ?_)) <;> first | (exfalso; omega) | simp (maxSteps := 1000000) only [go_sem, reduceCtorEq, Nat.reduceLT, Nat.reduceLeDiff, reduceIte, ↓reduceIte, Nat.reduceEqDiff, Nat.reduceAdd, Nat.reduceMul, Nat.reduceSub, Int.reduceLE, Int.reduceLT, Int.reduceNeg, Int.reduceToNat]) | ((with_reducible refine Ite.bool (fun _ => ?_) (fun _ => ?_)) <;> simp (maxSteps := 1000000) only [go_sem, reduceCtorEq, Nat.reduceLT, Nat.reduceLeDiff, reduceIte, ↓reduceIte, Nat.reduceEqDiff, Nat.reduceAdd, Nat.reduceMul, Nat.reduceSub, Int.reduceLE, Int.reduceLT, Int.reduceNeg, Int.reduceToNat]) | (with_reducible refine And.intro ?_ ?_))
    refine ⟨false, Ent.auto0 rfl ?_ ?_, Nat.zero_lt_one⟩ <;> simp only [go_sem, reduceCtorEq, reduceIte, Nat.reduceEqDiff, Nat.reduceLT, Nat.reduceLeDiff, Int.natCast_succ, cond_false]
    simp
  | false =>
    simp (maxSteps := 1000000) only [go_sem, reduceCtorEq, Nat.reduceLT, Nat.reduceLeDiff, reduceIte, ↓reduceIte, Nat.reduceEqDiff, Nat.reduceAdd, Nat.reduceMul, Nat.reduceSub, Int.reduceLE, Int.reduceLT, Int.reduceNeg, Int.reduceToNat]
    (repeat' first | (with_reducible refine Asm.intro fun _ => ?_) | ((with_reducible refine Chk.intro ?_ ?_); (· first | omega | (with_reducible refine Chk.intro ?_ ?_ <;> omega) | (simp; done) | (simp; omega))) | ((with_reducible refine LetW.i64 ?_ ?_ ?_); (· omega); (· omega)) | ((with_reducible refine Ite.decide (fun _ => ?_) (fun _ => ?_)) <;> first | (exfalso; omega) | simp (maxSteps := 1000000) only [go_sem, reduceCtorEq, Nat.reduceLT, Nat.reduceLeDiff, reduceIte, ↓reduceIte, Nat.reduceEqDiff, Nat.reduceAdd, Nat.reduceMul, Nat.reduceSub, Int.reduceLE, Int.reduceLT, Int.reduceNeg, Int.reduceToNat]) | ((with_reducible refine Ite.bool (fun _ => ?_) (fun _ => ?_)) <;> simp (maxSteps := 1000000) only [go_sem, reduceCtorEq, Nat.reduceLT, Nat.reduceLeDiff, reduceIte, ↓reduceIte, Nat.reduceEqDiff, Nat.reduceAdd, Nat.reduceMul, Nat.reduceSub, Int.reduceLE, Int.reduceLT, Int.reduceNeg, Int.reduceToNat]) | (with_reducible refine And.intro ?_ ?_))
    refine Ret.auto 0 ?_ rfl ?_ <;> simp only [go_sem, reduceCtorEq, reduceIte, Nat.reduceEqDiff, Nat.reduceLT, Nat.reduceLeDiff, Int.natCast_succ, Post]

set_option maxHeartbeats 1000000 in
theorem trimLeft_nil (tab : List Bool) : FnOk Tryz.prog 110 [.str [], .cell (tab.map .bool)] (.str []) [] := by
  refine FnOk.of_vc Tryz.func110 rfl (by decide) (by simp [Tryz.f110]) [.tmp 4] rfl fun w0 T0 _ => ?_
  simp only [Tryz.f110, argEnv]
  simp (maxSteps := 1000000) only [go_sem, reduceCtorEq, Nat.reduceLT, Nat.reduceLeDiff, reduceIte, ↓reduceIte, Nat.reduceEqDiff, Nat.reduceAdd, Nat.reduceMul, Nat.reduceSub, Int.reduceLE, Int.reduceLT, Int.reduceNeg, Int.reduceToNat]
  refine VcLoop.intro (fun k : Unit => ⟨16, [(0, .str [])], [], 0⟩) (fun _ => True) (fun k => 0) () ?_ trivial fun k _ => ?_
  · refine Ent.auto0 rfl ?_ ?_ <;> simp only [go_sem, reduceCtorEq, reduceIte, Nat.reduceEqDiff, Nat.reduceLT, Nat.reduceLeDiff, Int.natCast_succ]
  simp (maxSteps := 1000000) only [go_sem, reduceCtorEq, Nat.reduceLT, Nat.reduceLeDiff, reduceIte, ↓reduceIte, Nat.reduceEqDiff, Nat.reduceAdd, Nat.reduceMul, Nat.reduceSub, Int.reduceLE, Int.reduceLT, Int.reduceNeg, Int.reduceToNat]
  (repeat' first | (with_reducible refine Asm.intro fun _ => ?_) | ((with_reducible refine Chk.intro ?_ ?_); (· first | omega | (with_reducible refine Chk.intro ?_ ?_ <;> omega) | (simp; done) | (simp; omega))) | ((with_reducible refine LetW.i64 ?_ ?_ ?_); (· omega); (· omega)) | ((with_reducible refine Ite.decide (fun _ => ?_) (fun _ => ?_)) <;> first | (exfalso; omega) | simp (maxSteps := 1000000) only [go_sem, reduceCtorEq, Nat.reduceLT, Nat.reduceLeDiff, reduceIte, ↓reduceIte, Nat.reduceEqDiff, Nat.reduceAdd, Nat.reduceMul, Nat.reduceSub, Int.reduceLE, Int.reduceLT, Int.reduceNeg, Int.reduceToNat]) | ((with_reducible refine Ite.bool (fun _ => ?_) (fun _ => ?_)) <;> simp (maxSteps := 1000000) only [go_sem, reduceCtorEq, Nat.reduceLT, Nat.reduceLeDiff, reduceIte, ↓reduceIte, Nat.reduceEqDiff, Nat.reduceAdd, Nat.reduceMul, Nat.reduceSub, Int.reduceLE, Int.reduceLT, Int.reduceNeg, Int.reduceToNat]) | (with_reducible refine And.intro ?_ ?_))
  refine Ret.auto 0 ?_ rfl ?_ <;> simp only [go_sem, reduceCtorEq, reduceIte, Nat.reduceEqDiff, Nat.reduceLT, Nat.reduceLeDiff, Int.natCast_succ, Post]

theorem z195 : zeroOf Tryz.prog 195 = some (.agg (Array.replicate 256 (.bool false))) := by kernel_rfl
theorem c195 : Tryz.prog.cellsOf 195 = 256 := by kernel_rfl

attribute [go_sem] z195 c195
def asciiAt (s : List UInt8) : Nat → List Bool
  | 0 => List.replicate 256 false
  | i + 1 => (asciiAt s i).set (s.getD i 0).toNat true
theorem asciiAt_len (s : List UInt8) : ∀ i, (asciiAt s i).length = 256
  | 0 => by simp [asciiAt]
  | i + 1 => by simp [asciiAt, asciiAt_len s i]

set_option maxHeartbeats 1000000 in
theorem makeAscii_ok (s : List UInt8) (hs : ∀ i, i < s.length → (s.getD i 0).toNat < 128) : FnOk Tryz.prog 109 [.str s] (.tup [.agg ((asciiAt s s.length).map .bool), .bool true]) [] := by
  refine FnOk.of_vc Tryz.func109 rfl (by decide) (by simp [Tryz.f109]) [.cell 2 195, .tmp 3] rfl fun w0 T0 _ => ?_
  simp only [Tryz.f109, argEnv]
  simp (maxSteps := 1000000) only [go_sem, reduceCtorEq, Nat.reduceLT, Nat.reduceLeDiff, reduceIte, ↓reduceIte, Nat.reduceEqDiff, Nat.reduceAdd, Nat.reduceMul, Nat.reduceSub, Int.reduceLE, Int.reduceLT, Int.reduceNeg, Int.reduceToNat]
  refine VcLoop.intro (fun i : Nat => ⟨21, [(0, .str s), (2, .ptr 0 0), (4, .int .i64 i)], [(0, .box 195 ((asciiAt s i).map .bool))], 1⟩) (fun i => i ≤ s.length) (fun i => s.length - i) 0 ?_ (Nat.zero_le _) fun i hi => ?_
  · refine Ent.auto0 rfl ?_ ?_ <;> simp only [go_sem, reduceCtorEq, reduceIte, Nat.reduceEqDiff, Nat.reduceLT, Nat.reduceLeDiff, Int.natCast_succ, asciiAt]
  have hlen := asciiAt_len s i
  simp (maxSteps := 1000000) only [go_sem, reduceCtorEq, Nat.reduceLT, Nat.reduceLeDiff, reduceIte, ↓reduceIte, Nat.reduceEqDiff, Nat.reduceAdd, Nat.reduceMul, Nat.reduceSub, Int.reduceLE, Int.reduceLT, Int.reduceNeg, Int.reduceToNat]
  (repeat' first | (with_reducible refine Asm.intro fun _ => ?_) | ((with_reducible refine Chk.intro ?_ ?_); (· first | omega | (with_reducible refine Chk.intro ?_ ?_ <;> omega) | (simp; done) | (simp; omega))) | ((with_reducible refine LetW.i64 ?_ ?_ ?_); (· omega); (· omega)) | ((with_reducible refine Ite.decide (fun _ => ?_) (fun _ => ?_)) <;> first | (exfalso; omega) | simp (maxSteps := 1000000) only [go_sem, reduceCtorEq, Nat.reduceLT, Nat.reduceLeDiff, reduceIte, ↓reduceIte, Nat.reduceEqDiff, Nat.reduceAdd, Nat.reduceMul, Nat.reduceSub, Int.reduceLE, Int.reduceLT, Int.reduceNeg, Int.reduceToNat]) | ((with_reducible refine Ite.bool (fun _ => ?_) (fun _ => ?_)) <;> simp (maxSteps := 1000000) only [go_sem, reduceCtorEq, Nat.reduceLT, Nat.reduceLeDiff, reduceIte, ↓reduceIte, Nat.reduceEqDiff, Nat.reduceAdd, Nat.reduceMul, Nat.reduceSub, Int.reduceLE, Int.reduceLT, Int.reduceNeg, Int.reduceToNat]) | (with_reducible refine And.intro ?_ ?_))
  · have := hs i (by omega)
    omega
  · refine ⟨i + 1, Ent.auto0 rfl ?_ ?_, by omega, by omega⟩
    · simp only [go_sem, reduceCtorEq, reduceIte, Nat.reduceEqDiff, Nat.reduceLT, Nat.reduceLeDiff, Int.natCast_succ]
    · simp only [go_sem, reduceCtorEq, reduceIte, Nat.reduceEqDiff, Nat.reduceLT, Nat.reduceLeDiff, Int.natCast_succ, asciiAt]
  · have e : i = s.length := by omega
    subst e
    have e2 : ((asciiAt s s.length).map AV.bool).take 256 = (asciiAt s s.length).map AV.bool := List.take_of_length_le (by simp [hlen])
    have e3 : spl ((asciiAt s s.length).map AV.bool) 0 ((asciiAt s s.length).map AV.bool) = (asciiAt s s.length).map AV.bool := spl_all rfl
    refine Ret.auto 0 ?_ ?_ ?_ <;> simp only [go_sem, reduceCtorEq, reduceIte, Nat.reduceEqDiff, Nat.reduceLT, Nat.reduceLeDiff, Int.natCast_succ, Post, e2, e3, List.drop_zero]
    simp (maxSteps := 1000000) only [go_sem, reduceCtorEq, Nat.reduceLT, Nat.reduceLeDiff, reduceIte, ↓reduceIte, Nat.reduceEqDiff, Nat.reduceAdd, Nat.reduceMul, Nat.reduceSub, Int.reduceLE, Int.reduceLT, Int.reduceNeg, Int.reduceToNat, e2, hlen, List.length_map]

def cutset : List UInt8 := [97, 98, 99, 100, 101, 102, 103, 104, 105, 106, 107, 108, 109, 110, 111, 112, 113, 114, 115, 116, 117, 118, 119, 120, 121, 122, 48, 49, 50, 51, 52, 53, 54, 55, 56, 57, 45]
theorem cut_small : ∀ i, i < cutset.length → (cutset.getD i 0).toNat < 128 := by decide
theorem cut_a : (asciiAt cutset cutset.length).getD 97 false = true := by decide

set_option maxHeartbeats 1000000 in
theorem trim_a : FnOk Tryz.prog 52 [.str [97], .str cutset] (.str []) [] := by
  refine FnOk.of_vc Tryz.func52 rfl (by decide) (by simp [Tryz.f52]) [.tmp 4] rfl fun w0 T0 _ => ?_
  simp only [Tryz.f52, argEnv]
  have hc : ¬ cutset = [] := by decide
  have hl : cutset.length = 37 := rfl
  simp (maxSteps := 1000000) only [go_sem, reduceCtorEq, Nat.reduceLT, Nat.reduceLeDiff, reduceIte, ↓reduceIte, Nat.reduceEqDiff, Nat.reduceAdd, Nat.reduceMul, Nat.reduceSub, Int.reduceLE, Int.reduceLT, Int.reduceNeg, Int.reduceToNat, hc, hl]
  (repeat' first | (with_reducible refine Asm.intro fun _ => ?_) | ((with_reducible refine Chk.intro ?_ ?_); (· first | omega | (with_reducible refine Chk.intro ?_ ?_ <;> omega) | (simp; done) | (simp; omega))) | ((with_reducible refine LetW.i64 ?_ ?_ ?_); (· omega); (· omega)) | ((with_reducible refine Ite.decide (fun _ => ?_) (fun _ => ?_)) <;> first | (exfalso; omega) | simp (maxSteps := 1000000) only [go_sem, reduceCtorEq, Nat.reduceLT, Nat.reduceLeDiff, reduceIte, ↓reduceIte, Nat.reduceEqDiff, Nat.reduceAdd, Nat.reduceMul, Nat.reduceSub, Int.reduceLE, Int.reduceLT, Int.reduceNeg, Int.reduceToNat]) | ((with_reducible refine Ite.bool (fun _ => ?_) (fun _ => ?_)) <;> simp (maxSteps := 1000000) only [go_sem, reduceCtorEq, Nat.reduceLT, Nat.reduceLeDiff, reduceIte, ↓reduceIte, Nat.reduceEqDiff, Nat.reduceAdd, Nat.reduceMul, Nat.reduceSub, Int.reduceLE, Int.reduceLT, Int.reduceNeg, Int.reduceToNat]) | (with_reducible refine And.intro ?_ ?_))
  have hlen := asciiAt_len cutset cutset.length
  refine VcCall.fr (args' := [.str cutset]) (FnFr.of_ok (makeAscii_ok cutset cut_small) (by simp [noRo, noRoL, noRoL_bools]) rfl) (by simp [argOkL, allOk, argOkN]) 0 (by simp [Fv.below, belowL, belowL_bools]) (by simp [rowsB]) ?_
  have ha := cut_a
  generalize asciiAt cutset cutset.length = tab at hlen ha ⊢
  simp (maxSteps := 1000000) only [go_sem, reduceCtorEq, Nat.reduceLT, Nat.reduceLeDiff, reduceIte, ↓reduceIte, Nat.reduceEqDiff, Nat.reduceAdd, Nat.reduceMul, Nat.reduceSub, Int.reduceLE, Int.reduceLT, Int.reduceNeg, Int.reduceToNat]
  have e1 : spl (List.replicate 256 (AV.bool false)) 0 (tab.map .bool) = tab.map .bool := spl_all (by simp [hlen])
  refine Chk.intro (by simp [hlen]) ?_
  rw [e1]
  refine Chk.intro (by omega) ?_
  refine VcCall.fr (args' := [.str [97], .cell (tab.map .bool)]) (FnFr.of_ok (trimRight_a tab hlen ha) rfl rfl) ?_ 0 rfl (by simp [rowsB]) ?_
  · exact ⟨_, _, rfl, ⟨_, _, ⟨_, _, _, rfl, allOk_bools _ 4 _, rfl⟩, rfl, rfl⟩, rfl⟩
  simp (maxSteps := 1000000) only [go_sem, reduceCtorEq, Nat.reduceLT, Nat.reduceLeDiff, reduceIte, ↓reduceIte, Nat.reduceEqDiff, Nat.reduceAdd, Nat.reduceMul, Nat.reduceSub, Int.reduceLE, Int.reduceLT, Int.reduceNeg, Int.reduceToNat]
  refine VcCall.fr (args' := [.str [], .cell (tab.map .bool)]) (FnFr.of_ok (trimLeft_nil tab) rfl rfl) ?_ 0 rfl (by simp [rowsB]) ?_
  · exact ⟨_, _, rfl, ⟨_, _, ⟨_, _, _, rfl, allOk_bools _ 4 _, rfl⟩, rfl, rfl⟩, rfl⟩
  simp (maxSteps := 1000000) only [go_sem, reduceCtorEq, Nat.reduceLT, Nat.reduceLeDiff, reduceIte, ↓reduceIte, Nat.reduceEqDiff, Nat.reduceAdd, Nat.reduceMul, Nat.reduceSub, Int.reduceLE, Int.reduceLT, Int.reduceNeg, Int.reduceToNat]
  refine Ret.auto 0 ?_ rfl ?_ <;> simp only [go_sem, reduceCtorEq, reduceIte, Nat.reduceEqDiff, Nat.reduceLT, Nat.reduceLeDiff, Int.natCast_succ, Post]

set_option maxHeartbeats 1000000 in
theorem isName_a : FnOk Tryz.prog 31 [.str [97]] (.bool true) [] := by
  refine FnOk.of_vc Tryz.func31 rfl (by decide) (by simp [Tryz.f31]) [.tmp 2] rfl fun w0 T0 _ => ?_
  simp only [Tryz.f31, argEnv]
  simp (maxSteps := 1000000) only [go_sem, reduceCtorEq, Nat.reduceLT, Nat.reduceLeDiff, reduceIte, ↓reduceIte, Nat.reduceEqDiff, Nat.reduceAdd, Nat.reduceMul, Nat.reduceSub, Int.reduceLE, Int.reduceLT, Int.reduceNeg, Int.reduceToNat]
  (repeat' first | (with_reducible refine Asm.intro fun _ => ?_) | ((with_reducible refine Chk.intro ?_ ?_); (· first | omega | (with_reducible refine Chk.intro ?_ ?_ <;> omega) | (simp; done) | (simp; omega))) | ((with_reducible refine LetW.i64 ?_ ?_ ?_); (· omega); (· omega)) | ((with_reducible refine Ite.decide (fun _ => ?_) (fun _ => ?_)) <;> first | (exfalso; omega) | simp (maxSteps := 1000000) only [go_sem, reduceCtorEq, Nat.reduceLT, Nat.reduceLeDiff, reduceIte, ↓reduceIte, Nat.reduceEqDiff, Nat.reduceAdd, Nat.reduceMul, Nat.reduceSub, Int.reduceLE, Int.reduceLT, Int.reduceNeg, Int.reduceToNat]) | ((with_reducible refine Ite.bool (fun _ => ?_) (fun _ => ?_)) <;> simp (maxSteps := 1000000) only [go_sem, reduceCtorEq, Nat.reduceLT, Nat.reduceLeDiff, reduceIte, ↓reduceIte, Nat.reduceEqDiff, Nat.reduceAdd, Nat.reduceMul, Nat.reduceSub, Int.reduceLE, Int.reduceLT, Int.reduceNeg, Int.reduceToNat]) | (with_reducible refine And.intro ?_ ?_))
  · refine VcCall.fr (args' := [.str [97], .str cutset]) (FnFr.of_ok trim_a rfl rfl) (by simp [argOkL, allOk, argOkN, cutset]) 0 rfl (by simp [rowsB]) ?_
    simp (maxSteps := 1000000) only [go_sem, reduceCtorEq, Nat.reduceLT, Nat.reduceLeDiff, reduceIte, ↓reduceIte, Nat.reduceEqDiff, Nat.reduceAdd, Nat.reduceMul, Nat.reduceSub, Int.reduceLE, Int.reduceLT, Int.reduceNeg, Int.reduceToNat]
    (repeat' first | (with_reducible refine Asm.intro fun _ => ?_) | ((with_reducible refine Chk.intro ?_ ?_); (· first | omega | (with_reducible refine Chk.intro ?_ ?_ <;> omega) | (simp; done) | (simp; omega))) | ((with_reducible refine LetW.i64 ?_ ?_ ?_); (· omega); (· omega)) | ((with_reducible refine Ite.decide (fun _ => ?_) (fun _ => ?_)) <;> first | (exfalso; omega) | simp (maxSteps := 1000000) only [go_sem, reduceCtorEq, Nat.reduceLT, Nat.reduceLeDiff, reduceIte, ↓reduceIte, Nat.reduceEqDiff, Nat.reduceAdd, Nat.reduceMul, Nat.reduceSub, Int.reduceLE, Int.reduceLT, Int.reduceNeg, Int.reduceToNat]) | ((with_reducible refine Ite.bool (fun _ => ?_) (fun _ => ?_)) <;> simp (maxSteps := 1000000) only [go_sem, reduceCtorEq, Nat.reduceLT, Nat.reduceLeDiff, reduceIte, ↓reduceIte, Nat.reduceEqDiff, Nat.reduceAdd, Nat.reduceMul, Nat.reduceSub, Int.reduceLE, Int.reduceLT, Int.reduceNeg, Int.reduceToNat]) | (with_reducible refine And.intro ?_ ?_))
    refine Ret.auto 0 ?_ rfl ?_ <;> simp only [go_sem, reduceCtorEq, reduceIte, Nat.reduceEqDiff, Nat.reduceLT, Nat.reduceLeDiff, Int.natCast_succ, Post]
  · rename_i h
    exact (h (by decide)).elim

end Go.Fv.U

/- The law PiecesGo. -/
namespace Go.Fv.U
open Go Go.Proofs
set_option linter.unusedSimpArgs false
set_option linter.unusedVariables false
set_option linter.unnecessarySimpa false
set_option maxRecDepth 8000

set_option maxHeartbeats 4000000 in
theorem specks_err (w h : Nat) (hw1 : 1 ≤ w) (hw : w ≤ 1000) (hh1 : 1 ≤ h) (hh : h ≤ 1000) (p : List Bool) (hp : p.length = w * h) (most : Int) (hm : most < 0 ∨ 1048576 < most) :
    FnOk Tryz.prog 19 [.agg [.int .i64 w, .int .i64 h, .ro (.bools p)], .int .i64 most] (.tup [.agg [.int .i64 0, .int .i64 0, .nilS], .int .i64 0, .int .i64 3]) [] := by
  haveI c1 : CapsOk [.cell [.int .i64 most]] := ⟨rfl⟩
  have k := changed_err w h hw1 hw hh1 hh p hp true true 63 [.cell [.int .i64 most]] most hm
  refine FnOk.of_vc Tryz.func19 rfl (by decide) (by simp [Tryz.f19]) [.cell 4 53, .tmp 5, .tmp 6] rfl fun w0 T0 _ => ?_
  simp only [Tryz.f19, argEnv]
  (repeat' first | with_reducible (first | intro _ | refine rc ?_ | refine rl ?_ | refine rh ?_ | refine rt ?_ | refine rf ?_ | refine rs ?_ | refine And.intro ?_ ?_) | omega | simp (maxSteps := 1000000) only [go_sem, simprocAttr, ↓reduceIte])
  refine VcCall.k (k) ?_
  (repeat' first | with_reducible (first | intro _ | refine rc ?_ | refine rl ?_ | refine rh ?_ | refine rt ?_ | refine rf ?_ | refine rs ?_ | refine And.intro ?_ ?_) | omega | simp (maxSteps := 1000000) only [go_sem, simprocAttr, ↓reduceIte])
  refine Ret.auto 0 ?_ ?_ ?_ <;> simp only [go_sem, reduceCtorEq, reduceIte, Nat.reduceEqDiff, Nat.reduceLT, Nat.reduceLeDiff, Int.natCast_succ, Post, List.drop_zero]
set_option maxHeartbeats 4000000 in
theorem specks_ok (w h : Nat) (hw1 : 1 ≤ w) (hw : w ≤ 1000) (hh1 : 1 ≤ h) (hh : h ≤ 1000) (p : List Bool) (hp : p.length = w * h) (most : Int) (hm : 0 ≤ most ∧ most ≤ 1048576) :
    FnOk Tryz.prog 19 [.agg [.int .i64 w, .int .i64 h, .ro (.bools p)], .int .i64 most] (.tup [.agg [.int .i64 w, .int .i64 h, .own 0], .int .i64 (chgAll (!true) (speckB most) p (pieces ⟨p, w, h, true, true⟩)).n, .int .i64 0]) [(0, .row 4 (.bools (chgAll (!true) (speckB most) p (pieces ⟨p, w, h, true, true⟩)).p))] := by
  haveI c1 : CapsOk [.cell [.int .i64 most]] := ⟨rfl⟩
  have k := changed_ok w h hw1 hw hh1 hh p hp true true 63 [.cell [.int .i64 most]] (speckB most) most hm (fun l hb => FnFr.of_ok (specks1_ok l (boxOf w h l) most) rfl rfl)
  generalize chgAll (!true) (speckB most) p (pieces ⟨p, w, h, true, true⟩) = C at *
  refine FnOk.of_vc Tryz.func19 rfl (by decide) (by simp [Tryz.f19]) [.cell 4 53, .tmp 5, .tmp 6] rfl fun w0 T0 _ => ?_
  simp only [Tryz.f19, argEnv]
  (repeat' first | with_reducible (first | intro _ | refine rc ?_ | refine rl ?_ | refine rh ?_ | refine rt ?_ | refine rf ?_ | refine rs ?_ | refine And.intro ?_ ?_) | omega | simp (maxSteps := 1000000) only [go_sem, simprocAttr, ↓reduceIte])
  refine VcCall.fr (FnFr.of_ok k rfl rfl) (by simp only [noIdR_ok, argOkL, argOk, allOk, argOkN, List.drop_zero, lk, reduceIte, reduceCtorEq, Nat.reduceEqDiff, Option.some.injEq, Item.row.injEq, Item.box.injEq, AV.ro.injEq, exists_eq_left, exists_and_left, exists_eq_left', exists_eq_right, and_assoc, and_true, true_and, List.cons.injEq, exists_eq', exists_eq]) 1 rfl (by simp [rowsB, Item.below, Fv.below, belowL]) ?_
  (repeat' first | with_reducible (first | intro _ | refine rc ?_ | refine rl ?_ | refine rh ?_ | refine rt ?_ | refine rf ?_ | refine rs ?_ | refine And.intro ?_ ?_) | omega | simp (maxSteps := 1000000) only [go_sem, simprocAttr, ↓reduceIte])
  refine Ret.auto 1 ?_ ?_ ?_ <;> simp only [go_sem, reduceCtorEq, reduceIte, Nat.reduceEqDiff, Nat.reduceLT, Nat.reduceLeDiff, Int.natCast_succ, Post, List.drop_zero]
end Go.Fv.U
