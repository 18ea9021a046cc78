/-
  A part of the proof of the claim: walks over the program's functions and the plain laws that these need. No condition of its own.
-/
import Derived.Test.YtingcghleidhmaaGreatDoorQLayoutsMatchCardPart5
import Derived.Test.YtingcghleidhmaaGreatDoorQLayoutsMatchCardPart9
import Derived.Test.YtingcghleidhmaaGreatDoorFvPart9
import Derived.Test.YtingcghleidhmaaGreatDoorQLayoutsMatchCardPart11
import Derived.Test.YtingcghleidhmaaGreatDoorQLayoutsMatchCardPart8
/-! What the law asks of the blocks: two lists of them are held against one another. -/
namespace Go.Fv.Q
open Go Go.Proofs
set_option linter.unusedSimpArgs false
set_option linter.unusedVariables false
set_option linter.unnecessarySimpa false
set_option maxRecDepth 8000

theorem sameLn_ok (d : Ln) : FnOk Tryz.prog 52 [.agg d.av, .agg d.av] (.bool true) [] := by
  have k1 := equalNb_ok d.ws
  unfold Ln.av
  refine FnOk.of_vc Tryz.func52 rfl (by decide) (by simp [Tryz.f52]) [.tmp 4] rfl fun w0 T0 _ => ?_
  simp only [Tryz.f52, argEnv]
  (repeat' first | with_reducible (first | intro _ | refine rc ?_ | refine rl ?_ | refine rh ?_ | refine rt ?_ | refine rf ?_ | refine rs ?_ | refine And.intro ?_ ?_) | omega | simp (maxSteps := 1000000) only [go_sem, simprocAttr, ↓reduceIte])
  refine VcCall.k (k1) ?_
  (repeat' first | with_reducible (first | intro _ | refine rc ?_ | refine rl ?_ | refine rh ?_ | refine rt ?_ | refine rf ?_ | refine rs ?_ | refine And.intro ?_ ?_) | omega | simp (maxSteps := 1000000) only [go_sem, simprocAttr, ↓reduceIte])
  refine Ret.auto 0 ?_ rfl ?_ <;> simp only [go_sem, reduceCtorEq, reduceIte, Nat.reduceEqDiff, Nat.reduceLT, Nat.reduceLeDiff, Int.natCast_succ, Post]
theorem eqLns_ok (l : List Ln) : FnOk Tryz.prog 51 [.ro (lns l), .ro (lns l), .fn 52 []] (.bool true) [] := by
  refine FnOk.of_vc Tryz.func51 rfl (by decide) (by simp [Tryz.f51]) [.tmp 6] rfl fun w0 T0 _ => ?_
  simp only [Tryz.f51, argEnv]
  (repeat' first | with_reducible (first | intro _ | refine rc ?_ | refine rl ?_ | refine rh ?_ | refine rt ?_ | refine rf ?_ | refine rs ?_ | refine And.intro ?_ ?_) | omega | simp (maxSteps := 1000000) only [go_sem, simprocAttr, ↓reduceIte, List.length_map])
  refine VcLoop.intro (fun i : Nat => ⟨32, [(0, .ro (lns l)), (1, .ro (lns l)), (2, .fn 52 []), (15, .ro (lns l)), (16, .int .i64 l.length), (17, .int .i64 i)], [], 0⟩) (fun i => i ≤ l.length) (fun i => l.length - i) 0 ?_ (Nat.zero_le _) fun i hi => ?_
  · refine Ent.auto0 rfl ?_ ?_ <;> simp only [go_sem, reduceCtorEq, reduceIte, Nat.reduceEqDiff, Nat.reduceLT, Nat.reduceLeDiff, Int.natCast_succ]
  by_cases hlt : i < l.length
  · have he := ln_elem l hlt
    have kd := sameLn_ok (l.getD i Ln.zero)
    unfold Ln.av at kd
    (repeat' first | with_reducible (first | intro _ | refine rc ?_ | refine rl ?_ | refine rh ?_ | refine rt ?_ | refine rf ?_ | refine rs ?_ | refine And.intro ?_ ?_) | omega | simp (maxSteps := 1000000) only [go_sem, simprocAttr, ↓reduceIte, elemA, he, List.length_map])
    refine VcCall.k (kd) ?_
    (repeat' first | with_reducible (first | intro _ | refine rc ?_ | refine rl ?_ | refine rh ?_ | refine rt ?_ | refine rf ?_ | refine rs ?_ | refine And.intro ?_ ?_) | omega | simp (maxSteps := 1000000) only [go_sem, simprocAttr, ↓reduceIte])
    refine ⟨i + 1, Ent.auto0 rfl ?_ ?_, by omega, by omega⟩ <;> simp only [go_sem, reduceCtorEq, reduceIte, Nat.reduceEqDiff, Nat.reduceLT, Nat.reduceLeDiff, Int.natCast_succ]
  · (repeat' first | with_reducible (first | intro _ | refine rc ?_ | refine rl ?_ | refine rh ?_ | refine rt ?_ | refine rf ?_ | refine rs ?_ | refine And.intro ?_ ?_) | omega | simp (maxSteps := 1000000) only [go_sem, simprocAttr, ↓reduceIte])
    refine Ret.auto 0 ?_ rfl ?_ <;> simp only [go_sem, reduceCtorEq, reduceIte, Nat.reduceEqDiff, Nat.reduceLT, Nat.reduceLeDiff, Int.natCast_succ, Post]
theorem sameBk_ok (d : Bk) : FnOk Tryz.prog 50 [.agg d.av, .agg d.av] (.bool true) [] := by
  have k1 := eqLns_ok d.ls
  unfold Bk.av
  refine FnOk.of_vc Tryz.func50 rfl (by decide) (by simp [Tryz.f50]) [.tmp 4] rfl fun w0 T0 _ => ?_
  simp only [Tryz.f50, argEnv]
  (repeat' first | with_reducible (first | intro _ | refine rc ?_ | refine rl ?_ | refine rh ?_ | refine rt ?_ | refine rf ?_ | refine rs ?_ | refine And.intro ?_ ?_) | omega | simp (maxSteps := 1000000) only [go_sem, simprocAttr, ↓reduceIte])
  refine VcCall.k (k1) ?_
  (repeat' first | with_reducible (first | intro _ | refine rc ?_ | refine rl ?_ | refine rh ?_ | refine rt ?_ | refine rf ?_ | refine rs ?_ | refine And.intro ?_ ?_) | omega | simp (maxSteps := 1000000) only [go_sem, simprocAttr, ↓reduceIte])
  refine Ret.auto 0 ?_ rfl ?_ <;> simp only [go_sem, reduceCtorEq, reduceIte, Nat.reduceEqDiff, Nat.reduceLT, Nat.reduceLeDiff, Int.natCast_succ, Post]
theorem eqBks_ok (l : List Bk) : FnOk Tryz.prog 49 [.ro (bks l), .ro (bks l), .fn 50 []] (.bool true) [] := by
  refine FnOk.of_vc Tryz.func49 rfl (by decide) (by simp [Tryz.f49]) [.tmp 6] rfl fun w0 T0 _ => ?_
  simp only [Tryz.f49, argEnv]
  (repeat' first | with_reducible (first | intro _ | refine rc ?_ | refine rl ?_ | refine rh ?_ | refine rt ?_ | refine rf ?_ | refine rs ?_ | refine And.intro ?_ ?_) | omega | simp (maxSteps := 1000000) only [go_sem, simprocAttr, ↓reduceIte, List.length_map])
  refine VcLoop.intro (fun i : Nat => ⟨32, [(0, .ro (bks l)), (1, .ro (bks l)), (2, .fn 50 []), (15, .ro (bks l)), (16, .int .i64 l.length), (17, .int .i64 i)], [], 0⟩) (fun i => i ≤ l.length) (fun i => l.length - i) 0 ?_ (Nat.zero_le _) fun i hi => ?_
  · refine Ent.auto0 rfl ?_ ?_ <;> simp only [go_sem, reduceCtorEq, reduceIte, Nat.reduceEqDiff, Nat.reduceLT, Nat.reduceLeDiff, Int.natCast_succ]
  by_cases hlt : i < l.length
  · have he := bk_elem l hlt
    have kd := sameBk_ok (l.getD i Bk.zero)
    unfold Bk.av at kd
    (repeat' first | with_reducible (first | intro _ | refine rc ?_ | refine rl ?_ | refine rh ?_ | refine rt ?_ | refine rf ?_ | refine rs ?_ | refine And.intro ?_ ?_) | omega | simp (maxSteps := 1000000) only [go_sem, simprocAttr, ↓reduceIte, elemA, he, List.length_map])
    refine VcCall.k (kd) ?_
    (repeat' first | with_reducible (first | intro _ | refine rc ?_ | refine rl ?_ | refine rh ?_ | refine rt ?_ | refine rf ?_ | refine rs ?_ | refine And.intro ?_ ?_) | omega | simp (maxSteps := 1000000) only [go_sem, simprocAttr, ↓reduceIte])
    refine ⟨i + 1, Ent.auto0 rfl ?_ ?_, by omega, by omega⟩ <;> simp only [go_sem, reduceCtorEq, reduceIte, Nat.reduceEqDiff, Nat.reduceLT, Nat.reduceLeDiff, Int.natCast_succ]
  · (repeat' first | with_reducible (first | intro _ | refine rc ?_ | refine rl ?_ | refine rh ?_ | refine rt ?_ | refine rf ?_ | refine rs ?_ | refine And.intro ?_ ?_) | omega | simp (maxSteps := 1000000) only [go_sem, simprocAttr, ↓reduceIte])
    refine Ret.auto 0 ?_ rfl ?_ <;> simp only [go_sem, reduceCtorEq, reduceIte, Nat.reduceEqDiff, Nat.reduceLT, Nat.reduceLeDiff, Int.natCast_succ, Post]
theorem sameBlocks_ok (l : List Bk) : FnOk Tryz.prog 20 [.ro (bks l), .ro (bks l)] (.bool true) [] := by
  have k1 := eqBks_ok l
  refine FnOk.of_vc Tryz.func20 rfl (by decide) (by simp [Tryz.f20]) [.tmp 4] rfl fun w0 T0 _ => ?_
  simp only [Tryz.f20, argEnv]
  (repeat' first | with_reducible (first | intro _ | refine rc ?_ | refine rl ?_ | refine rh ?_ | refine rt ?_ | refine rf ?_ | refine rs ?_ | refine And.intro ?_ ?_) | omega | simp (maxSteps := 1000000) only [go_sem, simprocAttr, ↓reduceIte])
  refine VcCall.k (k1) ?_
  (repeat' first | with_reducible (first | intro _ | refine rc ?_ | refine rl ?_ | refine rh ?_ | refine rt ?_ | refine rf ?_ | refine rs ?_ | refine And.intro ?_ ?_) | omega | simp (maxSteps := 1000000) only [go_sem, simprocAttr, ↓reduceIte])
  refine Ret.auto 0 ?_ rfl ?_ <;> simp only [go_sem, reduceCtorEq, reduceIte, Nat.reduceEqDiff, Nat.reduceLT, Nat.reduceLeDiff, Int.natCast_succ, Post]
end Go.Fv.Q

/- The law LayoutsMatch. -/
namespace Go.Fv.Q
open Go Go.Proofs
set_option linter.unusedSimpArgs false
set_option linter.unusedVariables false
set_option linter.unnecessarySimpa false
set_option maxRecDepth 8000

theorem inB_ok (n a b : Int) (v : Bool) (hv : v = decide (a ≤ n ∧ n ≤ b)) : FnOk Tryz.prog 19 [.int .i64 n, .int .i64 a, .int .i64 b] (.bool v) [] := by
  subst hv
  refine FnOk.of_vc Tryz.func19 rfl (by decide) (by simp [Tryz.f19]) [.tmp 6] rfl fun w0 T0 _ => ?_
  simp only [Tryz.f19, argEnv]
  (repeat' first | with_reducible (first | intro _ | refine rc ?_ | refine rl ?_ | refine rh ?_ | refine rt ?_ | refine rf ?_ | refine rs ?_ | refine And.intro ?_ ?_) | omega | simp (maxSteps := 1000000) only [go_sem, simprocAttr, ↓reduceIte])
  refine Ret.auto 0 ?_ rfl ?_ <;> simp only [go_sem, reduceCtorEq, reduceIte, Nat.reduceEqDiff, Nat.reduceLT, Nat.reduceLeDiff, Int.natCast_succ, Post]
theorem sumInk_take (p : List Bool) (w : Nat) {l : List Nb} {k : Nat} (h : k < l.length) : ((l.take (k + 1)).map (inkB p w)).sum = ((l.take k).map (inkB p w)).sum + inkB p w (l.getD k Nb.zero) := by
  rw [List.take_succ_eq_append_getElem h, getD_lt h, List.map_append, List.sum_append]
  simp
theorem sumInk_le (p : List Bool) (w : Nat) (l : List Nb) (k : Nat) : ((l.take k).map (inkB p w)).sum ≤ (l.map (inkB p w)).sum := by
  have : (l.map (inkB p w)).sum = ((l.take k).map (inkB p w)).sum + ((l.drop k).map (inkB p w)).sum := by
    rw [← List.sum_append, ← List.map_append, List.take_append_drop]
  omega
set_option maxHeartbeats 16000000 in
theorem layGood (W H : Int) (p : List Bool) (w h : Nat) (q : List Bool) (k1 : FnOk Tryz.prog 6 [.agg [.int .i64 W, .int .i64 H, .ro (.bools p)]] (.agg [.int .i64 w, .int .i64 h, .own 0]) [(0, .row 4 (.bools q))]) (w1 : 1 ≤ w) (w2 : w ≤ 32) (h1 : 1 ≤ h) (h2 : h ≤ 32) (hq : q.length = w * h) (least gx gy line word : Nat) (hw : WaysIn least gx gy line word) : FnOk Tryz.prog 4 [.agg [.int .i64 W, .int .i64 H, .ro (.bools p)], .agg [.int .i64 least, .int .i64 gx, .int .i64 gy, .int .i64 line, .int .i64 word]] (.bool true) [] := by
  unfold WaysIn at hw
  have kL := layout_ok w h w1 w2 h1 h2 q hq least gx gy line word (by omega) (by omega) (by omega) (by omega) (by omega) (by omega) (by omega) (by omega) (by omega)
  have kR := refLayout_ok w h w1 w2 h1 h2 q hq least gx gy line word (by omega) (by omega) (by omega) (by omega) (by omega) (by omega) (by omega) (by omega) (by omega)
  have kS := specks_ok w h w1 (by omega) h1 (by omega) q hq ((least : Int) - 1) (by omega)
  rw [show (chgAll (!true) (speckB ((least : Int) - 1)) q (pieces ⟨q, w, h, true, true⟩)).p = spk w h q least from rfl] at kS
  have hcl := (spk_len w h q least).trans hq
  generalize (chgAll (!true) (speckB ((least : Int) - 1)) q (pieces ⟨q, w, h, true, true⟩)).n = ns at *
  generalize spk w h q least = c at *
  have hcu := flat_cuts c w h gx gy line word
  have hbl : (layL c w h gx gy line word).length ≤ 5000 := by
    have hc := (cutL_spec c w gx gy (w + h + 1) ⟨0, 0, w, h⟩ (by dsimp only; omega)).len
    have hi := inkN_le c w 0 0 w h
    have hwh : h * w ≤ 32 * 32 := Nat.mul_le_mul h2 w2
    unfold layL; rw [List.length_map]
    rw [show inkB c w ⟨0, 0, w, h⟩ = inkN c w 0 0 w h from rfl] at hc
    omega
  generalize layL c w h gx gy line word = B at *
  have hlen := hcu.len
  have hsum := hcu.sum
  have hap := hcu.apart
  have hpt := hcu.part
  clear hcu
  have hi := inkN_le c w 0 0 w h
  have hwh : h * w ≤ 32 * 32 := Nat.mul_le_mul h2 w2
  rw [show inkB c w ⟨0, 0, w, h⟩ = inkN c w 0 0 w h from rfl] at hlen hsum
  have hfl : (flatB B).length ≤ 5000 := by omega
  have kF := flat_ok B hfl
  have kM := sameBlocks_ok B
  have kQ := equalNb_ok (flatB B)
  have kI := inkOf_ok w h 0 0 w h (by omega) (by omega) c hcl (by omega) (by omega)
  simp only [Int.natCast_zero, Int.cast_ofNat_Int] at kI
  have ki1 := inB_ok least 1 1048576 true (decide_eq_true (by omega)).symm
  have ki2 := inB_ok gx 1 4000 true (decide_eq_true (by omega)).symm
  have ki3 := inB_ok gy 1 4000 true (decide_eq_true (by omega)).symm
  have ki4 := inB_ok line 1 4000 true (decide_eq_true (by omega)).symm
  have ki5 := inB_ok word 0 4000 true (decide_eq_true (by omega)).symm
  have htk := fun k (hk : k < B.length) => flatB_succ hk
  have htl := fun k => flatB_len_take B k
  have hbe := fun k (hk : k < B.length) => bk_elem B hk
  generalize hF : flatB B = F at *
  generalize inkN c w 0 0 w h = N at *
  refine FnOk.of_vc Tryz.func4 rfl (by decide) (by simp [Tryz.f4]) [.tmp 4] rfl fun w0 T0 _ => ?_
  simp only [Tryz.f4, argEnv]
  (repeat' first | with_reducible (first | intro _ | refine rc ?_ | refine rl ?_ | refine rh ?_ | refine rt ?_ | refine rf ?_ | refine rs ?_ | refine And.intro ?_ ?_) | omega | simp (maxSteps := 1000000) only [go_sem, simprocAttr, ↓reduceIte])
  refine VcCall.k (landed_ok) ?_
  (repeat' first | with_reducible (first | intro _ | refine rc ?_ | refine rl ?_ | refine rh ?_ | refine rt ?_ | refine rf ?_ | refine rs ?_ | refine And.intro ?_ ?_) | omega | simp (maxSteps := 1000000) only [go_sem, simprocAttr, ↓reduceIte])
  refine VcCall.ro (.agg [.int .i64 w, .int .i64 h, .ro (.bools q)]) (FnFr.of_ok k1 rfl rfl) (by simp only [noIdR_ok, argOkL, argOk, allOk, argOkN, List.drop_zero, lk, reduceIte, reduceCtorEq, Nat.reduceEqDiff, Option.some.injEq, Item.row.injEq, Item.box.injEq, AV.ro.injEq, exists_eq_left, exists_and_left, exists_eq_left', exists_eq_right, and_assoc, and_true, true_and, List.cons.injEq, exists_eq', exists_eq]) (by simp [outOk, argOk, allOk, argOkN, lk]) rfl ?_
  (repeat' first | with_reducible (first | intro _ | refine rc ?_ | refine rl ?_ | refine rh ?_ | refine rt ?_ | refine rf ?_ | refine rs ?_ | refine And.intro ?_ ?_) | omega | simp (maxSteps := 1000000) only [go_sem, simprocAttr, ↓reduceIte])
  refine VcCall.ros (.tup [.ro (bks B), .int .i64 0]) kL (by simp only [noIdR_ok, argOkL, argOk, allOk, argOkN, List.drop_zero, lk, reduceIte, reduceCtorEq, Nat.reduceEqDiff, Option.some.injEq, Item.row.injEq, Item.box.injEq, AV.ro.injEq, exists_eq_left, exists_and_left, exists_eq_left', exists_eq_right, and_assoc, and_true, true_and, List.cons.injEq, exists_eq', exists_eq]) (by simp [outOk, argOkL, allOk, argOk, argOkN, lk, noIdR_ok]) rfl ?_
  (repeat' first | with_reducible (first | intro _ | refine rc ?_ | refine rl ?_ | refine rh ?_ | refine rt ?_ | refine rf ?_ | refine rs ?_ | refine And.intro ?_ ?_) | omega | simp (maxSteps := 1000000) only [go_sem, simprocAttr, ↓reduceIte])
  refine VcCall.k (ki1) ?_
  (repeat' first | with_reducible (first | intro _ | refine rc ?_ | refine rl ?_ | refine rh ?_ | refine rt ?_ | refine rf ?_ | refine rs ?_ | refine And.intro ?_ ?_) | omega | simp (maxSteps := 1000000) only [go_sem, simprocAttr, ↓reduceIte])
  refine VcCall.k (ki2) ?_
  (repeat' first | with_reducible (first | intro _ | refine rc ?_ | refine rl ?_ | refine rh ?_ | refine rt ?_ | refine rf ?_ | refine rs ?_ | refine And.intro ?_ ?_) | omega | simp (maxSteps := 1000000) only [go_sem, simprocAttr, ↓reduceIte])
  refine VcCall.k (ki3) ?_
  (repeat' first | with_reducible (first | intro _ | refine rc ?_ | refine rl ?_ | refine rh ?_ | refine rt ?_ | refine rf ?_ | refine rs ?_ | refine And.intro ?_ ?_) | omega | simp (maxSteps := 1000000) only [go_sem, simprocAttr, ↓reduceIte])
  refine VcCall.k (ki4) ?_
  (repeat' first | with_reducible (first | intro _ | refine rc ?_ | refine rl ?_ | refine rh ?_ | refine rt ?_ | refine rf ?_ | refine rs ?_ | refine And.intro ?_ ?_) | omega | simp (maxSteps := 1000000) only [go_sem, simprocAttr, ↓reduceIte])
  refine VcCall.k (ki5) ?_
  (repeat' first | with_reducible (first | intro _ | refine rc ?_ | refine rl ?_ | refine rh ?_ | refine rt ?_ | refine rf ?_ | refine rs ?_ | refine And.intro ?_ ?_) | omega | simp (maxSteps := 1000000) only [go_sem, simprocAttr, ↓reduceIte])
  refine VcCall.ros (.ro (bks B)) kR (by simp only [noIdR_ok, argOkL, argOk, allOk, argOkN, List.drop_zero, lk, reduceIte, reduceCtorEq, Nat.reduceEqDiff, Option.some.injEq, Item.row.injEq, Item.box.injEq, AV.ro.injEq, exists_eq_left, exists_and_left, exists_eq_left', exists_eq_right, and_assoc, and_true, true_and, List.cons.injEq, exists_eq', exists_eq]) (by simp [outOk, argOkL, allOk, argOk, argOkN, lk, noIdR_ok]) rfl ?_
  (repeat' first | with_reducible (first | intro _ | refine rc ?_ | refine rl ?_ | refine rh ?_ | refine rt ?_ | refine rf ?_ | refine rs ?_ | refine And.intro ?_ ?_) | omega | simp (maxSteps := 1000000) only [go_sem, simprocAttr, ↓reduceIte])
  refine VcCall.k (kM) ?_
  (repeat' first | with_reducible (first | intro _ | refine rc ?_ | refine rl ?_ | refine rh ?_ | refine rt ?_ | refine rf ?_ | refine rs ?_ | refine And.intro ?_ ?_) | omega | simp (maxSteps := 1000000) only [go_sem, simprocAttr, ↓reduceIte])
  refine VcCall.ro (.tup [.agg [.int .i64 w, .int .i64 h, .ro (.bools c)], .int .i64 ns, .int .i64 0]) (FnFr.of_ok kS rfl rfl) (by simp only [noIdR_ok, argOkL, argOk, allOk, argOkN, List.drop_zero, lk, reduceIte, reduceCtorEq, Nat.reduceEqDiff, Option.some.injEq, Item.row.injEq, Item.box.injEq, AV.ro.injEq, exists_eq_left, exists_and_left, exists_eq_left', exists_eq_right, and_assoc, and_true, true_and, List.cons.injEq, exists_eq', exists_eq]) (by simp [outOk, argOkL, allOk, argOk, argOkN, lk, noIdR_ok]) rfl ?_
  (repeat' first | with_reducible (first | intro _ | refine rc ?_ | refine rl ?_ | refine rh ?_ | refine rt ?_ | refine rf ?_ | refine rs ?_ | refine And.intro ?_ ?_) | omega | simp (maxSteps := 1000000) only [go_sem, simprocAttr, ↓reduceIte])
  refine VcCall.ro (.ro (nbs F)) (FnFr.of_ok kF rfl (by simp [noRoRows, noRoItem, noRoRow, nbs, Nb.av, noRoL, noRo])) (by simp only [noIdR_ok, argOkL, argOk, allOk, argOkN, List.drop_zero, lk, reduceIte, reduceCtorEq, Nat.reduceEqDiff, Option.some.injEq, Item.row.injEq, Item.box.injEq, AV.ro.injEq, exists_eq_left, exists_and_left, exists_eq_left', exists_eq_right, and_assoc, and_true, true_and, List.cons.injEq, exists_eq', exists_eq]) (by simp [outOk, argOkL, allOk, argOk, argOkN, lk, noIdR_ok, nbs]) rfl ?_
  (repeat' first | with_reducible (first | intro _ | refine rc ?_ | refine rl ?_ | refine rh ?_ | refine rt ?_ | refine rf ?_ | refine rs ?_ | refine And.intro ?_ ?_) | omega | simp (maxSteps := 1000000) only [go_sem, simprocAttr, ↓reduceIte, nbs, List.length_map])
  refine VcLoop.intro (fun k : Nat => ⟨186, [(96, .int .i64 k), (95, .int .i64 B.length), (94, .ro (bks B)), (11, .own 3), (10, .ro (.objs 4 (F.map Nb.av))), (8, .ptr 2 0), (5, .ro (bks B)), (3, .ptr 1 0), (2, .ptr 0 0)], [(0, .box 24 [.int .i64 w, .int .i64 h, .ro (.bools q)]), (1, .box 41 [.int .i64 least, .int .i64 gx, .int .i64 gy, .int .i64 line, .int .i64 word]), (2, .box 24 [.int .i64 w, .int .i64 h, .ro (.bools c)]), (3, .row 26 (nbs (flatB (B.take k))))], 4⟩) (fun k => k ≤ B.length) (fun k => B.length - k) 0 ?_ (Nat.zero_le _) fun k hk => ?_
  · refine Ent.auto0 rfl ?_ ?_ <;> simp only [go_sem, reduceCtorEq, reduceIte, Nat.reduceEqDiff, Nat.reduceLT, Nat.reduceLeDiff, Int.natCast_succ, List.take_zero, flatB, List.flatMap_nil, nbs, List.map_nil]
  by_cases hlt : k < B.length
  · have he := hbe k hlt
    have hs := htk k hlt
    have hbd := htl (k + 1)
    rw [hs, List.length_append] at hbd
    generalize flatB (B.take k) = D at *
    generalize B.getD k Bk.zero = b at *
    obtain ⟨⟨bx, by', bw, bh⟩, R⟩ := b
    dsimp only at he hs hbd
    (repeat' first | with_reducible (first | intro _ | refine rc ?_ | refine rl ?_ | refine rh ?_ | refine rt ?_ | refine rf ?_ | refine rs ?_ | refine And.intro ?_ ?_) | omega | simp (maxSteps := 1000000) only [go_sem, simprocAttr, ↓reduceIte, List.length_map, elemA, he])
    refine VcLoop.intro (fun j : Nat => ⟨186, [(103, .int .i64 j), (102, .int .i64 R.length), (101, .ro (lns R)), (96, .int .i64 k), (95, .int .i64 B.length), (94, .ro (bks B)), (11, .own 3), (10, .ro (.objs 4 (F.map Nb.av))), (8, .ptr 2 0), (5, .ro (bks B)), (3, .ptr 1 0), (2, .ptr 0 0)], [(0, .box 24 [.int .i64 w, .int .i64 h, .ro (.bools q)]), (1, .box 41 [.int .i64 least, .int .i64 gx, .int .i64 gy, .int .i64 line, .int .i64 word]), (2, .box 24 [.int .i64 w, .int .i64 h, .ro (.bools c)]), (3, .row 26 (nbs (D ++ (R.take j).flatMap Ln.ws)))], 4⟩) (fun j => j ≤ R.length) (fun j => R.length - j) 0 ?_ (Nat.zero_le _) fun j hj => ?_
    · refine Ent.auto0 rfl ?_ ?_ <;> simp only [go_sem, reduceCtorEq, reduceIte, Nat.reduceEqDiff, Nat.reduceLT, Nat.reduceLeDiff, Int.natCast_succ, List.take_zero, List.flatMap_nil, List.append_nil, nbs]
    by_cases hjl : j < R.length
    · have hel := ln_elem R hjl
      have hsl := ws_succ hjl
      have hbl := ws_len_take R (j + 1)
      rw [hsl, List.length_append] at hbl
      have hdl : (D ++ (R.take j).flatMap Ln.ws).length ≤ 5000 := by rw [List.length_append]; omega
      have hsa : (D ++ (R.take (j + 1)).flatMap Ln.ws).map Nb.av = (D ++ (R.take j).flatMap Ln.ws).map Nb.av ++ (R.getD j Ln.zero).ws.map Nb.av := by rw [hsl, ← List.append_assoc, List.map_append]
      generalize D ++ (R.take j).flatMap Ln.ws = E at *
      generalize R.getD j Ln.zero = x at *
      obtain ⟨⟨lx, ly, lw, lh⟩, s, W⟩ := x
      dsimp only at hel hsa hbl
      (repeat' first | with_reducible (first | intro _ | refine rc ?_ | refine rl ?_ | refine rh ?_ | refine rt ?_ | refine rf ?_ | refine rs ?_ | refine And.intro ?_ ?_) | omega | simp (maxSteps := 1000000) only [go_sem, simprocAttr, ↓reduceIte, List.length_map, elemA, hel, nbs])
      refine ⟨j + 1, Ent.auto0 rfl ?_ ?_, by omega, by omega⟩ <;> simp only [go_sem, reduceCtorEq, reduceIte, Nat.reduceEqDiff, Nat.reduceLT, Nat.reduceLeDiff, Int.natCast_succ, nbs, hsa]
    · have e : j = R.length := by omega
      subst e
      rw [List.take_length]
      (repeat' first | with_reducible (first | intro _ | refine rc ?_ | refine rl ?_ | refine rh ?_ | refine rt ?_ | refine rf ?_ | refine rs ?_ | refine And.intro ?_ ?_) | omega | simp (maxSteps := 1000000) only [go_sem, simprocAttr, ↓reduceIte])
      refine ⟨k + 1, Ent.auto0 rfl ?_ ?_, by omega, by omega⟩ <;> simp only [go_sem, reduceCtorEq, reduceIte, Nat.reduceEqDiff, Nat.reduceLT, Nat.reduceLeDiff, Int.natCast_succ, hs, nbs]
  · have e : k = B.length := by omega
    subst e
    rw [List.take_length, hF]
    (repeat' first | with_reducible (first | intro _ | refine rc ?_ | refine rl ?_ | refine rh ?_ | refine rt ?_ | refine rf ?_ | refine rs ?_ | refine And.intro ?_ ?_) | omega | simp (maxSteps := 1000000) only [go_sem, simprocAttr, ↓reduceIte])
    refine VcCall.fr (FnFr.of_ok kQ rfl rfl) (by simp only [noIdR_ok, argOkL, argOk, allOk, argOkN, List.drop_zero, lk, reduceIte, reduceCtorEq, Nat.reduceEqDiff, Option.some.injEq, Item.row.injEq, Item.box.injEq, AV.ro.injEq, exists_eq_left, exists_and_left, exists_eq_left', exists_eq_right, and_assoc, and_true, true_and, List.cons.injEq, exists_eq', exists_eq, nbs]) 0 rfl (by simp [rowsB]) ?_
    (repeat' first | with_reducible (first | intro _ | refine rc ?_ | refine rl ?_ | refine rh ?_ | refine rt ?_ | refine rf ?_ | refine rs ?_ | refine And.intro ?_ ?_) | omega | simp (maxSteps := 1000000) only [go_sem, simprocAttr, ↓reduceIte, List.length_map])
    refine VcLoop.intro (fun k : Nat => ⟨186, [(119, .int .i64 k), (118, .int .i64 F.length), (117, .ro (.objs 4 (F.map Nb.av))), (16, .int .i64 (((F.take k).map (inkB c w)).sum : Nat)), (10, .ro (.objs 4 (F.map Nb.av))), (8, .ptr 2 0), (3, .ptr 1 0), (2, .ptr 0 0)], [(0, .box 24 [.int .i64 w, .int .i64 h, .ro (.bools q)]), (1, .box 41 [.int .i64 least, .int .i64 gx, .int .i64 gy, .int .i64 line, .int .i64 word]), (2, .box 24 [.int .i64 w, .int .i64 h, .ro (.bools c)])], 3⟩) (fun k => k ≤ F.length) (fun k => F.length - k) 0 ?_ (Nat.zero_le _) fun k hk => ?_
    · refine Ent.auto0 rfl ?_ ?_ <;> simp only [go_sem, reduceCtorEq, reduceIte, Nat.reduceEqDiff, Nat.reduceLT, Nat.reduceLeDiff, Int.natCast_succ, List.take_zero, List.map_nil, List.sum_nil]
    by_cases hlt : k < F.length
    · have hev := nb_elem F hlt
      have ht := sumInk_take c w hlt
      have hs1 := sumInk_le c w F (k + 1)
      have hmem : F.getD k Nb.zero ∈ F := by rw [getD_lt hlt]; exact List.getElem_mem hlt
      have hpk := hpt _ hmem
      have hak : ∀ j, j < k → Apart (F.getD j Nb.zero) (F.getD k Nb.zero) := fun j hj => by
        rw [getD_lt hlt, getD_lt (show j < F.length by omega)]
        exact (List.pairwise_iff_getElem.1 hap) j k (by omega) hlt hj
      have hbx : ∀ j, j < k → (F.getD j Nb.zero).x + (F.getD j Nb.zero).w ≤ 4000 ∧ (F.getD j Nb.zero).y + (F.getD j Nb.zero).h ≤ 4000 := fun j hj => by
        have := hpt (F.getD j Nb.zero) (by rw [getD_lt (show j < F.length by omega)]; exact List.getElem_mem _)
        unfold PartOf at this
        dsimp only at this
        omega
      unfold PartOf at hpk
      dsimp only at hpk
      rw [show inkB c w (F.getD k Nb.zero) = inkN c w (F.getD k Nb.zero).x (F.getD k Nb.zero).y (F.getD k Nb.zero).w (F.getD k Nb.zero).h from rfl] at ht
      have kIk := inkOf_ok w h (F.getD k Nb.zero).x (F.getD k Nb.zero).y (F.getD k Nb.zero).w (F.getD k Nb.zero).h (by omega) (by omega) c hcl (by omega) (by omega)
      generalize F.getD k Nb.zero = b at *
      generalize inkN c w b.x b.y b.w b.h = n at *
      generalize ((F.take k).map (inkB c w)).sum = S at *
      obtain ⟨cx, cy, cw, ch⟩ := b
      dsimp only at *
      (repeat' first | with_reducible (first | intro _ | refine rc ?_ | refine rl ?_ | refine rh ?_ | refine rt ?_ | refine rf ?_ | refine rs ?_ | refine And.intro ?_ ?_) | omega | simp (maxSteps := 1000000) only [go_sem, simprocAttr, ↓reduceIte, List.length_map, elemA, hev])
      refine VcCall.k (kIk) ?_
      have hlk : (List.take k (List.map Nb.av F)).length = k := by rw [List.length_take, List.length_map]; omega
      (repeat' first | with_reducible (first | intro _ | refine rc ?_ | refine rl ?_ | refine rh ?_ | refine rt ?_ | refine rf ?_ | refine rs ?_ | refine And.intro ?_ ?_) | omega | simp (maxSteps := 1000000) only [go_sem, simprocAttr, ↓reduceIte, List.length_map, Int.toNat_natCast, List.drop_zero, Nat.sub_zero, hlk])
      refine VcLoop.intro (fun j : Nat => ⟨186, [(133, .int .i64 j), (132, .int .i64 k), (131, .ro (.objs 4 (List.take k (List.map Nb.av F)))), (18, .ptr 3 0), (119, .int .i64 k), (118, .int .i64 F.length), (117, .ro (.objs 4 (F.map Nb.av))), (16, .int .i64 ((S : Int) + n)), (10, .ro (.objs 4 (F.map Nb.av))), (8, .ptr 2 0), (3, .ptr 1 0), (2, .ptr 0 0)], [(0, .box 24 [.int .i64 w, .int .i64 h, .ro (.bools q)]), (1, .box 41 [.int .i64 least, .int .i64 gx, .int .i64 gy, .int .i64 line, .int .i64 word]), (2, .box 24 [.int .i64 w, .int .i64 h, .ro (.bools c)]), (3, .box 26 [.int .i64 cx, .int .i64 cy, .int .i64 cw, .int .i64 ch])], 4⟩) (fun j => j ≤ k) (fun j => k - j) 0 ?_ (Nat.zero_le _) fun j hj => ?_
      · refine Ent.auto0 rfl ?_ ?_ <;> simp only [go_sem, reduceCtorEq, reduceIte, Nat.reduceEqDiff, Nat.reduceLT, Nat.reduceLeDiff, Int.natCast_succ]
      by_cases hjk : j < k
      · have hej := nb_elem F (show j < F.length by omega)
        have hej2 : (List.take k (List.map Nb.av F)).getD j [] = (F.map Nb.av).getD j [] := by
          rw [List.getD_eq_getElem?_getD, List.getD_eq_getElem?_getD, List.getElem?_take, if_pos hjk]
        rw [hej] at hej2
        have hap2 := hak j hjk
        have hbd2 := hbx j hjk
        unfold Apart at hap2
        generalize F.getD j Nb.zero = d at *
        obtain ⟨dx, dy, dw, dh⟩ := d
        dsimp only at hap2 hbd2 hej2 hej
        (repeat' first | with_reducible (first | intro _ | refine rc ?_ | refine rl ?_ | refine rh ?_ | refine rt ?_ | refine rf ?_ | refine rs ?_ | refine And.intro ?_ ?_) | omega | simp (maxSteps := 1000000) only [go_sem, simprocAttr, ↓reduceIte, List.length_map, hlk, elemA, hej2])
        refine ⟨j + 1, Ent.auto0 rfl ?_ ?_, by omega, by omega⟩ <;> simp only [go_sem, reduceCtorEq, reduceIte, Nat.reduceEqDiff, Nat.reduceLT, Nat.reduceLeDiff, Int.natCast_succ]
      · have e : j = k := by omega
        subst e
        (repeat' first | with_reducible (first | intro _ | refine rc ?_ | refine rl ?_ | refine rh ?_ | refine rt ?_ | refine rf ?_ | refine rs ?_ | refine And.intro ?_ ?_) | omega | simp (maxSteps := 1000000) only [go_sem, simprocAttr, ↓reduceIte])
        refine ⟨j + 1, Ent.auto0 rfl ?_ ?_, by omega, by omega⟩ <;> simp only [go_sem, reduceCtorEq, reduceIte, Nat.reduceEqDiff, Nat.reduceLT, Nat.reduceLeDiff, Int.natCast_succ, ht]
        omega
    · have e : k = F.length := by omega
      subst e
      rw [List.take_length, hsum]
      (repeat' first | with_reducible (first | intro _ | refine rc ?_ | refine rl ?_ | refine rh ?_ | refine rt ?_ | refine rf ?_ | refine rs ?_ | refine And.intro ?_ ?_) | omega | simp (maxSteps := 1000000) only [go_sem, simprocAttr, ↓reduceIte])
      refine VcCall.k (kI) ?_
      (repeat' first | with_reducible (first | intro _ | refine rc ?_ | refine rl ?_ | refine rh ?_ | refine rt ?_ | refine rf ?_ | refine rs ?_ | refine And.intro ?_ ?_) | omega | simp (maxSteps := 1000000) only [go_sem, simprocAttr, ↓reduceIte])
      refine Ret.auto 0 ?_ rfl ?_ <;> simp only [go_sem, reduceCtorEq, reduceIte, Nat.reduceEqDiff, Nat.reduceLT, Nat.reduceLeDiff, Int.natCast_succ, Post]
set_option maxHeartbeats 4000000 in
theorem layBad (W H : Int) (p : List Bool) (w h : Nat) (q : List Bool) (k1 : FnOk Tryz.prog 6 [.agg [.int .i64 W, .int .i64 H, .ro (.bools p)]] (.agg [.int .i64 w, .int .i64 h, .own 0]) [(0, .row 4 (.bools q))]) (w1 : 1 ≤ w) (w2 : w ≤ 32) (h1 : 1 ≤ h) (h2 : h ≤ 32) (hq : q.length = w * h) (least gx gy line word : Int) (hw : ¬ WaysIn least gx gy line word) : FnOk Tryz.prog 4 [.agg [.int .i64 W, .int .i64 H, .ro (.bools p)], .agg [.int .i64 least, .int .i64 gx, .int .i64 gy, .int .i64 line, .int .i64 word]] (.bool true) [] := by
  have kL := layoutE_ok w h w1 w2 h1 h2 q hq least gx gy line word hw
  unfold WaysIn at hw
  by_cases a0 : 1 ≤ least ∧ least ≤ 1048576
  · have ki0 := inB_ok least 1 1048576 true (decide_eq_true a0).symm
    by_cases a1 : 1 ≤ gx ∧ gx ≤ 4000
    · have ki1 := inB_ok gx 1 4000 true (decide_eq_true a1).symm
      by_cases a2 : 1 ≤ gy ∧ gy ≤ 4000
      · have ki2 := inB_ok gy 1 4000 true (decide_eq_true a2).symm
        by_cases a3 : 1 ≤ line ∧ line ≤ 4000
        · have ki3 := inB_ok line 1 4000 true (decide_eq_true a3).symm
          have a4 : ¬ (0 ≤ word ∧ word ≤ 4000) := by omega
          have kf := inB_ok word 0 4000 false (decide_eq_false a4).symm
          refine FnOk.of_vc Tryz.func4 rfl (by decide) (by simp [Tryz.f4]) [.tmp 4] rfl fun w0 T0 _ => ?_
          simp only [Tryz.f4, argEnv]
          (repeat' first | with_reducible (first | intro _ | refine rc ?_ | refine rl ?_ | refine rh ?_ | refine rt ?_ | refine rf ?_ | refine rs ?_ | refine And.intro ?_ ?_) | omega | simp (maxSteps := 1000000) only [go_sem, simprocAttr, ↓reduceIte])
          refine VcCall.k (landed_ok) ?_
          (repeat' first | with_reducible (first | intro _ | refine rc ?_ | refine rl ?_ | refine rh ?_ | refine rt ?_ | refine rf ?_ | refine rs ?_ | refine And.intro ?_ ?_) | omega | simp (maxSteps := 1000000) only [go_sem, simprocAttr, ↓reduceIte])
          refine VcCall.ro (.agg [.int .i64 w, .int .i64 h, .ro (.bools q)]) (FnFr.of_ok k1 rfl rfl) (by simp only [noIdR_ok, argOkL, argOk, allOk, argOkN, List.drop_zero, lk, reduceIte, reduceCtorEq, Nat.reduceEqDiff, Option.some.injEq, Item.row.injEq, Item.box.injEq, AV.ro.injEq, exists_eq_left, exists_and_left, exists_eq_left', exists_eq_right, and_assoc, and_true, true_and, List.cons.injEq, exists_eq', exists_eq]) (by simp [outOk, argOk, allOk, argOkN, lk]) rfl ?_
          (repeat' first | with_reducible (first | intro _ | refine rc ?_ | refine rl ?_ | refine rh ?_ | refine rt ?_ | refine rf ?_ | refine rs ?_ | refine And.intro ?_ ?_) | omega | simp (maxSteps := 1000000) only [go_sem, simprocAttr, ↓reduceIte])
          refine VcCall.ro (.tup [.ro (bks []), .int .i64 3]) (FnFr.of_ok kL rfl (by simp [noRoRows, noRoItem, noRoRow, noRoL, noRo])) (by simp only [noIdR_ok, argOkL, argOk, allOk, argOkN, List.drop_zero, lk, reduceIte, reduceCtorEq, Nat.reduceEqDiff, Option.some.injEq, Item.row.injEq, Item.box.injEq, AV.ro.injEq, exists_eq_left, exists_and_left, exists_eq_left', exists_eq_right, and_assoc, and_true, true_and, List.cons.injEq, exists_eq', exists_eq]) (by simp [outOk, argOkL, allOk, argOk, argOkN, lk, noIdR_ok]) rfl ?_
          (repeat' first | with_reducible (first | intro _ | refine rc ?_ | refine rl ?_ | refine rh ?_ | refine rt ?_ | refine rf ?_ | refine rs ?_ | refine And.intro ?_ ?_) | omega | simp (maxSteps := 1000000) only [go_sem, simprocAttr, ↓reduceIte])
          refine VcCall.k (ki0) ?_
          (repeat' first | with_reducible (first | intro _ | refine rc ?_ | refine rl ?_ | refine rh ?_ | refine rt ?_ | refine rf ?_ | refine rs ?_ | refine And.intro ?_ ?_) | omega | simp (maxSteps := 1000000) only [go_sem, simprocAttr, ↓reduceIte])
          refine VcCall.k (ki1) ?_
          (repeat' first | with_reducible (first | intro _ | refine rc ?_ | refine rl ?_ | refine rh ?_ | refine rt ?_ | refine rf ?_ | refine rs ?_ | refine And.intro ?_ ?_) | omega | simp (maxSteps := 1000000) only [go_sem, simprocAttr, ↓reduceIte])
          refine VcCall.k (ki2) ?_
          (repeat' first | with_reducible (first | intro _ | refine rc ?_ | refine rl ?_ | refine rh ?_ | refine rt ?_ | refine rf ?_ | refine rs ?_ | refine And.intro ?_ ?_) | omega | simp (maxSteps := 1000000) only [go_sem, simprocAttr, ↓reduceIte])
          refine VcCall.k (ki3) ?_
          (repeat' first | with_reducible (first | intro _ | refine rc ?_ | refine rl ?_ | refine rh ?_ | refine rt ?_ | refine rf ?_ | refine rs ?_ | refine And.intro ?_ ?_) | omega | simp (maxSteps := 1000000) only [go_sem, simprocAttr, ↓reduceIte])
          refine VcCall.k (kf) ?_
          (repeat' first | with_reducible (first | intro _ | refine rc ?_ | refine rl ?_ | refine rh ?_ | refine rt ?_ | refine rf ?_ | refine rs ?_ | refine And.intro ?_ ?_) | omega | simp (maxSteps := 1000000) only [go_sem, simprocAttr, ↓reduceIte, List.map_nil, List.length_nil])
          refine Ret.auto 0 ?_ rfl ?_ <;> simp only [go_sem, reduceCtorEq, reduceIte, Nat.reduceEqDiff, Nat.reduceLT, Nat.reduceLeDiff, Int.natCast_succ, Post]
        · have kf := inB_ok line 1 4000 false (decide_eq_false a3).symm
          refine FnOk.of_vc Tryz.func4 rfl (by decide) (by simp [Tryz.f4]) [.tmp 4] rfl fun w0 T0 _ => ?_
          simp only [Tryz.f4, argEnv]
          (repeat' first | with_reducible (first | intro _ | refine rc ?_ | refine rl ?_ | refine rh ?_ | refine rt ?_ | refine rf ?_ | refine rs ?_ | refine And.intro ?_ ?_) | omega | simp (maxSteps := 1000000) only [go_sem, simprocAttr, ↓reduceIte])
          refine VcCall.k (landed_ok) ?_
          (repeat' first | with_reducible (first | intro _ | refine rc ?_ | refine rl ?_ | refine rh ?_ | refine rt ?_ | refine rf ?_ | refine rs ?_ | refine And.intro ?_ ?_) | omega | simp (maxSteps := 1000000) only [go_sem, simprocAttr, ↓reduceIte])
          refine VcCall.ro (.agg [.int .i64 w, .int .i64 h, .ro (.bools q)]) (FnFr.of_ok k1 rfl rfl) (by simp only [noIdR_ok, argOkL, argOk, allOk, argOkN, List.drop_zero, lk, reduceIte, reduceCtorEq, Nat.reduceEqDiff, Option.some.injEq, Item.row.injEq, Item.box.injEq, AV.ro.injEq, exists_eq_left, exists_and_left, exists_eq_left', exists_eq_right, and_assoc, and_true, true_and, List.cons.injEq, exists_eq', exists_eq]) (by simp [outOk, argOk, allOk, argOkN, lk]) rfl ?_
          (repeat' first | with_reducible (first | intro _ | refine rc ?_ | refine rl ?_ | refine rh ?_ | refine rt ?_ | refine rf ?_ | refine rs ?_ | refine And.intro ?_ ?_) | omega | simp (maxSteps := 1000000) only [go_sem, simprocAttr, ↓reduceIte])
          refine VcCall.ro (.tup [.ro (bks []), .int .i64 3]) (FnFr.of_ok kL rfl (by simp [noRoRows, noRoItem, noRoRow, noRoL, noRo])) (by simp only [noIdR_ok, argOkL, argOk, allOk, argOkN, List.drop_zero, lk, reduceIte, reduceCtorEq, Nat.reduceEqDiff, Option.some.injEq, Item.row.injEq, Item.box.injEq, AV.ro.injEq, exists_eq_left, exists_and_left, exists_eq_left', exists_eq_right, and_assoc, and_true, true_and, List.cons.injEq, exists_eq', exists_eq]) (by simp [outOk, argOkL, allOk, argOk, argOkN, lk, noIdR_ok]) rfl ?_
          (repeat' first | with_reducible (first | intro _ | refine rc ?_ | refine rl ?_ | refine rh ?_ | refine rt ?_ | refine rf ?_ | refine rs ?_ | refine And.intro ?_ ?_) | omega | simp (maxSteps := 1000000) only [go_sem, simprocAttr, ↓reduceIte])
          refine VcCall.k (ki0) ?_
          (repeat' first | with_reducible (first | intro _ | refine rc ?_ | refine rl ?_ | refine rh ?_ | refine rt ?_ | refine rf ?_ | refine rs ?_ | refine And.intro ?_ ?_) | omega | simp (maxSteps := 1000000) only [go_sem, simprocAttr, ↓reduceIte])
          refine VcCall.k (ki1) ?_
          (repeat' first | with_reducible (first | intro _ | refine rc ?_ | refine rl ?_ | refine rh ?_ | refine rt ?_ | refine rf ?_ | refine rs ?_ | refine And.intro ?_ ?_) | omega | simp (maxSteps := 1000000) only [go_sem, simprocAttr, ↓reduceIte])
          refine VcCall.k (ki2) ?_
          (repeat' first | with_reducible (first | intro _ | refine rc ?_ | refine rl ?_ | refine rh ?_ | refine rt ?_ | refine rf ?_ | refine rs ?_ | refine And.intro ?_ ?_) | omega | simp (maxSteps := 1000000) only [go_sem, simprocAttr, ↓reduceIte])
          refine VcCall.k (kf) ?_
          (repeat' first | with_reducible (first | intro _ | refine rc ?_ | refine rl ?_ | refine rh ?_ | refine rt ?_ | refine rf ?_ | refine rs ?_ | refine And.intro ?_ ?_) | omega | simp (maxSteps := 1000000) only [go_sem, simprocAttr, ↓reduceIte, List.map_nil, List.length_nil])
          refine Ret.auto 0 ?_ rfl ?_ <;> simp only [go_sem, reduceCtorEq, reduceIte, Nat.reduceEqDiff, Nat.reduceLT, Nat.reduceLeDiff, Int.natCast_succ, Post]
      · have kf := inB_ok gy 1 4000 false (decide_eq_false a2).symm
        refine FnOk.of_vc Tryz.func4 rfl (by decide) (by simp [Tryz.f4]) [.tmp 4] rfl fun w0 T0 _ => ?_
        simp only [Tryz.f4, argEnv]
        (repeat' first | with_reducible (first | intro _ | refine rc ?_ | refine rl ?_ | refine rh ?_ | refine rt ?_ | refine rf ?_ | refine rs ?_ | refine And.intro ?_ ?_) | omega | simp (maxSteps := 1000000) only [go_sem, simprocAttr, ↓reduceIte])
        refine VcCall.k (landed_ok) ?_
        (repeat' first | with_reducible (first | intro _ | refine rc ?_ | refine rl ?_ | refine rh ?_ | refine rt ?_ | refine rf ?_ | refine rs ?_ | refine And.intro ?_ ?_) | omega | simp (maxSteps := 1000000) only [go_sem, simprocAttr, ↓reduceIte])
        refine VcCall.ro (.agg [.int .i64 w, .int .i64 h, .ro (.bools q)]) (FnFr.of_ok k1 rfl rfl) (by simp only [noIdR_ok, argOkL, argOk, allOk, argOkN, List.drop_zero, lk, reduceIte, reduceCtorEq, Nat.reduceEqDiff, Option.some.injEq, Item.row.injEq, Item.box.injEq, AV.ro.injEq, exists_eq_left, exists_and_left, exists_eq_left', exists_eq_right, and_assoc, and_true, true_and, List.cons.injEq, exists_eq', exists_eq]) (by simp [outOk, argOk, allOk, argOkN, lk]) rfl ?_
        (repeat' first | with_reducible (first | intro _ | refine rc ?_ | refine rl ?_ | refine rh ?_ | refine rt ?_ | refine rf ?_ | refine rs ?_ | refine And.intro ?_ ?_) | omega | simp (maxSteps := 1000000) only [go_sem, simprocAttr, ↓reduceIte])
        refine VcCall.ro (.tup [.ro (bks []), .int .i64 3]) (FnFr.of_ok kL rfl (by simp [noRoRows, noRoItem, noRoRow, noRoL, noRo])) (by simp only [noIdR_ok, argOkL, argOk, allOk, argOkN, List.drop_zero, lk, reduceIte, reduceCtorEq, Nat.reduceEqDiff, Option.some.injEq, Item.row.injEq, Item.box.injEq, AV.ro.injEq, exists_eq_left, exists_and_left, exists_eq_left', exists_eq_right, and_assoc, and_true, true_and, List.cons.injEq, exists_eq', exists_eq]) (by simp [outOk, argOkL, allOk, argOk, argOkN, lk, noIdR_ok]) rfl ?_
        (repeat' first | with_reducible (first | intro _ | refine rc ?_ | refine rl ?_ | refine rh ?_ | refine rt ?_ | refine rf ?_ | refine rs ?_ | refine And.intro ?_ ?_) | omega | simp (maxSteps := 1000000) only [go_sem, simprocAttr, ↓reduceIte])
        refine VcCall.k (ki0) ?_
        (repeat' first | with_reducible (first | intro _ | refine rc ?_ | refine rl ?_ | refine rh ?_ | refine rt ?_ | refine rf ?_ | refine rs ?_ | refine And.intro ?_ ?_) | omega | simp (maxSteps := 1000000) only [go_sem, simprocAttr, ↓reduceIte])
        refine VcCall.k (ki1) ?_
        (repeat' first | with_reducible (first | intro _ | refine rc ?_ | refine rl ?_ | refine rh ?_ | refine rt ?_ | refine rf ?_ | refine rs ?_ | refine And.intro ?_ ?_) | omega | simp (maxSteps := 1000000) only [go_sem, simprocAttr, ↓reduceIte])
        refine VcCall.k (kf) ?_
        (repeat' first | with_reducible (first | intro _ | refine rc ?_ | refine rl ?_ | refine rh ?_ | refine rt ?_ | refine rf ?_ | refine rs ?_ | refine And.intro ?_ ?_) | omega | simp (maxSteps := 1000000) only [go_sem, simprocAttr, ↓reduceIte, List.map_nil, List.length_nil])
        refine Ret.auto 0 ?_ rfl ?_ <;> simp only [go_sem, reduceCtorEq, reduceIte, Nat.reduceEqDiff, Nat.reduceLT, Nat.reduceLeDiff, Int.natCast_succ, Post]
    · have kf := inB_ok gx 1 4000 false (decide_eq_false a1).symm
      refine FnOk.of_vc Tryz.func4 rfl (by decide) (by simp [Tryz.f4]) [.tmp 4] rfl fun w0 T0 _ => ?_
      simp only [Tryz.f4, argEnv]
      (repeat' first | with_reducible (first | intro _ | refine rc ?_ | refine rl ?_ | refine rh ?_ | refine rt ?_ | refine rf ?_ | refine rs ?_ | refine And.intro ?_ ?_) | omega | simp (maxSteps := 1000000) only [go_sem, simprocAttr, ↓reduceIte])
      refine VcCall.k (landed_ok) ?_
      (repeat' first | with_reducible (first | intro _ | refine rc ?_ | refine rl ?_ | refine rh ?_ | refine rt ?_ | refine rf ?_ | refine rs ?_ | refine And.intro ?_ ?_) | omega | simp (maxSteps := 1000000) only [go_sem, simprocAttr, ↓reduceIte])
      refine VcCall.ro (.agg [.int .i64 w, .int .i64 h, .ro (.bools q)]) (FnFr.of_ok k1 rfl rfl) (by simp only [noIdR_ok, argOkL, argOk, allOk, argOkN, List.drop_zero, lk, reduceIte, reduceCtorEq, Nat.reduceEqDiff, Option.some.injEq, Item.row.injEq, Item.box.injEq, AV.ro.injEq, exists_eq_left, exists_and_left, exists_eq_left', exists_eq_right, and_assoc, and_true, true_and, List.cons.injEq, exists_eq', exists_eq]) (by simp [outOk, argOk, allOk, argOkN, lk]) rfl ?_
      (repeat' first | with_reducible (first | intro _ | refine rc ?_ | refine rl ?_ | refine rh ?_ | refine rt ?_ | refine rf ?_ | refine rs ?_ | refine And.intro ?_ ?_) | omega | simp (maxSteps := 1000000) only [go_sem, simprocAttr, ↓reduceIte])
      refine VcCall.ro (.tup [.ro (bks []), .int .i64 3]) (FnFr.of_ok kL rfl (by simp [noRoRows, noRoItem, noRoRow, noRoL, noRo])) (by simp only [noIdR_ok, argOkL, argOk, allOk, argOkN, List.drop_zero, lk, reduceIte, reduceCtorEq, Nat.reduceEqDiff, Option.some.injEq, Item.row.injEq, Item.box.injEq, AV.ro.injEq, exists_eq_left, exists_and_left, exists_eq_left', exists_eq_right, and_assoc, and_true, true_and, List.cons.injEq, exists_eq', exists_eq]) (by simp [outOk, argOkL, allOk, argOk, argOkN, lk, noIdR_ok]) rfl ?_
      (repeat' first | with_reducible (first | intro _ | refine rc ?_ | refine rl ?_ | refine rh ?_ | refine rt ?_ | refine rf ?_ | refine rs ?_ | refine And.intro ?_ ?_) | omega | simp (maxSteps := 1000000) only [go_sem, simprocAttr, ↓reduceIte])
      refine VcCall.k (ki0) ?_
      (repeat' first | with_reducible (first | intro _ | refine rc ?_ | refine rl ?_ | refine rh ?_ | refine rt ?_ | refine rf ?_ | refine rs ?_ | refine And.intro ?_ ?_) | omega | simp (maxSteps := 1000000) only [go_sem, simprocAttr, ↓reduceIte])
      refine VcCall.k (kf) ?_
      (repeat' first | with_reducible (first | intro _ | refine rc ?_ | refine rl ?_ | refine rh ?_ | refine rt ?_ | refine rf ?_ | refine rs ?_ | refine And.intro ?_ ?_) | omega | simp (maxSteps := 1000000) only [go_sem, simprocAttr, ↓reduceIte, List.map_nil, List.length_nil])
      refine Ret.auto 0 ?_ rfl ?_ <;> simp only [go_sem, reduceCtorEq, reduceIte, Nat.reduceEqDiff, Nat.reduceLT, Nat.reduceLeDiff, Int.natCast_succ, Post]
  · have kf := inB_ok least 1 1048576 false (decide_eq_false a0).symm
    refine FnOk.of_vc Tryz.func4 rfl (by decide) (by simp [Tryz.f4]) [.tmp 4] rfl fun w0 T0 _ => ?_
    simp only [Tryz.f4, argEnv]
    (repeat' first | with_reducible (first | intro _ | refine rc ?_ | refine rl ?_ | refine rh ?_ | refine rt ?_ | refine rf ?_ | refine rs ?_ | refine And.intro ?_ ?_) | omega | simp (maxSteps := 1000000) only [go_sem, simprocAttr, ↓reduceIte])
    refine VcCall.k (landed_ok) ?_
    (repeat' first | with_reducible (first | intro _ | refine rc ?_ | refine rl ?_ | refine rh ?_ | refine rt ?_ | refine rf ?_ | refine rs ?_ | refine And.intro ?_ ?_) | omega | simp (maxSteps := 1000000) only [go_sem, simprocAttr, ↓reduceIte])
    refine VcCall.ro (.agg [.int .i64 w, .int .i64 h, .ro (.bools q)]) (FnFr.of_ok k1 rfl rfl) (by simp only [noIdR_ok, argOkL, argOk, allOk, argOkN, List.drop_zero, lk, reduceIte, reduceCtorEq, Nat.reduceEqDiff, Option.some.injEq, Item.row.injEq, Item.box.injEq, AV.ro.injEq, exists_eq_left, exists_and_left, exists_eq_left', exists_eq_right, and_assoc, and_true, true_and, List.cons.injEq, exists_eq', exists_eq]) (by simp [outOk, argOk, allOk, argOkN, lk]) rfl ?_
    (repeat' first | with_reducible (first | intro _ | refine rc ?_ | refine rl ?_ | refine rh ?_ | refine rt ?_ | refine rf ?_ | refine rs ?_ | refine And.intro ?_ ?_) | omega | simp (maxSteps := 1000000) only [go_sem, simprocAttr, ↓reduceIte])
    refine VcCall.ro (.tup [.ro (bks []), .int .i64 3]) (FnFr.of_ok kL rfl (by simp [noRoRows, noRoItem, noRoRow, noRoL, noRo])) (by simp only [noIdR_ok, argOkL, argOk, allOk, argOkN, List.drop_zero, lk, reduceIte, reduceCtorEq, Nat.reduceEqDiff, Option.some.injEq, Item.row.injEq, Item.box.injEq, AV.ro.injEq, exists_eq_left, exists_and_left, exists_eq_left', exists_eq_right, and_assoc, and_true, true_and, List.cons.injEq, exists_eq', exists_eq]) (by simp [outOk, argOkL, allOk, argOk, argOkN, lk, noIdR_ok]) rfl ?_
    (repeat' first | with_reducible (first | intro _ | refine rc ?_ | refine rl ?_ | refine rh ?_ | refine rt ?_ | refine rf ?_ | refine rs ?_ | refine And.intro ?_ ?_) | omega | simp (maxSteps := 1000000) only [go_sem, simprocAttr, ↓reduceIte])
    refine VcCall.k (kf) ?_
    (repeat' first | with_reducible (first | intro _ | refine rc ?_ | refine rl ?_ | refine rh ?_ | refine rt ?_ | refine rf ?_ | refine rs ?_ | refine And.intro ?_ ?_) | omega | simp (maxSteps := 1000000) only [go_sem, simprocAttr, ↓reduceIte, List.map_nil, List.length_nil])
    refine Ret.auto 0 ?_ rfl ?_ <;> simp only [go_sem, reduceCtorEq, reduceIte, Nat.reduceEqDiff, Nat.reduceLT, Nat.reduceLeDiff, Int.natCast_succ, Post]
theorem layoutsMatch_ok (W H : Int) (p : List Bool) (least gx gy line word : Int) : FnOk Tryz.prog 4 [.agg [.int .i64 W, .int .i64 H, .ro (.bools p)], .agg [.int .i64 least, .int .i64 gx, .int .i64 gy, .int .i64 line, .int .i64 word]] (.bool true) [] := by
  obtain ⟨w1, w2, _⟩ := fitN_bd W 31 (by decide)
  obtain ⟨h1, h2, _⟩ := fitN_bd H 31 (by decide)
  have k1 := fit_ok W H p
  have hl := rowsOf_len (fitN W 31) (fitB p (fitN W 31)) (fitN H 31 * fitN W 31)
  generalize rowsOf (fitN W 31) (fitB p (fitN W 31)) (fitN H 31 * fitN W 31) = q at *
  generalize fitN W 31 = w at *
  generalize fitN H 31 = h at *
  rw [Nat.mul_comm] at hl
  by_cases hw : WaysIn least gx gy line word
  · have hw' := hw
    unfold WaysIn at hw'
    obtain ⟨a, rfl⟩ := Int.eq_ofNat_of_zero_le (show 0 ≤ least by omega)
    obtain ⟨b, rfl⟩ := Int.eq_ofNat_of_zero_le (show 0 ≤ gx by omega)
    obtain ⟨c, rfl⟩ := Int.eq_ofNat_of_zero_le (show 0 ≤ gy by omega)
    obtain ⟨d, rfl⟩ := Int.eq_ofNat_of_zero_le (show 0 ≤ line by omega)
    obtain ⟨e, rfl⟩ := Int.eq_ofNat_of_zero_le (show 0 ≤ word by omega)
    exact layGood W H p w h q k1 w1 (by omega) h1 (by omega) hl a b c d e hw
  · exact layBad W H p w h q k1 w1 (by omega) h1 (by omega) hl least gx gy line word hw
end Go.Fv.Q
