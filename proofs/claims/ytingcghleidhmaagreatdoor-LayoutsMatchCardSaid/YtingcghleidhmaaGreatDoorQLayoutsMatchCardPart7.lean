/-
  A part of the proof of the claim: walks over the program's functions and the plain laws that these need. No condition of its own.
-/
import Derived.Test.YtingcghleidhmaaGreatDoorQLayoutsMatchCardPart5
import Derived.Test.YtingcghleidhmaaGreatDoorQLayoutsMatchCardPart6
import Derived.Test.YtingcghleidhmaaGreatDoorQLayoutsMatchCardPart2
import Derived.Test.YtingcghleidhmaaGreatDoorFvPart10
/- Pieces and the reference's: the walk. -/
namespace Go.Fv.Q
open Go Go.Proofs
set_option linter.unusedSimpArgs false
set_option linter.unusedVariables false
set_option linter.unnecessarySimpa false
set_option maxRecDepth 8000

theorem px_bd {w h : Nat} (hw : w ≤ 4000) (hh : h ≤ 4000) {l : List Int} (hb : InPg w h l) : ∀ b, b ∈ l.map (pxB w) → BxB b := by
  intro b hm
  obtain ⟨i, hi, rfl⟩ := List.mem_map.1 hm
  have := xy_bd' (hb i hi).1 (hb i hi).2
  unfold BxB pxB
  dsimp only
  omega
set_option maxHeartbeats 4000000 in
theorem refBoxOf_ok (w h : Nat) (hw : w ≤ 4000) (hh : h ≤ 4000) (p : List Bool) (l : List Int) (hb : InPg w h l) (h0 : 0 < l.length) (hl : l.length ≤ 1000000) :
    FnOk Tryz.prog 75 [.agg [.int .i64 w, .int .i64 h, .ro (.bools p)], .ro (.ints .i64 l)] (.agg (hullL (l.map (pxB w))).av) [] := by
  have kh := refHull_ok (l.map (pxB w)) (by rw [List.length_map]; exact h0) (px_bd hw hh hb)
  generalize hullL (l.map (pxB w)) = A at *
  refine FnOk.of_vc Tryz.func75 rfl (by decide) (by simp [Tryz.f75]) [.cell 4 26] rfl fun w0 T0 _ => ?_
  simp only [Tryz.f75, argEnv]
  (repeat' first | with_reducible (first | intro _ | refine rc ?_ | refine rl ?_ | refine rh ?_ | refine rt ?_ | refine rf ?_ | refine rs ?_ | refine And.intro ?_ ?_) | omega | simp (maxSteps := 1000000) only [go_sem, simprocAttr, ↓reduceIte])
  refine VcLoop.intro (fun k : Nat => ⟨29, [(10, .int .i64 k), (9, .int .i64 l.length), (8, .ro (.ints .i64 l)), (5, .own 2), (4, .ptr 1 0), (2, .ptr 0 0)], [(0, .box 24 [.int .i64 w, .int .i64 h, .ro (.bools p)]), (1, .box 26 [.int .i64 0, .int .i64 0, .int .i64 0, .int .i64 0]), (2, .row 26 (bxs ((l.take k).map (pxB w))))], 3⟩) (fun k => k ≤ l.length) (fun k => l.length - k) 0 ?_ (Nat.zero_le _) fun k hk => ?_
  · refine Ent.auto0 rfl ?_ ?_ <;> simp only [go_sem, reduceCtorEq, reduceIte, Nat.reduceEqDiff, Nat.reduceLT, Nat.reduceLeDiff, Int.natCast_succ, List.take_zero, List.map_nil]
  by_cases hlt : k < l.length
  · obtain ⟨b1, b2⟩ := hb _ (getD_mem hlt)
    have hts := take_snoc hlt
    have hx : (l.getD k 0).tmod w = l.getD k 0 % w := Int.tmod_eq_emod_of_nonneg b1
    have hy : (l.getD k 0).tdiv w = l.getD k 0 / w := Int.tdiv_eq_ediv_of_nonneg b1
    have hxy := xy_bd' b1 b2
    have hlen : ((l.take k).map (pxB w)).length = k := by rw [List.length_map, List.length_take]; omega
    (repeat' first | with_reducible (first | intro _ | refine rc ?_ | refine rl ?_ | refine rh ?_ | refine rt ?_ | refine rf ?_ | refine rs ?_ | refine And.intro ?_ ?_) | omega | simp (maxSteps := 1000000) only [go_sem, simprocAttr, ↓reduceIte, Int.toNat_natCast])
    refine VcDraw.lex [10, 11] [(0, [1])] (by kernel_rfl) (by kernel_rfl) ?_
    (repeat' first | with_reducible (first | intro _ | refine rc ?_ | refine rl ?_ | refine rh ?_ | refine rt ?_ | refine rf ?_ | refine rs ?_ | refine And.intro ?_ ?_) | omega | simp (maxSteps := 1000000) only [go_sem, simprocAttr, ↓reduceIte, hx, hy, hlen, List.length_map])
    refine ⟨k + 1, Ent.auto0 rfl ?_ ?_, by omega, by omega⟩ <;> simp only [go_sem, reduceCtorEq, reduceIte, Nat.reduceEqDiff, Nat.reduceLT, Nat.reduceLeDiff, Int.natCast_succ, hts, List.map_append, pxB, Bx.av]
  · have e : k = l.length := by omega
    subst e
    rw [List.take_length]
    (repeat' first | with_reducible (first | intro _ | refine rc ?_ | refine rl ?_ | refine rh ?_ | refine rt ?_ | refine rf ?_ | refine rs ?_ | refine And.intro ?_ ?_) | omega | simp (maxSteps := 1000000) only [go_sem, simprocAttr, ↓reduceIte])
    refine VcCall.k (kh) ?_
    unfold Bx.av
    (repeat' first | with_reducible (first | intro _ | refine rc ?_ | refine rl ?_ | refine rh ?_ | refine rt ?_ | refine rf ?_ | refine rs ?_ | refine And.intro ?_ ?_) | omega | simp (maxSteps := 1000000) only [go_sem, simprocAttr, ↓reduceIte])
    refine Ret.auto 0 ?_ rfl ?_ <;> simp only [go_sem, reduceCtorEq, reduceIte, Nat.reduceEqDiff, Nat.reduceLT, Nat.reduceLeDiff, Int.natCast_succ, Post, List.drop_zero]
set_option maxHeartbeats 8000000 in
theorem refPieces_ok (w h : Nat) (hw1 : 1 ≤ w) (hw : w ≤ 1000) (hh1 : 1 ≤ h) (hh : h ≤ 1000) (p : List Bool) (hp : p.length = w * h) :
    FnOk Tryz.prog 44 [.agg [.int .i64 w, .int .i64 h, .ro (.bools p)]] (.own 0) [(0, .row 89 (pcR (((pieces ⟨p, w, h, true, true⟩).map sortI).map (pcOf2 w))))] := by
  have k2 := parts_ok w h hw1 hw hh1 hh p hp true
  have hn : w * h ≤ 1000 * 1000 := Nat.mul_le_mul hw hh
  have hin : ∀ l, l ∈ (pieces ⟨p, w, h, true, true⟩).map sortI → InPg w h l ∧ l.length ≤ w * h ∧ 0 < l.length := fun l hl => by
    obtain ⟨r, hr, rfl⟩ := List.mem_map.1 hl
    obtain ⟨j, hj, ho⟩ := pieces_ok _ r hr
    obtain ⟨t, ht⟩ := ho.hd
    refine ⟨fun i hi => ?_, by rw [sortI_len]; exact ho.le, by rw [sortI_len, ht]; simp⟩
    have := ho.bd i ((sortI_mem r i).1 hi)
    dsimp only at this; omega
  have hRl : ((pieces ⟨p, w, h, true, true⟩).map sortI).length ≤ w * h := by rw [List.length_map]; exact pieces_len _
  generalize (pieces ⟨p, w, h, true, true⟩).map sortI = R at *
  refine FnOk.of_vc Tryz.func44 rfl (by decide) (by simp [Tryz.f44]) [.tmp 2] rfl fun w0 T0 _ => ?_
  simp only [Tryz.f44, argEnv]
  (repeat' first | with_reducible (first | intro _ | refine rc ?_ | refine rl ?_ | refine rh ?_ | refine rt ?_ | refine rf ?_ | refine rs ?_ | refine And.intro ?_ ?_) | omega | simp (maxSteps := 1000000) only [go_sem, simprocAttr, ↓reduceIte])
  refine VcCall.ros (.ro (.objs 1 (R.map gAv))) k2 (by simp only [noIdR_ok, argOkL, argOk, allOk, argOkN, List.drop_zero, lk, reduceIte, reduceCtorEq, Nat.reduceEqDiff, Option.some.injEq, Item.row.injEq, Item.box.injEq, AV.ro.injEq, exists_eq_left, exists_and_left, exists_eq_left', exists_eq_right, and_assoc, and_true, true_and, List.cons.injEq, exists_eq', exists_eq]) (by simp [outOk, argOk, argOkN, lk, noIdR_ok]) rfl ?_
  (repeat' first | with_reducible (first | intro _ | refine rc ?_ | refine rl ?_ | refine rh ?_ | refine rt ?_ | refine rf ?_ | refine rs ?_ | refine And.intro ?_ ?_) | omega | simp (maxSteps := 1000000) only [go_sem, simprocAttr, ↓reduceIte])
  refine VcLoop.intro (fun k : Nat => ⟨37, [(9, .int .i64 k), (8, .int .i64 R.length), (7, .ro (.objs 1 (R.map gAv))), (3, .own 1), (1, .ptr 0 0)], [(0, .box 24 [.int .i64 w, .int .i64 h, .ro (.bools p)]), (1, .row 89 (pcR ((R.take k).map (pcOf2 w))))], 2⟩) (fun k => k ≤ R.length) (fun k => R.length - k) 0 ?_ (Nat.zero_le _) fun k hk => ?_
  · refine Ent.auto0 rfl ?_ ?_ <;> simp only [go_sem, reduceCtorEq, reduceIte, Nat.reduceEqDiff, Nat.reduceLT, Nat.reduceLeDiff, Int.natCast_succ, List.take_zero, List.map_nil]
  by_cases hlt : k < R.length
  · have hel := g_elem R hlt
    have hts : R.take (k + 1) = R.take k ++ [R.getD k []] := by rw [List.take_succ_eq_append_getElem hlt, getD_lt hlt]
    obtain ⟨hb, hll, hl0⟩ := hin (R.getD k []) (by rw [getD_lt hlt]; exact List.getElem_mem hlt)
    have hlen : ((R.take k).map (pcOf2 w)).length = k := by rw [List.length_map, List.length_take]; omega
    generalize R.getD k [] = l at *
    have kb := refBoxOf_ok w h (by omega) (by omega) p l hb hl0 (by omega)
    obtain ⟨b1, b2⟩ := hb _ (getD_mem hl0)
    have hx : (l.getD 0 0).tmod w = l.getD 0 0 % w := Int.tmod_eq_emod_of_nonneg b1
    have hy : (l.getD 0 0).tdiv w = l.getD 0 0 / w := Int.tdiv_eq_ediv_of_nonneg b1
    have hxy := xy_bd' b1 b2
    have hpc : (pcOf2 w l).av = [.int .i64 (hullL (l.map (pxB w))).x, .int .i64 (hullL (l.map (pxB w))).y, .int .i64 (hullL (l.map (pxB w))).w, .int .i64 (hullL (l.map (pxB w))).h, .int .i64 l.length, .int .i64 (l.getD 0 0 % w), .int .i64 (l.getD 0 0 / w)] := rfl
    generalize hullL (l.map (pxB w)) = b at *
    unfold Bx.av at kb
    (repeat' first | with_reducible (first | intro _ | refine rc ?_ | refine rl ?_ | refine rh ?_ | refine rt ?_ | refine rf ?_ | refine rs ?_ | refine And.intro ?_ ?_) | omega | simp (maxSteps := 1000000) only [go_sem, simprocAttr, ↓reduceIte, elemA, hel])
    refine VcDraw.lex [20, 21] [(0, [1])] (by kernel_rfl) (by kernel_rfl) ?_
    (repeat' first | with_reducible (first | intro _ | refine rc ?_ | refine rl ?_ | refine rh ?_ | refine rt ?_ | refine rf ?_ | refine rs ?_ | refine And.intro ?_ ?_) | omega | simp (maxSteps := 1000000) only [go_sem, simprocAttr, ↓reduceIte])
    (refine QV.intro (.agg [.int .i64 b.x, .int .i64 b.y, .int .i64 b.w, .int .i64 b.h]) ?_ ?_; focus ((repeat' first | with_reducible (first | intro _ | refine rc ?_ | refine rl ?_ | refine rh ?_ | refine rt ?_ | refine rf ?_ | refine rs ?_ | refine And.intro ?_ ?_) | omega | simp (maxSteps := 1000000) only [go_sem, simprocAttr, ↓reduceIte]); refine VcCall.k (kb) ?_; (repeat' first | with_reducible (first | intro _ | refine rc ?_ | refine rl ?_ | refine rh ?_ | refine rt ?_ | refine rf ?_ | refine rs ?_ | refine And.intro ?_ ?_) | omega | simp (maxSteps := 1000000) only [go_sem, simprocAttr, ↓reduceIte])))
    (repeat' first | with_reducible (first | intro _ | refine rc ?_ | refine rl ?_ | refine rh ?_ | refine rt ?_ | refine rf ?_ | refine rs ?_ | refine And.intro ?_ ?_) | omega | simp (maxSteps := 1000000) only [go_sem, simprocAttr, ↓reduceIte, Int.toNat_zero, hx, hy, hlen, List.length_map])
    refine ⟨k + 1, Ent.auto0 rfl ?_ ?_, by omega, by omega⟩ <;> simp only [go_sem, reduceCtorEq, reduceIte, Nat.reduceEqDiff, Nat.reduceLT, Nat.reduceLeDiff, Int.natCast_succ, hts, List.map_append, hpc]
  · have e : k = R.length := by omega
    subst e
    rw [List.take_length]
    (repeat' first | with_reducible (first | intro _ | refine rc ?_ | refine rl ?_ | refine rh ?_ | refine rt ?_ | refine rf ?_ | refine rs ?_ | refine And.intro ?_ ?_) | omega | simp (maxSteps := 1000000) only [go_sem, simprocAttr, ↓reduceIte])
    refine Ret.auto 1 ?_ rfl ?_ <;> simp only [go_sem, reduceCtorEq, reduceIte, Nat.reduceEqDiff, Nat.reduceLT, Nat.reduceLeDiff, Int.natCast_succ, Post]
end Go.Fv.Q

/-! The reference's box as small as its ink permits: the walk. -/
namespace Go.Fv.Q
open Go Go.Proofs
set_option linter.unusedSimpArgs false
set_option linter.unusedVariables false
set_option linter.unnecessarySimpa false
set_option maxRecDepth 8000

theorem cutP_len (p : List Bool) (w : Nat) (b : Nb) : (cutP p w b).length = b.w * b.h := by
  unfold cutP; rw [rowsOf_len, Nat.mul_comm]
theorem natL_congr {g g' : Nat → Nat} {n : Nat} (h : ∀ i, i < n → g i = g' i) : natL g n = natL g' n := by
  unfold natL
  exact List.map_congr_left fun i hi => by rw [h i (List.mem_range.1 hi)]
theorem colsC_ok (p : List Bool) (w : Nat) (b : Nb) (hw : b.w ≤ 4000) (hh : b.h ≤ 4000) :
    FnOk Tryz.prog 37 [.agg [.int .i64 b.w, .int .i64 b.h, .ro (.bools (cutP p w b))]] (.own 0) [(0, .row 3 (.ints .i64 (natL (fun i => colN p w b (b.x + i)) b.w)))] := by
  have k := columnsOf_ok b.w b.h hw hh (cutP p w b) (cutP_len p w b)
  unfold cutP at k
  rw [natL_congr (g' := fun i => colN p w b (b.x + i)) fun i hi => cut_col p w b hi] at k
  exact k
theorem rowsC_ok (p : List Bool) (w : Nat) (b : Nb) (hw : b.w ≤ 4000) (hh : b.h ≤ 4000) :
    FnOk Tryz.prog 34 [.agg [.int .i64 b.w, .int .i64 b.h, .ro (.bools (cutP p w b))]] (.own 0) [(0, .row 3 (.ints .i64 (natL (fun i => rowN p w b (b.y + i)) b.h)))] := by
  have k := rowsOfP_ok b.w b.h hw hh (cutP p w b) (cutP_len p w b)
  unfold cutP at k
  rw [natL_congr (g' := fun i => rowN p w b (b.y + i)) fun i hi => cut_row p w b hi] at k
  exact k
theorem ink_no {p : List Bool} {w : Nat} {b : Nb} (h : inkB p w b = 0) : ∀ i, i < b.w → colN p w b (b.x + i) = 0 := by
  intro i hi
  have : colN p w b (b.x + i) ≤ inkB p w b := inkN_mono p w (by omega) (by omega) (Nat.le_refl _) (Nat.le_refl _)
  omega
set_option maxHeartbeats 4000000 in
theorem boundsNo_ok (p : List Bool) (w : Nat) (b : Nb) (hw : b.w ≤ 4000) (hh : b.h ≤ 4000) (hi : inkB p w b = 0) :
    FnOk Tryz.prog 68 [.agg [.int .i64 b.w, .int .i64 b.h, .ro (.bools (cutP p w b))]] (.tup [.agg [.int .i64 0, .int .i64 0, .int .i64 0, .int .i64 0], .bool false]) [] := by
  have k1 := colsC_ok p w b hw hh
  have k2 := endsNo_ok (fun i => colN p w b (b.x + i)) b.w (ink_no hi)
  generalize natL (fun i => colN p w b (b.x + i)) b.w = L at *
  generalize cutP p w b = q at *
  refine FnOk.of_vc Tryz.func68 rfl (by decide) (by simp [Tryz.f68]) [.cell 2 26, .tmp 3] rfl fun w0 T0 _ => ?_
  simp only [Tryz.f68, argEnv]
  (repeat' first | with_reducible (first | intro _ | refine rc ?_ | refine rl ?_ | refine rh ?_ | refine rt ?_ | refine rf ?_ | refine rs ?_ | refine And.intro ?_ ?_) | omega | simp (maxSteps := 1000000) only [go_sem, simprocAttr, ↓reduceIte])
  refine VcCall.ro (.ro (.ints .i64 L)) (FnFr.of_ok k1 rfl rfl) (by simp only [noIdR_ok, argOkL, argOk, allOk, argOkN, List.drop_zero, lk, reduceIte, reduceCtorEq, Nat.reduceEqDiff, Option.some.injEq, Item.row.injEq, Item.box.injEq, AV.ro.injEq, exists_eq_left, exists_and_left, exists_eq_left', exists_eq_right, and_assoc, and_true, true_and, List.cons.injEq, exists_eq', exists_eq]) (by simp [outOk, argOkL, allOk, argOk, argOkN, lk, noIdR_ok]) rfl ?_
  (repeat' first | with_reducible (first | intro _ | refine rc ?_ | refine rl ?_ | refine rh ?_ | refine rt ?_ | refine rf ?_ | refine rs ?_ | refine And.intro ?_ ?_) | omega | simp (maxSteps := 1000000) only [go_sem, simprocAttr, ↓reduceIte])
  refine VcCall.k (k2) ?_
  (repeat' first | with_reducible (first | intro _ | refine rc ?_ | refine rl ?_ | refine rh ?_ | refine rt ?_ | refine rf ?_ | refine rs ?_ | refine And.intro ?_ ?_) | omega | simp (maxSteps := 1000000) only [go_sem, simprocAttr, ↓reduceIte])
  refine Ret.auto 0 ?_ rfl ?_ <;> simp only [go_sem, reduceCtorEq, reduceIte, Nat.reduceEqDiff, Nat.reduceLT, Nat.reduceLeDiff, Int.natCast_succ, Post]
set_option maxHeartbeats 4000000 in
theorem bounds_ok (p : List Bool) (w : Nat) (b : Nb) (hw : b.w ≤ 4000) (hh : b.h ≤ 4000) {f l f' l' : Nat} (hc : EndsAt (fun i => colN p w b (b.x + i)) b.w f l) (hr : EndsAt (fun i => rowN p w b (b.y + i)) b.h f' l') :
    FnOk Tryz.prog 68 [.agg [.int .i64 b.w, .int .i64 b.h, .ro (.bools (cutP p w b))]] (.tup [.agg [.int .i64 f, .int .i64 f', .int .i64 (l - f + 1 : Nat), .int .i64 (l' - f' + 1 : Nat)], .bool true]) [] := by
  have k1 := colsC_ok p w b hw hh
  have k2 := ends_ok _ b.w f l hc hw
  have k3 := rowsC_ok p w b hw hh
  have k4 := ends_ok _ b.h f' l' hr hh
  have a1 := hc.fl
  have a2 := hc.ln
  have a3 := hr.fl
  have a4 := hr.ln
  generalize natL (fun i => colN p w b (b.x + i)) b.w = L at *
  generalize natL (fun i => rowN p w b (b.y + i)) b.h = L2 at *
  generalize cutP p w b = q at *
  refine FnOk.of_vc Tryz.func68 rfl (by decide) (by simp [Tryz.f68]) [.cell 2 26, .tmp 3] rfl fun w0 T0 _ => ?_
  simp only [Tryz.f68, argEnv]
  (repeat' first | with_reducible (first | intro _ | refine rc ?_ | refine rl ?_ | refine rh ?_ | refine rt ?_ | refine rf ?_ | refine rs ?_ | refine And.intro ?_ ?_) | omega | simp (maxSteps := 1000000) only [go_sem, simprocAttr, ↓reduceIte])
  refine VcCall.ro (.ro (.ints .i64 L)) (FnFr.of_ok k1 rfl rfl) (by simp only [noIdR_ok, argOkL, argOk, allOk, argOkN, List.drop_zero, lk, reduceIte, reduceCtorEq, Nat.reduceEqDiff, Option.some.injEq, Item.row.injEq, Item.box.injEq, AV.ro.injEq, exists_eq_left, exists_and_left, exists_eq_left', exists_eq_right, and_assoc, and_true, true_and, List.cons.injEq, exists_eq', exists_eq]) (by simp [outOk, argOkL, allOk, argOk, argOkN, lk, noIdR_ok]) rfl ?_
  (repeat' first | with_reducible (first | intro _ | refine rc ?_ | refine rl ?_ | refine rh ?_ | refine rt ?_ | refine rf ?_ | refine rs ?_ | refine And.intro ?_ ?_) | omega | simp (maxSteps := 1000000) only [go_sem, simprocAttr, ↓reduceIte])
  refine VcCall.k (k2) ?_
  (repeat' first | with_reducible (first | intro _ | refine rc ?_ | refine rl ?_ | refine rh ?_ | refine rt ?_ | refine rf ?_ | refine rs ?_ | refine And.intro ?_ ?_) | omega | simp (maxSteps := 1000000) only [go_sem, simprocAttr, ↓reduceIte])
  refine VcCall.ro (.ro (.ints .i64 L2)) (FnFr.of_ok k3 rfl rfl) (by simp only [noIdR_ok, argOkL, argOk, allOk, argOkN, List.drop_zero, lk, reduceIte, reduceCtorEq, Nat.reduceEqDiff, Option.some.injEq, Item.row.injEq, Item.box.injEq, AV.ro.injEq, exists_eq_left, exists_and_left, exists_eq_left', exists_eq_right, and_assoc, and_true, true_and, List.cons.injEq, exists_eq', exists_eq]) (by simp [outOk, argOkL, allOk, argOk, argOkN, lk, noIdR_ok]) rfl ?_
  (repeat' first | with_reducible (first | intro _ | refine rc ?_ | refine rl ?_ | refine rh ?_ | refine rt ?_ | refine rf ?_ | refine rs ?_ | refine And.intro ?_ ?_) | omega | simp (maxSteps := 1000000) only [go_sem, simprocAttr, ↓reduceIte])
  refine VcCall.k (k4) ?_
  (repeat' first | with_reducible (first | intro _ | refine rc ?_ | refine rl ?_ | refine rh ?_ | refine rt ?_ | refine rf ?_ | refine rs ?_ | refine And.intro ?_ ?_) | omega | simp (maxSteps := 1000000) only [go_sem, simprocAttr, ↓reduceIte])
  refine Ret.auto 0 ?_ rfl ?_ <;> simp only [go_sem, reduceCtorEq, reduceIte, Nat.reduceEqDiff, Nat.reduceLT, Nat.reduceLeDiff, Int.natCast_succ, Post]
  all_goals first | omega | skip
set_option maxHeartbeats 4000000 in
theorem rtightNo_ok (w h : Nat) (hw : w ≤ 4000) (hh : h ≤ 4000) (p : List Bool) (hp : p.length = w * h) (b : Nb) (hX : b.x + b.w ≤ w) (hY : b.y + b.h ≤ h) (hi : inkB p w b = 0) :
    FnOk Tryz.prog 36 [.agg [.int .i64 w, .int .i64 h, .ro (.bools p)], .agg b.av] (.tup [.agg [.int .i64 b.x, .int .i64 b.y, .int .i64 0, .int .i64 0], .bool false]) [] := by
  have k1 := refCut_ok w h hw hh p hp b hX hY
  have k2 := boundsNo_ok p w b (by omega) (by omega) hi
  generalize cutP p w b = q at *
  obtain ⟨x, y, W, H⟩ := b
  unfold Nb.av at *
  dsimp only at *
  refine FnOk.of_vc Tryz.func36 rfl (by decide) (by simp [Tryz.f36]) [.cell 4 26, .tmp 5] rfl fun w0 T0 _ => ?_
  simp only [Tryz.f36, argEnv]
  (repeat' first | with_reducible (first | intro _ | refine rc ?_ | refine rl ?_ | refine rh ?_ | refine rt ?_ | refine rf ?_ | refine rs ?_ | refine And.intro ?_ ?_) | omega | simp (maxSteps := 1000000) only [go_sem, simprocAttr, ↓reduceIte])
  refine VcCall.ro (.agg [.int .i64 W, .int .i64 H, .ro (.bools q)]) (FnFr.of_ok k1 rfl rfl) (by simp only [noIdR_ok, argOkL, argOk, allOk, argOkN, List.drop_zero, lk, reduceIte, reduceCtorEq, Nat.reduceEqDiff, Option.some.injEq, Item.row.injEq, Item.box.injEq, AV.ro.injEq, exists_eq_left, exists_and_left, exists_eq_left', exists_eq_right, and_assoc, and_true, true_and, List.cons.injEq, exists_eq', exists_eq]) (by simp [outOk, argOkL, allOk, argOk, argOkN, lk, noIdR_ok]) rfl ?_
  (repeat' first | with_reducible (first | intro _ | refine rc ?_ | refine rl ?_ | refine rh ?_ | refine rt ?_ | refine rf ?_ | refine rs ?_ | refine And.intro ?_ ?_) | omega | simp (maxSteps := 1000000) only [go_sem, simprocAttr, ↓reduceIte])
  refine VcCall.k (k2) ?_
  (repeat' first | with_reducible (first | intro _ | refine rc ?_ | refine rl ?_ | refine rh ?_ | refine rt ?_ | refine rf ?_ | refine rs ?_ | refine And.intro ?_ ?_) | omega | simp (maxSteps := 1000000) only [go_sem, simprocAttr, ↓reduceIte])
  refine VcDraw.lex [11, 13] [(7, [1]), (8, [1]), (9, [1])] (by kernel_rfl) (by kernel_rfl) ?_
  (repeat' first | with_reducible (first | intro _ | refine rc ?_ | refine rl ?_ | refine rh ?_ | refine rt ?_ | refine rf ?_ | refine rs ?_ | refine And.intro ?_ ?_) | omega | simp (maxSteps := 1000000) only [go_sem, simprocAttr, ↓reduceIte, Int.zero_add])
  refine Ret.auto 0 ?_ rfl ?_ <;> simp only [go_sem, reduceCtorEq, reduceIte, Nat.reduceEqDiff, Nat.reduceLT, Nat.reduceLeDiff, Int.natCast_succ, Post]
set_option maxHeartbeats 4000000 in
theorem rtight_ok (w h : Nat) (hw : w ≤ 4000) (hh : h ≤ 4000) (p : List Bool) (hp : p.length = w * h) (b : Nb) (hX : b.x + b.w ≤ w) (hY : b.y + b.h ≤ h) (hi : 0 < inkB p w b) :
    FnOk Tryz.prog 36 [.agg [.int .i64 w, .int .i64 h, .ro (.bools p)], .agg b.av] (.tup [.agg (tightB p w b).av, .bool true]) [] := by
  have k1 := refCut_ok w h hw hh p hp b hX hY
  obtain ⟨f, l, hc⟩ := endsAt_ex _ _ (ink_col p w (b := b) (by omega))
  obtain ⟨f', l', hr⟩ := endsAt_ex _ _ (ink_row p w (b := b) (by omega))
  rw [tightB_eq p w hc hr]
  have k2 := bounds_ok p w b (by omega) (by omega) hc hr
  have a1 := hc.fl
  have a2 := hc.ln
  have a3 := hr.fl
  have a4 := hr.ln
  generalize cutP p w b = q at *
  obtain ⟨x, y, W, H⟩ := b
  unfold Nb.av at *
  dsimp only at *
  refine FnOk.of_vc Tryz.func36 rfl (by decide) (by simp [Tryz.f36]) [.cell 4 26, .tmp 5] rfl fun w0 T0 _ => ?_
  simp only [Tryz.f36, argEnv]
  (repeat' first | with_reducible (first | intro _ | refine rc ?_ | refine rl ?_ | refine rh ?_ | refine rt ?_ | refine rf ?_ | refine rs ?_ | refine And.intro ?_ ?_) | omega | simp (maxSteps := 1000000) only [go_sem, simprocAttr, ↓reduceIte])
  refine VcCall.ro (.agg [.int .i64 W, .int .i64 H, .ro (.bools q)]) (FnFr.of_ok k1 rfl rfl) (by simp only [noIdR_ok, argOkL, argOk, allOk, argOkN, List.drop_zero, lk, reduceIte, reduceCtorEq, Nat.reduceEqDiff, Option.some.injEq, Item.row.injEq, Item.box.injEq, AV.ro.injEq, exists_eq_left, exists_and_left, exists_eq_left', exists_eq_right, and_assoc, and_true, true_and, List.cons.injEq, exists_eq', exists_eq]) (by simp [outOk, argOkL, allOk, argOk, argOkN, lk, noIdR_ok]) rfl ?_
  (repeat' first | with_reducible (first | intro _ | refine rc ?_ | refine rl ?_ | refine rh ?_ | refine rt ?_ | refine rf ?_ | refine rs ?_ | refine And.intro ?_ ?_) | omega | simp (maxSteps := 1000000) only [go_sem, simprocAttr, ↓reduceIte])
  refine VcCall.k (k2) ?_
  (repeat' first | with_reducible (first | intro _ | refine rc ?_ | refine rl ?_ | refine rh ?_ | refine rt ?_ | refine rf ?_ | refine rs ?_ | refine And.intro ?_ ?_) | omega | simp (maxSteps := 1000000) only [go_sem, simprocAttr, ↓reduceIte])
  refine VcDraw.lex [11, 13] [(7, [1]), (8, [1]), (9, [1])] (by kernel_rfl) (by kernel_rfl) ?_
  (repeat' first | with_reducible (first | intro _ | refine rc ?_ | refine rl ?_ | refine rh ?_ | refine rt ?_ | refine rf ?_ | refine rs ?_ | refine And.intro ?_ ?_) | omega | simp (maxSteps := 1000000) only [go_sem, simprocAttr, ↓reduceIte])
  refine Ret.auto 0 ?_ rfl ?_ <;> simp only [go_sem, reduceCtorEq, reduceIte, Nat.reduceEqDiff, Nat.reduceLT, Nat.reduceLeDiff, Int.natCast_succ, Post]
  all_goals first | omega | (constructor <;> omega) | skip
end Go.Fv.Q

/-! The row on which most pieces end: the walk. -/
namespace Go.Fv.Q
open Go Go.Proofs
set_option linter.unusedSimpArgs false
set_option linter.unusedVariables false
set_option linter.unnecessarySimpa false
set_option maxRecDepth 8000

theorem ren_cKs (p : Nat → Nat) (l : List Int) : renL p (cKs l) = cKs l := renL_kmap p (fun _ => rfl) _
theorem ren_cVs (p : Nat → Nat) (l : List Int) : renL p (cVs l) = cVs l := renL_kmap p (fun _ => rfl) _
theorem below_cKs (n : Nat) (l : List Int) : belowL n (cKs l) = true := belowL_kmap n (fun _ => rfl) _
theorem below_cVs (n : Nat) (l : List Int) : belowL n (cVs l) = true := belowL_kmap n (fun _ => rfl) _
theorem mk_cKs (l : List Int) (y : List AV) : mkL (cKs l) y = [] := mkL_kmap (fun _ => rfl) _ _
theorem mk_cVs (l : List Int) (y : List AV) : mkL (cVs l) y = [] := mkL_kmap (fun _ => rfl) _ _
theorem keysT_cnt {P : Program} {kt : TypeId} (h : P.underlying kt = some (.int .i64)) (l : List Int) : KeysT P kt (cKs l) := KeysT_map (fun n => KeyT.int h n) _
theorem take_mapG {α β : Type} (f : α → β) (z : α) {l : List α} {k : Nat} (h : k < l.length) : (l.take (k + 1)).map f = (l.take k).map f ++ [f (l.getD k z)] := by
  rw [List.take_succ_eq_append_getElem h, getD_lt h, List.map_append]; rfl
set_option maxHeartbeats 8000000 in
theorem rbase_ok (w h : Nat) (hw : w ≤ 1000) (hh : h ≤ 1000) (p : List Bool) (hp : p.length = w * h) (b : Nb) (hb : InP b w h) (hb1 : 1 ≤ b.w) (hb2 : 1 ≤ b.h) :
    FnOk Tryz.prog 17 [.agg [.int .i64 w, .int .i64 h, .ro (.bools p)], .agg b.av] (.int .i64 (lowOf (bots (cutP p w b) b.w b.h) + b.y)) [] := by
  have k2 := refCut_ok w h (by omega) (by omega) p hp b hb.1 hb.2
  have hql := cutP_len p w b
  have hwd : b.w ≤ 1000 ∧ b.h ≤ 1000 ∧ b.y ≤ 1000 := by unfold InP at hb; omega
  have k3 := refPieces_ok b.w b.h hb1 (by omega) hb2 (by omega) (cutP p w b) hql
  have e3 := pcs_eq ⟨cutP p w b, b.w, b.h, true, true⟩
  dsimp only at e3
  rw [e3] at k3
  have hbo : bots (cutP p w b) b.w b.h = ((pieces ⟨cutP p w b, b.w, b.h, true, true⟩).map (pcOf b.w b.h)).map (fun c => c.b.y + c.b.h - 1) := by
    unfold bots; rw [List.map_map]
    exact List.map_congr_left fun l _ => (box_bot b.w b.h l).symm
  have hbb := bots_bd (cutP p w b) b.w b.h
  have hbl := bots_len (cutP p w b) b.w b.h
  have hbm : b.w * b.h ≤ 1000 * 1000 := Nat.mul_le_mul hwd.1 hwd.2.1
  have hcb : ∀ c, c ∈ (pieces ⟨cutP p w b, b.w, b.h, true, true⟩).map (pcOf b.w b.h) → BxBd c.b := fun c hc => by
    obtain ⟨l, hl, rfl⟩ := List.mem_map.1 hc
    exact boxOf_bd (by omega) (by omega) (piece_pg hl).1
  generalize (pieces ⟨cutP p w b, b.w, b.h, true, true⟩).map (pcOf b.w b.h) = R at *
  generalize bots (cutP p w b) b.w b.h = BL at *
  generalize cutP p w b = q at *
  obtain ⟨bx, by', bw, bh⟩ := b
  dsimp only [Nb.av] at *
  refine FnOk.of_vc Tryz.func17 rfl (by decide) (by simp [Tryz.f17]) [.tmp 4] rfl fun w0 T0 _ => ?_
  simp only [Tryz.f17, argEnv]
  (repeat' first | with_reducible (first | intro _ | refine rc ?_ | refine rl ?_ | refine rh ?_ | refine rt ?_ | refine rf ?_ | refine rs ?_ | refine And.intro ?_ ?_) | omega | simp (maxSteps := 1000000) only [go_sem, simprocAttr, ↓reduceIte])
  refine VcCall.ro (.agg [.int .i64 bw, .int .i64 bh, .ro (.bools q)]) (FnFr.of_ok k2 rfl rfl) (by simp only [noIdR_ok, argOkL, argOk, allOk, argOkN, List.drop_zero, lk, reduceIte, reduceCtorEq, Nat.reduceEqDiff, Option.some.injEq, Item.row.injEq, Item.box.injEq, AV.ro.injEq, exists_eq_left, exists_and_left, exists_eq_left', exists_eq_right, and_assoc, and_true, true_and, List.cons.injEq, exists_eq', exists_eq]) (by simp [outOk, argOkL, allOk, argOk, argOkN, lk, noIdR_ok]) rfl ?_
  (repeat' first | with_reducible (first | intro _ | refine rc ?_ | refine rl ?_ | refine rh ?_ | refine rt ?_ | refine rf ?_ | refine rs ?_ | refine And.intro ?_ ?_) | omega | simp (maxSteps := 1000000) only [go_sem, simprocAttr, ↓reduceIte])
  refine VcCall.ro (.ro (pcR R)) (FnFr.of_ok k3 rfl (by simp [noRoRows, noRoItem, noRoRow, Pc.av, noRoL, noRo])) (by simp only [noIdR_ok, argOkL, argOk, allOk, argOkN, List.drop_zero, lk, reduceIte, reduceCtorEq, Nat.reduceEqDiff, Option.some.injEq, Item.row.injEq, Item.box.injEq, AV.ro.injEq, exists_eq_left, exists_and_left, exists_eq_left', exists_eq_right, and_assoc, and_true, true_and, List.cons.injEq, exists_eq', exists_eq]) (by simp [outOk, argOkL, allOk, argOk, argOkN, lk, noIdR_ok]) rfl ?_
  (repeat' first | with_reducible (first | intro _ | refine rc ?_ | refine rl ?_ | refine rh ?_ | refine rt ?_ | refine rf ?_ | refine rs ?_ | refine And.intro ?_ ?_) | omega | simp (maxSteps := 1000000) only [go_sem, simprocAttr, ↓reduceIte, List.length_map])
  refine VcLoop.intro (fun k : Nat => ⟨66, [(17, .int .i64 k), (16, .int .i64 R.length), (15, .ro (pcR R)), (5, .own 0), (3, .ptr 1 0)], [(0, .map (cKs (BL.take k)) (cVs (BL.take k))), (1, .box 26 [.int .i64 bx, .int .i64 by', .int .i64 bw, .int .i64 bh])], 2⟩) (fun k => k ≤ R.length) (fun k => R.length - k) 0 ?_ (Nat.zero_le _) fun k hk => ?_
  · have e0 : cKs [] = [] ∧ cVs [] = [] := ⟨rfl, rfl⟩
    refine Ent.auto0 rfl ?_ ?_ <;> simp only [go_sem, reduceCtorEq, reduceIte, Nat.reduceEqDiff, Nat.reduceLT, Nat.reduceLeDiff, Int.natCast_succ, List.take_zero, e0.1, e0.2]
  by_cases hlt : k < R.length
  · have he := pc_elem R hlt
    have hts : BL.take (k + 1) = BL.take k ++ [(R.getD k Pc.zero).b.y + (R.getD k Pc.zero).b.h - 1] := by
      rw [hbo, ← List.map_take, ← List.map_take]; exact take_mapG _ Pc.zero hlt
    have hcd := hcb (R.getD k Pc.zero) (by rw [getD_lt hlt]; exact List.getElem_mem hlt)
    have hcb2 := cnt_bd (BL.take k) ((R.getD k Pc.zero).b.y + (R.getD k Pc.zero).b.h - 1)
    have htl : (BL.take k).length ≤ 1000000 := by rw [List.length_take]; omega
    generalize R.getD k Pc.zero = c at *
    unfold BxBd at hcd
    have e1 := getI_cnt (BL.take k) (c.b.y + c.b.h - 1)
    have e2 := updKs_cnt (BL.take k) (c.b.y + c.b.h - 1)
    have e3 := updVs_cnt (BL.take k) (c.b.y + c.b.h - 1)
    have e4 := isI_cnt (BL.take k)
    have e5 : KeysT Tryz.prog 3 (cKs (BL.take k)) := keysT_cnt (by kernel_rfl) _
    (repeat' first | with_reducible (first | intro _ | refine rc ?_ | refine rl ?_ | refine rh ?_ | refine rt ?_ | refine rf ?_ | refine rs ?_ | refine And.intro ?_ ?_) | omega | simp (maxSteps := 1000000) only [go_sem, simprocAttr, ↓reduceIte, List.length_map, elemA, he, e1, e2, e3, e4, e5])
    refine ⟨k + 1, Ent.auto0 rfl ?_ ?_, by omega, by omega⟩ <;> simp only [go_sem, reduceCtorEq, reduceIte, Nat.reduceEqDiff, Nat.reduceLT, Nat.reduceLeDiff, Int.natCast_succ, hts, ren_cKs, ren_cVs, below_cKs, below_cVs, mk_cKs, mk_cVs]
  · have e : k = R.length := by omega
    subst e
    have hbl2 : BL.take R.length = BL := by rw [List.take_of_length_le]; rw [hbo, List.length_map]; exact Nat.le_refl _
    rw [hbl2]
    (repeat' first | with_reducible (first | intro _ | refine rc ?_ | refine rl ?_ | refine rh ?_ | refine rt ?_ | refine rf ?_ | refine rs ?_ | refine And.intro ?_ ?_) | omega | simp (maxSteps := 1000000) only [go_sem, simprocAttr, ↓reduceIte])
    refine VcLoop.intro (fun x : List Nat × Int => ⟨66, [(8, .int .i64 x.2), (34, .ptr 2 0), (5, .own 0), (3, .ptr 1 0)], [(0, .map (cKs BL) (cVs BL)), (1, .box 26 [.int .i64 bx, .int .i64 by', .int .i64 bw, .int .i64 bh]), (2, .iter 0 (cKs BL).length x.1)], 3⟩) (fun x => (LowL BL (seenK BL x.1) x.2 ∧ (-1 ≤ x.2 ∧ x.2 ≤ 1000)) ∧ ∀ j, j ∈ x.1 → j < (uq BL).length) (fun x => left (uq BL).length x.1) ([], -1) ?_ ⟨⟨.inl ⟨rfl, rfl⟩, by decide⟩, fun j hj => absurd hj List.not_mem_nil⟩ fun x hx => ?_
    · refine Ent.auto0 rfl ?_ ?_ <;> simp only [go_sem, reduceCtorEq, reduceIte, Nat.reduceEqDiff, Nat.reduceLT, Nat.reduceLeDiff, Int.natCast_succ, ren_cKs, ren_cVs, below_cKs, below_cVs, mk_cKs, mk_cVs]
    obtain ⟨seen, best⟩ := x
    obtain ⟨⟨hb', hbd⟩, hs⟩ := hx
    dsimp only at hb' hbd hs ⊢
    have e1 := getI_cnt BL
    have e4 := isI_cnt BL
    have e5 : KeysT Tryz.prog 3 (cKs BL) := keysT_cnt (by kernel_rfl) _
    have c1 := fun k => cnt_bd BL k
    (repeat' first | with_reducible (first | intro _ | refine rc ?_ | refine rl ?_ | refine rh ?_ | refine rt ?_ | refine rf ?_ | refine rs ?_ | refine And.intro ?_ ?_) | omega | simp (maxSteps := 1000000) only [go_sem, simprocAttr, ↓reduceIte])
    refine VcNext.intro (fun j kx vx hj hkx hvx => ?_) (fun hall => ?_)
    · obtain ⟨hjl, rfl, hkl⟩ := cKs_at hkx
      obtain rfl := cVs_at hvx
      have hst := hb'.step (k := (uq BL).getD j 0) fun k hk => (hbb k (seenK_mem hs hk)).1
      have hsn := seenK_snoc BL seen j
      have hlt := left_lt hj hjl
      have hs' : ∀ j', j' ∈ seen ++ [j] → j' < (uq BL).length := fun j' hj' => by
        rcases List.mem_append.1 hj' with h' | h'
        · exact hs j' h'
        · simp at h'; subst h'; exact hjl
      have hk0 := hbb _ hkl
      unfold pickLow at hst
      generalize (uq BL).getD j 0 = key at *
      have c2 := c1 key
      have c3 := c1 best
      (repeat' first | with_reducible (first | intro _ | refine rc ?_ | refine rl ?_ | refine rh ?_ | refine rt ?_ | refine rf ?_ | refine rs ?_ | refine And.intro ?_ ?_) | omega | simp (maxSteps := 1000000) only [go_sem, simprocAttr, ↓reduceIte])
      refine VcEnt.intro hkx hvx ?_
      (repeat' first | with_reducible (first | intro _ | refine rc ?_ | refine rl ?_ | refine rh ?_ | refine rt ?_ | refine rf ?_ | refine rs ?_ | refine And.intro ?_ ?_) | omega | simp (maxSteps := 1000000) only [go_sem, simprocAttr, ↓reduceIte, e1, e4, e5])
      · rename_i hc
        rw [if_pos (by omega), ← hsn] at hst
        refine ⟨(seen ++ [j], key), Ent.auto0 rfl ?_ ?_, ⟨⟨hst, by dsimp only; omega⟩, hs'⟩, hlt⟩ <;> simp only [go_sem, reduceCtorEq, reduceIte, Nat.reduceEqDiff, Nat.reduceLT, Nat.reduceLeDiff, Int.natCast_succ, ren_cKs, ren_cVs, below_cKs, below_cVs, mk_cKs, mk_cVs]
      · rename_i hc
        rw [if_neg (by omega), ← hsn] at hst
        refine ⟨(seen ++ [j], best), Ent.auto0 rfl ?_ ?_, ⟨⟨hst, hbd⟩, hs'⟩, hlt⟩ <;> simp only [go_sem, reduceCtorEq, reduceIte, Nat.reduceEqDiff, Nat.reduceLT, Nat.reduceLeDiff, Int.natCast_succ, ren_cKs, ren_cVs, below_cKs, below_cVs, mk_cKs, mk_cVs]
    · have hbe := low_all (fun k hk => (hbb k hk).1) hs (fun j hj => hall j (by rw [cKs_len]; exact hj)) hb'
      rw [← hbe]
      (repeat' first | with_reducible (first | intro _ | refine rc ?_ | refine rl ?_ | refine rh ?_ | refine rt ?_ | refine rf ?_ | refine rs ?_ | refine And.intro ?_ ?_) | omega | simp (maxSteps := 1000000) only [go_sem, simprocAttr, ↓reduceIte])
      refine Ret.auto 0 ?_ rfl ?_ <;> simp only [go_sem, reduceCtorEq, reduceIte, Nat.reduceEqDiff, Nat.reduceLT, Nat.reduceLeDiff, Int.natCast_succ, Post]
set_option maxHeartbeats 8000000 in
theorem base_ok (w h : Nat) (hw1 : 1 ≤ w) (hw : w ≤ 1000) (hh1 : 1 ≤ h) (hh : h ≤ 1000) (p : List Bool) (hp : p.length = w * h) (b : Nb) (hb : InP b w h) (hb1 : 1 ≤ b.w) (hb2 : 1 ≤ b.h) :
    FnOk Tryz.prog 14 [.agg [.int .i64 w, .int .i64 h, .ro (.bools p)], .agg b.av] (.tup [.int .i64 (if inkB p w b = 0 then 0 else lowOf (bots (cutP p w b) b.w b.h) + b.y), .int .i64 (if inkB p w b = 0 then 9 else 0)]) [] := by
  have hwh : w * h ≤ 1000 * 1000 := Nat.mul_le_mul hw hh
  have k2 := cut_ok w h b.x b.y b.w b.h hw1 (by omega) hh1 (by omega) (by omega) p hp hb1 hb2 hb.1 hb.2
  rw [show rowsOf b.w (cutAt p w b.x b.y) (b.h * b.w) = cutP p w b from rfl] at k2
  have hql := cutP_len p w b
  have hnil := bots_nil (cutP p w b) b.w b.h hql
  rw [← ink_whole (cutP p w b) b.w b.h hql, show inkN (cutP p w b) b.w 0 0 b.w b.h = inkB p w b from by
    unfold cutP inkB; rw [ink_cut p w b.x b.y b.w b.h (by omega) (by omega)]; rfl] at hnil
  have hwd : b.w ≤ 1000 ∧ b.h ≤ 1000 ∧ b.y ≤ 1000 := by unfold InP at hb; omega
  have k3 := regions_ok b.w b.h hb1 (by omega) hb2 (by omega) (cutP p w b) hql true true
  have hbb := bots_bd (cutP p w b) b.w b.h
  have hbl := bots_len (cutP p w b) b.w b.h
  have hbm : b.w * b.h ≤ 1000 * 1000 := Nat.mul_le_mul hwd.1 hwd.2.1
  have hpg : ∀ l, l ∈ pieces ⟨cutP p w b, b.w, b.h, true, true⟩ → InPg b.w b.h l ∧ l ≠ [] := fun l hl => piece_pg hl
  have hbo : bots (cutP p w b) b.w b.h = (pieces ⟨cutP p w b, b.w, b.h, true, true⟩).map (botP b.w) := rfl
  generalize pieces ⟨cutP p w b, b.w, b.h, true, true⟩ = R at *
  generalize bots (cutP p w b) b.w b.h = BL at *
  generalize cutP p w b = q at *
  generalize inkB p w b = N at *
  obtain ⟨bx, by', bw, bh⟩ := b
  dsimp only [Nb.av] at *
  refine FnOk.of_vc Tryz.func14 rfl (by decide) (by simp [Tryz.f14]) [.tmp 4, .tmp 5] rfl fun w0 T0 _ => ?_
  simp only [Tryz.f14, argEnv]
  (repeat' first | with_reducible (first | intro _ | refine rc ?_ | refine rl ?_ | refine rh ?_ | refine rt ?_ | refine rf ?_ | refine rs ?_ | refine And.intro ?_ ?_) | omega | simp (maxSteps := 1000000) only [go_sem, simprocAttr, ↓reduceIte])
  refine VcCall.ro (.tup [.agg [.int .i64 bw, .int .i64 bh, .ro (.bools q)], .int .i64 0]) (FnFr.of_ok k2 rfl rfl) (by simp only [noIdR_ok, argOkL, argOk, allOk, argOkN, List.drop_zero, lk, reduceIte, reduceCtorEq, Nat.reduceEqDiff, Option.some.injEq, Item.row.injEq, Item.box.injEq, AV.ro.injEq, exists_eq_left, exists_and_left, exists_eq_left', exists_eq_right, and_assoc, and_true, true_and, List.cons.injEq, exists_eq', exists_eq]) (by simp [outOk, argOkL, allOk, argOk, argOkN, lk, noIdR_ok]) rfl ?_
  (repeat' first | with_reducible (first | intro _ | refine rc ?_ | refine rl ?_ | refine rh ?_ | refine rt ?_ | refine rf ?_ | refine rs ?_ | refine And.intro ?_ ?_) | omega | simp (maxSteps := 1000000) only [go_sem, simprocAttr, ↓reduceIte])
  refine VcCall.ros (.ro (.objs 1 (R.map gAv))) k3 (by simp only [noIdR_ok, argOkL, argOk, allOk, argOkN, List.drop_zero, lk, reduceIte, reduceCtorEq, Nat.reduceEqDiff, Option.some.injEq, Item.row.injEq, Item.box.injEq, AV.ro.injEq, exists_eq_left, exists_and_left, exists_eq_left', exists_eq_right, and_assoc, and_true, true_and, List.cons.injEq, exists_eq', exists_eq]) (by simp [outOk, argOk, argOkN, lk, noIdR_ok]) rfl ?_
  (repeat' first | with_reducible (first | intro _ | refine rc ?_ | refine rl ?_ | refine rh ?_ | refine rt ?_ | refine rf ?_ | refine rs ?_ | refine And.intro ?_ ?_) | omega | simp (maxSteps := 1000000) only [go_sem, simprocAttr, ↓reduceIte, List.length_map])
  refine VcLoop.intro (fun k : Nat => ⟨81, [(28, .int .i64 k), (27, .int .i64 R.length), (26, .ro (.objs 1 (R.map gAv))), (8, .own 0), (3, .ptr 1 0), (6, .ptr 2 0)], [(0, .map (cKs (BL.take k)) (cVs (BL.take k))), (1, .box 26 [.int .i64 bx, .int .i64 by', .int .i64 bw, .int .i64 bh]), (2, .box 24 [.int .i64 bw, .int .i64 bh, .ro (.bools q)])], 3⟩) (fun k => k ≤ R.length) (fun k => R.length - k) 0 ?_ (Nat.zero_le _) fun k hk => ?_
  · have e0 : cKs [] = [] ∧ cVs [] = [] := ⟨rfl, rfl⟩
    refine Ent.auto0 rfl ?_ ?_ <;> simp only [go_sem, reduceCtorEq, reduceIte, Nat.reduceEqDiff, Nat.reduceLT, Nat.reduceLeDiff, Int.natCast_succ, List.take_zero, e0.1, e0.2]
  by_cases hlt : k < R.length
  · have he := g_elem R hlt
    have hts : BL.take (k + 1) = BL.take k ++ [botP bw (R.getD k [])] := by
      rw [hbo, ← List.map_take, ← List.map_take]; exact take_mapG _ [] hlt
    obtain ⟨hpk, hpn⟩ := hpg (R.getD k []) (by rw [getD_lt hlt]; exact List.getElem_mem hlt)
    have kB := boxOf_ok bw bh (by omega) (by omega) hb1 q (R.getD k []) hpk
    have hbt := box_bot bw bh (R.getD k [])
    have hbd2 := boxOf_bd (w := bw) (h := bh) (by omega) (by omega) hpk
    have hcb2 := cnt_bd (BL.take k) (botP bw (R.getD k []))
    have htl : (BL.take k).length ≤ 1000000 := by rw [List.length_take]; omega
    generalize R.getD k [] = r at *
    generalize boxOf bw bh r = c at *
    unfold BxBd at hbd2
    unfold Bx.av at kB
    generalize botP bw r = y at *
    have e1 := getI_cnt (BL.take k) y
    have e2 := updKs_cnt (BL.take k) y
    have e3 := updVs_cnt (BL.take k) y
    have e4 := isI_cnt (BL.take k)
    have e5 : KeysT Tryz.prog 3 (cKs (BL.take k)) := keysT_cnt (by kernel_rfl) _
    (repeat' first | with_reducible (first | intro _ | refine rc ?_ | refine rl ?_ | refine rh ?_ | refine rt ?_ | refine rf ?_ | refine rs ?_ | refine And.intro ?_ ?_) | omega | simp (maxSteps := 1000000) only [go_sem, simprocAttr, ↓reduceIte, List.length_map, elemA, he])
    refine VcCall.k (kB) ?_
    (repeat' first | with_reducible (first | intro _ | refine rc ?_ | refine rl ?_ | refine rh ?_ | refine rt ?_ | refine rf ?_ | refine rs ?_ | refine And.intro ?_ ?_) | omega | simp (maxSteps := 1000000) only [go_sem, simprocAttr, ↓reduceIte, hbt, e1, e2, e3, e4, e5])
    refine ⟨k + 1, Ent.auto0 rfl ?_ ?_, by omega, by omega⟩ <;> simp only [go_sem, reduceCtorEq, reduceIte, Nat.reduceEqDiff, Nat.reduceLT, Nat.reduceLeDiff, Int.natCast_succ, hts, ren_cKs, ren_cVs, below_cKs, below_cVs, mk_cKs, mk_cVs]
  · have e : k = R.length := by omega
    subst e
    have hbl2 : BL.take R.length = BL := by rw [List.take_of_length_le]; rw [hbo, List.length_map]; exact Nat.le_refl _
    rw [hbl2]
    have hkl := cKs_len BL
    have huq := uq_nil (l := BL)
    have hule := uq_le BL
    have hkb : (cKs BL).length ≤ 1000000 := by rw [hkl]; omega
    by_cases hN : N = 0
    · rw [if_pos hN, if_pos hN]
      have hz : (cKs BL).length = 0 := by rw [hkl]; exact huq.2 (hnil.2 hN)
      (repeat' first | with_reducible (first | intro _ | refine rc ?_ | refine rl ?_ | refine rh ?_ | refine rt ?_ | refine rf ?_ | refine rs ?_ | refine And.intro ?_ ?_) | omega | simp (maxSteps := 1000000) only [go_sem, simprocAttr, ↓reduceIte, hz])
      refine Ret.auto 0 ?_ rfl ?_ <;> simp only [go_sem, reduceCtorEq, reduceIte, Nat.reduceEqDiff, Nat.reduceLT, Nat.reduceLeDiff, Int.natCast_succ, Post]
    rw [if_neg hN, if_neg hN]
    have hz : ¬ (cKs BL).length = 0 := by rw [hkl]; exact fun h => hN (hnil.1 (huq.1 h))
    (repeat' first | with_reducible (first | intro _ | refine rc ?_ | refine rl ?_ | refine rh ?_ | refine rt ?_ | refine rf ?_ | refine rs ?_ | refine And.intro ?_ ?_) | omega | simp (maxSteps := 1000000) only [go_sem, simprocAttr, ↓reduceIte, hz])
    refine VcLoop.intro (fun x : List Nat × Int => ⟨81, [(12, .int .i64 x.2), (49, .ptr 2 0), (8, .own 0), (3, .ptr 1 0)], [(0, .map (cKs BL) (cVs BL)), (1, .box 26 [.int .i64 bx, .int .i64 by', .int .i64 bw, .int .i64 bh]), (2, .iter 0 (cKs BL).length x.1)], 3⟩) (fun x => (LowL BL (seenK BL x.1) x.2 ∧ (-1 ≤ x.2 ∧ x.2 ≤ 1000)) ∧ ∀ j, j ∈ x.1 → j < (uq BL).length) (fun x => left (uq BL).length x.1) ([], -1) ?_ ⟨⟨.inl ⟨rfl, rfl⟩, by decide⟩, fun j hj => absurd hj List.not_mem_nil⟩ fun x hx => ?_
    · refine Ent.auto0 rfl ?_ ?_ <;> simp only [go_sem, reduceCtorEq, reduceIte, Nat.reduceEqDiff, Nat.reduceLT, Nat.reduceLeDiff, Int.natCast_succ, ren_cKs, ren_cVs, below_cKs, below_cVs, mk_cKs, mk_cVs]
    obtain ⟨seen, best⟩ := x
    obtain ⟨⟨hb', hbd⟩, hs⟩ := hx
    dsimp only at hb' hbd hs ⊢
    have e1 := getI_cnt BL
    have e4 := isI_cnt BL
    have e5 : KeysT Tryz.prog 3 (cKs BL) := keysT_cnt (by kernel_rfl) _
    have c1 := fun k => cnt_bd BL k
    (repeat' first | with_reducible (first | intro _ | refine rc ?_ | refine rl ?_ | refine rh ?_ | refine rt ?_ | refine rf ?_ | refine rs ?_ | refine And.intro ?_ ?_) | omega | simp (maxSteps := 1000000) only [go_sem, simprocAttr, ↓reduceIte])
    refine VcNext.intro (fun j kx vx hj hkx hvx => ?_) (fun hall => ?_)
    · obtain ⟨hjl, rfl, hkl⟩ := cKs_at hkx
      obtain rfl := cVs_at hvx
      have hst := hb'.step (k := (uq BL).getD j 0) fun k hk => (hbb k (seenK_mem hs hk)).1
      have hsn := seenK_snoc BL seen j
      have hlt := left_lt hj hjl
      have hs' : ∀ j', j' ∈ seen ++ [j] → j' < (uq BL).length := fun j' hj' => by
        rcases List.mem_append.1 hj' with h' | h'
        · exact hs j' h'
        · simp at h'; subst h'; exact hjl
      have hk0 := hbb _ hkl
      unfold pickLow at hst
      generalize (uq BL).getD j 0 = key at *
      have c2 := c1 key
      have c3 := c1 best
      (repeat' first | with_reducible (first | intro _ | refine rc ?_ | refine rl ?_ | refine rh ?_ | refine rt ?_ | refine rf ?_ | refine rs ?_ | refine And.intro ?_ ?_) | omega | simp (maxSteps := 1000000) only [go_sem, simprocAttr, ↓reduceIte])
      refine VcEnt.intro hkx hvx ?_
      (repeat' first | with_reducible (first | intro _ | refine rc ?_ | refine rl ?_ | refine rh ?_ | refine rt ?_ | refine rf ?_ | refine rs ?_ | refine And.intro ?_ ?_) | omega | simp (maxSteps := 1000000) only [go_sem, simprocAttr, ↓reduceIte, e1, e4, e5])
      · rename_i hc
        rw [if_pos (by omega), ← hsn] at hst
        refine ⟨(seen ++ [j], key), Ent.auto0 rfl ?_ ?_, ⟨⟨hst, by dsimp only; omega⟩, hs'⟩, hlt⟩ <;> simp only [go_sem, reduceCtorEq, reduceIte, Nat.reduceEqDiff, Nat.reduceLT, Nat.reduceLeDiff, Int.natCast_succ, ren_cKs, ren_cVs, below_cKs, below_cVs, mk_cKs, mk_cVs]
      · rename_i hc
        rw [if_neg (by omega), ← hsn] at hst
        refine ⟨(seen ++ [j], best), Ent.auto0 rfl ?_ ?_, ⟨⟨hst, hbd⟩, hs'⟩, hlt⟩ <;> simp only [go_sem, reduceCtorEq, reduceIte, Nat.reduceEqDiff, Nat.reduceLT, Nat.reduceLeDiff, Int.natCast_succ, ren_cKs, ren_cVs, below_cKs, below_cVs, mk_cKs, mk_cVs]
    · have hbe := low_all (fun k hk => (hbb k hk).1) hs (fun j hj => hall j (by rw [cKs_len]; exact hj)) hb'
      rw [← hbe]
      (repeat' first | with_reducible (first | intro _ | refine rc ?_ | refine rl ?_ | refine rh ?_ | refine rt ?_ | refine rf ?_ | refine rs ?_ | refine And.intro ?_ ?_) | omega | simp (maxSteps := 1000000) only [go_sem, simprocAttr, ↓reduceIte])
      refine Ret.auto 0 ?_ rfl ?_ <;> simp only [go_sem, reduceCtorEq, reduceIte, Nat.reduceEqDiff, Nat.reduceLT, Nat.reduceLeDiff, Int.natCast_succ, Post]
      omega
end Go.Fv.Q
