/-
  A part of the proof of the claim: walks over the program's functions and the plain laws that these need. No condition of its own.
-/
import Derived.Test.YthhdmejmdjhbkaaGreatDoorYTopCorrCardPart8
import Derived.Test.YthhdmejmdjhbkaaGreatDoorYTopCorrCardPart9
import Derived.Test.YthhdmejmdjhbkaaGreatDoorYTopCorrCardPart7
/- The law TopCorrected. -/
namespace Go.Fv.Y
open Go Go.Proofs
set_option linter.unusedSimpArgs false
set_option linter.unusedVariables false
set_option linter.unnecessarySimpa false
set_option maxRecDepth 8000

theorem landedTC_ok : FnOk Tryz.prog 7 [] (.bool true) [] := by
  refine FnOk.of_vc Tryz.func7 rfl (by decide) (by simp [Tryz.f7]) [.tmp 0] rfl fun w0 T0 _ => ?_
  simp only [Tryz.f7, argEnv]
  simp (maxSteps := 1000000) only [go_sem, simprocAttr, ↓reduceIte]
  refine VcCall.fr (args' := [.str [97]]) (FnFr.of_ok isName_a rfl rfl) (by simp [argOkL, allOk, argOkN]) 0 rfl (by simp [rowsB]) ?_
  simp (maxSteps := 1000000) only [go_sem, simprocAttr, ↓reduceIte]
  refine Ret.auto 0 ?_ rfl ?_ <;> simp only [go_sem, reduceCtorEq, reduceIte, Nat.reduceEqDiff, Nat.reduceLT, Nat.reduceLeDiff, Int.natCast_succ, Post]
theorem rem_bdT (t : Int) (n : Nat) (hn : 1 ≤ n) : ∃ (q : Int) (k : Nat), Int.tmod t n = q ∧ (-(n : Int) < q ∧ q < n) ∧ Int.tmod (q + n) n = k ∧ k < n := by
  have h1 := Int.tmod_lt_of_pos t (show (0 : Int) < n by omega)
  have h2 : -(n : Int) < Int.tmod t n := by
    have := Int.tmod_lt_of_pos (-t) (show (0 : Int) < n by omega)
    rw [Int.neg_tmod] at this
    omega
  have h3 := Int.tmod_nonneg (n : Int) (show (0 : Int) ≤ Int.tmod t n + n by omega)
  have h4 := Int.tmod_lt_of_pos (Int.tmod t n + n) (show (0 : Int) < n by omega)
  exact ⟨_, (Int.tmod (Int.tmod t n + n) n).toNat, rfl, ⟨h2, h1⟩, by omega, by omega⟩
/-- NewDict, by its error alone. -/
theorem newDict_dead (l : List Wd) (E : Int) (hE : dictErr l = E) : FnOk Tryz.prog 8 [.ro (wdR l)] (.tup [.dead, .int .i64 E]) [] := by
  have key : ∀ out, FnOk Tryz.prog 8 [.ro (wdR l)] (.tup [out, .int .i64 E]) [] → FnOk Tryz.prog 8 [.ro (wdR l)] (.tup [.dead, .int .i64 E]) [] := by
    intro out h
    refine ⟨h.1, fun w T vals hgl hv => (h.2 w T vals hgl hv).mono ?_⟩
    rintro e w' ⟨v, rfl, hb, m, N, hr, hrows, hsep⟩
    refine ⟨v, rfl, hb, m, N, ?_, hrows, hsep⟩
    cases hr with
    | tup _ vs ht =>
      cases ht with
      | cons _ v1 _ vs1 h1 ht => exact .tup _ _ (.cons _ _ _ _ (.dead v1) ht)
  rcases Classical.em (E = 0) with h0 | h0
  · exact key _ (newDict_any l E hE _ (fun _ => rfl) (fun h => absurd h0 h))
  · exact key _ (newDict_any l E hE _ (fun h => absurd h h0) (fun _ => rfl))
theorem replL_ne {s f t : Bytes} (hs : s ≠ []) (ht : t ≠ []) : replL s f t ≠ [] := by
  unfold replL
  split
  · exact hs
  · intro h
    simp only [List.append_eq_nil_iff] at h
    exact ht h.2.1
theorem toks_ne {r : Bytes} (h : r ≠ []) : toks r [] [] ≠ [] := by
  intro e
  have := toksText r
  rw [e] at this
  exact h this.symm
set_option maxHeartbeats 32000000 in
theorem topCorrected_ok (L : List Wd) (pick : Int) (m : Mx) : FnOk Tryz.prog 3 [.ro (wdR L), .int .i64 pick, .agg [.str m.f, .str m.t, .int .i64 m.c]] (.bool true) [] := by
  have hg : GoodD (dOf (L.take 12)) := dictErr_zero (dOf_ok _)
  have hD0 : dictErr (dOf (L.take 12)) = 0 := dOf_ok _
  have hl : (dOf (L.take 12)).length ≤ 12 := by
    have := dOf_len (L.take 12)
    rw [List.length_take] at this; omega
  generalize hD : dOf (L.take 12) = D at *
  have kN := newDict_any D 0 hD0 _ (fun _ => rfl) (fun h => absurd rfl h)
  have hms : mxs [m] = .objs 3 [[.str m.f, .str m.t, .int .i64 m.c]] := rfl
  have kM := checkMixes_ok [m]
  rw [hms] at kM
  refine FnOk.of_vc Tryz.func3 rfl (by decide) (by simp [Tryz.f3]) [.tmp 6] rfl fun w0 T0 _ => ?_
  simp only [Tryz.f3, argEnv]
  have hn : ∃ n : Nat, min (L.length : Int) 12 = (n : Int) ∧ n ≤ L.length ∧ L.take 12 = L.take n ∧ n ≤ 12 := by
    by_cases h : L.length ≤ 12
    · exact ⟨L.length, by omega, Nat.le_refl _, by rw [List.take_of_length_le h, List.take_of_length_le (Nat.le_refl _)], h⟩
    · exact ⟨12, by omega, by omega, rfl, Nat.le_refl _⟩
  obtain ⟨n, hm2, hnL, hnt, hn30⟩ := hn
  rw [hnt] at hD
  have hnl : (L.take n).length = n := by rw [List.length_take]; omega
  have hsub : List.take n (L.map Wd.av) = (L.take n).map Wd.av := List.map_take.symm
  (repeat' first | with_reducible (first | intro _ | refine rc ?_ | refine rl ?_ | refine rh ?_ | refine ru ?_ | refine rt ?_ | refine rf ?_ | refine rs ?_ | refine And.intro ?_ ?_) | omega | simp (maxSteps := 1000000) only [go_sem, simprocAttr, ↓reduceIte, hm2, Int.toNat_natCast, Nat.sub_zero, hsub, List.length_map])
  refine VcCall.k (landedTC_ok) ?_
  (repeat' first | with_reducible (first | intro _ | refine rc ?_ | refine rl ?_ | refine rh ?_ | refine ru ?_ | refine rt ?_ | refine rf ?_ | refine rs ?_ | refine And.intro ?_ ?_) | omega | simp (maxSteps := 1000000) only [go_sem, simprocAttr, ↓reduceIte, hm2, Int.toNat_natCast, Nat.sub_zero, hsub, List.length_map])
  generalize L.take n = l at *
  refine VcLoop.run (fun i : Nat => ⟨194, [(36, .int .i64 i), (35, .int .i64 n), (34, .ro (wdR l)), (7, .own 1), (5, .ptr 0 0), (1, .int .i64 pick)], [(0, .box 24 [.str m.f, .str m.t, .int .i64 m.c]), (1, .row 27 (wdR (dOf (l.take i))))], 2⟩) (fun i => i ≤ n) (fun i => n - i) 0 ?_ (Nat.zero_le _) fun i hi => ?_
  · refine Ent.auto0 rfl ?_ ?_ <;> simp only [go_sem, reduceCtorEq, reduceIte, Nat.reduceEqDiff, Nat.reduceLT, Nat.reduceLeDiff, Int.natCast_succ]
    all_goals first | rfl | (rw [hnl]) | omega
  by_cases hlt : i < n
  · have he := wd_elem l (i := i) (by omega)
    have hst := dOf_take (l := l) (i := i) (by omega)
    have hdl := dOf_len (l.take i)
    have hdl2 : (l.take i).length ≤ n := by rw [List.length_take]; omega
    have kC := cloneWd_ok (dOf (l.take i)) (by omega)
    have kE := newDict_dead (dOf (l.take i) ++ [l.getD i Wd.zero]) _ rfl
    unfold addD at hst
    generalize dOf (l.take i) = S at *
    generalize hS : dOf (l.take (i + 1)) = S' at *
    generalize l.getD i Wd.zero = z at *
    obtain ⟨zt, zc⟩ := z
    dsimp only at he
    have hw := wd_snoc S zt zc
    refine VcRun.of ?_
    (repeat' first | with_reducible (first | intro _ | refine rc ?_ | refine rl ?_ | refine rh ?_ | refine ru ?_ | refine rt ?_ | refine rf ?_ | refine rs ?_ | refine And.intro ?_ ?_) | omega | simp (maxSteps := 1000000) only [go_sem, simprocAttr, ↓reduceIte, elemA, he, hnl, List.length_map])
    have hz : (wdR (S ++ [⟨zt, zc⟩])) = .objs 2 (S.map Wd.av ++ [[.str zt, .int .i64 zc]]) := by unfold wdR; rw [hw]
    generalize hE : dictErr (S ++ [⟨zt, zc⟩]) = E at *
    refine VcDraw.cut (.first 0 (.cons 1 (.cons 2 (.cons 3 (.cons 4 (.cons 5 (.first 6 (.cons 7 (.first 9 (.cons 8 (.first 10 .done) .stop)) (.cons 8 (.cons 7 (.first 9 (.first 10 .done)) .stop) .stop))) .stop) .stop) .stop) .stop) (.cons 2 (.cons 1 (.cons 3 (.cons 4 (.cons 5 (.first 6 (.cons 7 (.first 9 (.cons 8 (.first 10 .done) .stop)) (.cons 8 (.cons 7 (.first 9 (.first 10 .done)) .stop) .stop))) .stop) .stop) .stop) (.cons 3 (.cons 1 (.cons 4 (.cons 5 (.first 6 (.cons 7 (.first 9 (.cons 8 (.first 10 .done) .stop)) (.cons 8 (.cons 7 (.first 9 (.first 10 .done)) .stop) .stop))) .stop) .stop) .stop) .stop)) .stop))) (by kernel_rfl) (by kernel_rfl) (by kernel_rfl)
      ⟨194, [(11, .int .i64 E), (36, .int .i64 i), (35, .int .i64 n), (34, .ro (wdR l)), (7, .own 1), (9, .ptr 2 0), (5, .ptr 0 0), (1, .int .i64 pick)], [(0, .box 24 [.str m.f, .str m.t, .int .i64 m.c]), (1, .row 27 (wdR S)), (2, .box 27 [.str zt, .int .i64 zc])], 3⟩ ?_ ?_
    · (repeat' first | with_reducible (first | intro _ | refine rc ?_ | refine rl ?_ | refine rh ?_ | refine ru ?_ | refine rt ?_ | refine rf ?_ | refine rs ?_ | refine And.intro ?_ ?_) | omega | simp (maxSteps := 1000000) only [go_sem, simprocAttr, ↓reduceIte])
      all_goals
        refine VcCall.fr (FnFr.of_ok kC rfl (by simp [noRoRows, noRoItem, noRoRow, noRoL, noRo, wdR, Wd.av])) (by simp only [noIdR_ok, argOkL, argOk, allOk, argOkN, List.drop_zero, lk, reduceIte, reduceCtorEq, Nat.reduceEqDiff, Option.some.injEq, Item.row.injEq, Item.box.injEq, AV.ro.injEq, exists_eq_left, exists_and_left, exists_eq_left', exists_eq_right, and_assoc, and_true, true_and, List.cons.injEq, exists_eq', exists_eq, wdR]) 1 rfl (by simp [rowsB, Item.below, wdR, belowR_ok]) ?_
        (repeat' first | with_reducible (first | intro _ | refine rc ?_ | refine rl ?_ | refine rh ?_ | refine ru ?_ | refine rt ?_ | refine rf ?_ | refine rs ?_ | refine And.intro ?_ ?_) | omega | simp (maxSteps := 1000000) only [go_sem, simprocAttr, ↓reduceIte, wdR, hw, List.length_map])
        refine VcCall.fr (FnFr.of_ok kE rfl rfl) (by simp only [noIdR_ok, argOkL, argOk, allOk, argOkN, List.drop_zero, lk, reduceIte, reduceCtorEq, Nat.reduceEqDiff, Option.some.injEq, Item.row.injEq, Item.box.injEq, AV.ro.injEq, exists_eq_left, exists_and_left, exists_eq_left', exists_eq_right, and_assoc, and_true, true_and, List.cons.injEq, exists_eq', exists_eq, wdR]) 0 rfl (by simp [rowsB]) ?_
        (repeat' first | with_reducible (first | intro _ | refine rc ?_ | refine rl ?_ | refine rh ?_ | refine ru ?_ | refine rt ?_ | refine rf ?_ | refine rs ?_ | refine And.intro ?_ ?_) | omega | simp (maxSteps := 1000000) only [go_sem, simprocAttr, ↓reduceIte])
        all_goals (refine Ent.auto0 rfl ?_ ?_ <;> simp only [go_sem, reduceCtorEq, reduceIte, Nat.reduceEqDiff, Nat.reduceLT, Nat.reduceLeDiff, Int.natCast_succ, wdR])
    · by_cases h0 : E = 0
      · rw [if_pos h0] at hst
        subst hst
        (repeat' first | with_reducible (first | intro _ | refine rc ?_ | refine rl ?_ | refine rh ?_ | refine ru ?_ | refine rt ?_ | refine rf ?_ | refine rs ?_ | refine And.intro ?_ ?_) | omega | simp (maxSteps := 1000000) only [go_sem, simprocAttr, ↓reduceIte, h0, wdR, hw, List.length_map])
        refine ⟨i + 1, Ent.auto0 rfl ?_ ?_, by omega, by omega⟩ <;> simp only [go_sem, reduceCtorEq, reduceIte, Nat.reduceEqDiff, Nat.reduceLT, Nat.reduceLeDiff, Int.natCast_succ, wdR, hS]
      · rw [if_neg h0] at hst
        subst hst
        (repeat' first | with_reducible (first | intro _ | refine rc ?_ | refine rl ?_ | refine rh ?_ | refine ru ?_ | refine rt ?_ | refine rf ?_ | refine rs ?_ | refine And.intro ?_ ?_) | omega | simp (maxSteps := 1000000) only [go_sem, simprocAttr, ↓reduceIte, h0, wdR, List.length_map])
        refine ⟨i + 1, Ent.auto0 rfl ?_ ?_, by omega, by omega⟩ <;> simp only [go_sem, reduceCtorEq, reduceIte, Nat.reduceEqDiff, Nat.reduceLT, Nat.reduceLeDiff, Int.natCast_succ, wdR, hS]
  · have e : i = n := by omega
    subst e
    rw [← hnl, List.take_length, hD]
    refine VcRun.ent (Ent.trans (Ent.fz 1 (e := 27) (r := wdR D) rfl (noIdR_ok _) (by decide)) (Ent.auto0 (s' := ⟨194, [(36, .int .i64 l.length), (35, .int .i64 l.length), (7, .ro (wdR D)), (5, .ptr 0 0), (1, .int .i64 pick)], [(0, .box 24 [.str m.f, .str m.t, .int .i64 m.c])], 1⟩) rfl ?_ ?_)) (VcRun.of ?_)
    · simp only [go_sem, reduceCtorEq, reduceIte, Nat.reduceEqDiff, Nat.reduceLT, Nat.reduceLeDiff, Int.natCast_succ]
    · simp only [go_sem, reduceCtorEq, reduceIte, Nat.reduceEqDiff, Nat.reduceLT, Nat.reduceLeDiff, Int.natCast_succ]
    (repeat' first | with_reducible (first | intro _ | refine rc ?_ | refine rl ?_ | refine rh ?_ | refine ru ?_ | refine rt ?_ | refine rf ?_ | refine rs ?_ | refine And.intro ?_ ?_) | omega | simp (maxSteps := 1000000) only [go_sem, simprocAttr, ↓reduceIte, mxs])
    have hmx : (wdR D).len = D.length := by simp [wdR, RowV.len]
    refine VcCall.k kM ?_
    rcases (Classical.em (mixErr [m] = 0)).symm with hE | hE
    · (repeat' first | with_reducible (first | intro _ | refine rc ?_ | refine rl ?_ | refine rh ?_ | refine ru ?_ | refine rt ?_ | refine rf ?_ | refine rs ?_ | refine And.intro ?_ ?_) | omega | simp (maxSteps := 1000000) only [go_sem, simprocAttr, ↓reduceIte, hE])
      refine Ret.auto 0 ?_ rfl ?_ <;> simp only [go_sem, reduceCtorEq, reduceIte, Nat.reduceEqDiff, Nat.reduceLT, Nat.reduceLeDiff, Int.natCast_succ, Post]
    rw [hE]
    by_cases hD1 : D = []
    · subst hD1
      (repeat' first | with_reducible (first | intro _ | refine rc ?_ | refine rl ?_ | refine rh ?_ | refine ru ?_ | refine rt ?_ | refine rf ?_ | refine rs ?_ | refine And.intro ?_ ?_) | omega | simp (maxSteps := 1000000) only [go_sem, simprocAttr, ↓reduceIte, wdR, List.map_nil, List.length_nil])
      refine Ret.auto 0 ?_ rfl ?_ <;> simp only [go_sem, reduceCtorEq, reduceIte, Nat.reduceEqDiff, Nat.reduceLT, Nat.reduceLeDiff, Int.natCast_succ, Post]
    have hDp : 0 < D.length := List.length_pos_iff.2 hD1
    (repeat' first | with_reducible (first | intro _ | refine rc ?_ | refine rl ?_ | refine rh ?_ | refine ru ?_ | refine rt ?_ | refine rf ?_ | refine rs ?_ | refine And.intro ?_ ?_) | omega | simp (maxSteps := 1000000) only [go_sem, simprocAttr, ↓reduceIte, wdR, List.length_map])
    refine VcCall.ros (.tup [.cell [.mp (dKs D) (dVs D), .ro (.strs (wsD D))], .int .i64 0]) kN (by simp only [noIdR_ok, argOkL, argOk, allOk, argOkN, List.drop_zero, lk, reduceIte, reduceCtorEq, Nat.reduceEqDiff, Option.some.injEq, Item.row.injEq, Item.box.injEq, AV.ro.injEq, exists_eq_left, exists_and_left, exists_eq_left', exists_eq_right, and_assoc, and_true, true_and, List.cons.injEq, exists_eq', exists_eq, wdR]) (by simp [outOk, argOkL, allOk, argOk, argOkN, lk, noIdR_ok]) (by simp [noId, noIdL, noIdR_ok, dKs, dVs]) ?_
    (repeat' first | with_reducible (first | intro _ | refine rc ?_ | refine rl ?_ | refine rh ?_ | refine ru ?_ | refine rt ?_ | refine rf ?_ | refine rs ?_ | refine And.intro ?_ ?_) | omega | simp (maxSteps := 1000000) only [go_sem, simprocAttr, ↓reduceIte, List.length_map])
    have htl := txtD_len (D := D) (fun w h => (hg.wd w h).1)
    have htk : ∀ i, (txtD (D.take i)).length ≤ 42 * D.length := fun i => by
      have := txtD_len (D := D.take i) (fun w h => (hg.wd w (List.mem_of_mem_take h)).1)
      rw [List.length_take] at this; omega
    refine VcLoop.intro (fun i : Nat => ⟨194, [(75, .int .i64 i), (74, .int .i64 D.length), (73, .ro (wdR D)), (15, .str (txtD (D.take i))), (13, .cell [.mp (dKs D) (dVs D), .ro (.strs (wsD D))]), (12, .ro (.objs 3 [[.str m.f, .str m.t, .int .i64 m.c]])), (7, .ro (wdR D)), (5, .ptr 0 0), (1, .int .i64 pick)], [(0, .box 24 [.str m.f, .str m.t, .int .i64 m.c])], 1⟩) (fun i => i ≤ D.length) (fun i => D.length - i) 0 ?_ (Nat.zero_le _) fun i hi => ?_
    · refine Ent.trans (Ent.fz 1 (e := 24) (r := .objs 3 [[.str m.f, .str m.t, .int .i64 m.c]]) rfl (by rfl) (by decide)) (Ent.auto0 rfl ?_ ?_)
      · simp only [go_sem, reduceCtorEq, reduceIte, Nat.reduceEqDiff, Nat.reduceLT, Nat.reduceLeDiff, Int.natCast_succ, wdR]
        all_goals first | rfl | exact ⟨rfl, rfl⟩
      · simp only [go_sem, reduceCtorEq, reduceIte, Nat.reduceEqDiff, Nat.reduceLT, Nat.reduceLeDiff, Int.natCast_succ]
    by_cases hlt : i < D.length
    · have he := wd_elem D hlt
      have hst := txtD_take hlt
      have h1 := (isWd_partsT (hg.wd (D.getD i Wd.zero) (by rw [getD_lt hlt]; exact List.getElem_mem hlt)).1).2.1
      have h2 := htk i
      generalize txtD (D.take i) = S at *
      generalize hS : txtD (D.take (i + 1)) = S' at *
      generalize D.getD i Wd.zero = z at *
      obtain ⟨zt, zc⟩ := z
      dsimp only at he hst h1
      subst hst
      (repeat' first | with_reducible (first | intro _ | refine rc ?_ | refine rl ?_ | refine rh ?_ | refine ru ?_ | refine rt ?_ | refine rf ?_ | refine rs ?_ | refine And.intro ?_ ?_) | omega | simp (maxSteps := 1000000) only [go_sem, simprocAttr, ↓reduceIte, elemA, he, wdR, List.length_map])
      refine ⟨i + 1, Ent.auto0 rfl ?_ ?_, by omega, by omega⟩ <;> simp only [go_sem, reduceCtorEq, reduceIte, Nat.reduceEqDiff, Nat.reduceLT, Nat.reduceLeDiff, Int.natCast_succ, wdR, hS]
    have e : i = D.length := by omega
    subst e
    have k1 := correct_ok (txtD D) (by omega) D hg (by omega) [m] 200 0 (by unfold corrErr; rw [if_pos hE]; rfl) (csAll (corrW D (swL [m]) 200) (toks (txtD D) [] [])) (by rw [if_pos rfl])
    obtain ⟨y1, y2⟩ := text_stays hg (swL [m]) 200
    rw [hms, y1, y2] at k1
    clear y1 y2
    (repeat' first | with_reducible (first | intro _ | refine rc ?_ | refine rl ?_ | refine rh ?_ | refine ru ?_ | refine rt ?_ | refine rf ?_ | refine rs ?_ | refine And.intro ?_ ?_) | omega | simp (maxSteps := 1000000) only [go_sem, simprocAttr, ↓reduceIte, List.take_length])
    refine VcCall.ro (.tup [.str (txtD D), .ro (fxR []), .int .i64 0]) (FnFr.of_ok k1 rfl (by simp [noRoRows, noRoItem, noRoRow, noRoL, noRo, fxR, Fx.av])) (by simp only [noIdR_ok, argOkL, argOk, allOk, argOkN, List.drop_zero, lk, reduceIte, reduceCtorEq, Nat.reduceEqDiff, Option.some.injEq, Item.row.injEq, Item.box.injEq, AV.ro.injEq, exists_eq_left, exists_and_left, exists_eq_left', exists_eq_right, and_assoc, and_true, true_and, List.cons.injEq, exists_eq', exists_eq]) (by simp [outOk, argOkL, allOk, argOk, argOkN, lk, noIdR_ok, fxR]) rfl ?_
    obtain ⟨q, j, q1, ⟨q2, q3⟩, q4, q5⟩ := rem_bdT pick D.length hDp
    have he := wd_elem D q5
    have hwm : D.getD j Wd.zero ∈ D := by rw [getD_lt q5]; exact List.getElem_mem q5
    have hww := isWd_partsT (hg.wd _ hwm).1
    generalize D.getD j Wd.zero = z at *
    obtain ⟨zt, zc⟩ := z
    dsimp only at he hww hwm
    obtain ⟨g1, g2, g3⟩ := mix_good hE
    obtain ⟨m1, m2, m3, m4, m5⟩ := (mixErr_zero hE).2 m (List.mem_singleton_self _)
    obtain ⟨pf1, pf2⟩ := part_len m1
    obtain ⟨pt1, pt2⟩ := part_len m2
    have kr := replace_ok zt m.f m.t (by omega) (part_ne m1) (by omega) (part_ne m2) (by omega) m3
    have hrl := replL_len zt m.f m.t (part_ne m1)
    have hrn := replL_ne (f := m.f) hww.1 (part_ne m2)
    generalize replL zt m.f m.t = r at *
    have kc := contFn_ok r (by omega)
    have ks := split_ok r (by omega)
    (repeat' first | with_reducible (first | intro _ | refine rc ?_ | refine rl ?_ | refine rh ?_ | refine ru ?_ | refine rt ?_ | refine rf ?_ | refine rs ?_ | refine And.intro ?_ ?_) | omega | simp (maxSteps := 1000000) only [go_sem, simprocAttr, ↓reduceIte, fxR, List.map_nil, List.length_nil, q1, q4, Int.toNat_natCast, elemA, he, wdR])
    refine VcCall.k (kr) ?_
    (repeat' first | with_reducible (first | intro _ | refine rc ?_ | refine rl ?_ | refine rh ?_ | refine ru ?_ | refine rt ?_ | refine rf ?_ | refine rs ?_ | refine And.intro ?_ ?_) | omega | simp (maxSteps := 1000000) only [go_sem, simprocAttr, ↓reduceIte])
    refine VcCall.k (kc) ?_
    (repeat' first | with_reducible (first | intro _ | refine rc ?_ | refine rl ?_ | refine rh ?_ | refine ru ?_ | refine rt ?_ | refine rf ?_ | refine rs ?_ | refine And.intro ?_ ?_) | omega | simp (maxSteps := 1000000) only [go_sem, simprocAttr, ↓reduceIte])
    refine VcCall.ro (.ro (tkR (toks r [] []))) (FnFr.of_ok ks rfl (by simp [noRoRows, noRoItem, noRoRow, noRoL, noRo, tkR, tkAv])) (by simp only [noIdR_ok, argOkL, argOk, allOk, argOkN, List.drop_zero, lk, reduceIte, reduceCtorEq, Nat.reduceEqDiff, Option.some.injEq, Item.row.injEq, Item.box.injEq, AV.ro.injEq, exists_eq_left, exists_and_left, exists_eq_left', exists_eq_right, and_assoc, and_true, true_and, List.cons.injEq, exists_eq', exists_eq]) (by simp [outOk, argOkL, allOk, argOk, argOkN, lk, noIdR_ok, tkR]) rfl ?_
    have hf := @read_fixed D hg (swL [m]) 200 r
    have hTn := toks_ne hrn
    have k1 := fun h => correct_ok r h D hg (by omega) [m] 200 0 (by unfold corrErr; rw [if_pos hE]; rfl) (csAll (corrW D (swL [m]) 200) (toks r [] [])) (by rw [if_pos rfl])
    have k2 := bestW_ok D hg (by omega) [m] r 200 _ rfl
    have kH := hasD_ok D (wsD D) r
    rw [hms] at k1 k2
    generalize toks r [] [] = T at *
    obtain ⟨x, T', rfl⟩ := List.exists_cons_of_ne_nil hTn
    obtain ⟨xt, xb⟩ := x
    cases T' with
    | cons y T' =>
      have hll : ¬ (((T'.length + 1 + 1 : Nat) : Int) = 1) := by omega
      (repeat' first | with_reducible (first | intro _ | refine rc ?_ | refine rl ?_ | refine rh ?_ | refine ru ?_ | refine rt ?_ | refine rf ?_ | refine rs ?_ | refine And.intro ?_ ?_) | omega | simp (maxSteps := 1000000) only [go_sem, simprocAttr, ↓reduceIte, tkR, List.map_cons, List.length_cons, List.length_map, List.getD_cons_zero, tkAv, elemA, hll, not_false_eq_true, or_true, true_or, decide_true, Bool.true_or, Bool.or_true])
      refine Ret.auto 0 ?_ rfl ?_ <;> simp only [go_sem, reduceCtorEq, reduceIte, Nat.reduceEqDiff, Nat.reduceLT, Nat.reduceLeDiff, Int.natCast_succ, Post]
    | nil =>
      cases xb with
      | false =>
        (repeat' first | with_reducible (first | intro _ | refine rc ?_ | refine rl ?_ | refine rh ?_ | refine ru ?_ | refine rt ?_ | refine rf ?_ | refine rs ?_ | refine And.intro ?_ ?_) | omega | simp (maxSteps := 1000000) only [go_sem, simprocAttr, ↓reduceIte, tkR, List.map_cons, List.map_nil, List.length_cons, List.length_nil, List.getD_cons_zero, tkAv, elemA, Bool.true_or, Bool.or_true])
        refine Ret.auto 0 ?_ rfl ?_ <;> simp only [go_sem, reduceCtorEq, reduceIte, Nat.reduceEqDiff, Nat.reduceLT, Nat.reduceLeDiff, Int.natCast_succ, Post]
      | true =>
        (repeat' first | with_reducible (first | intro _ | refine rc ?_ | refine rl ?_ | refine rh ?_ | refine ru ?_ | refine rt ?_ | refine rf ?_ | refine rs ?_ | refine And.intro ?_ ?_) | omega | simp (maxSteps := 1000000) only [go_sem, simprocAttr, ↓reduceIte, tkR, List.map_cons, List.map_nil, List.length_cons, List.length_nil, List.getD_cons_zero, tkAv, elemA])
        case' refine_2 => refine Ret.auto 0 ?_ rfl ?_ <;> simp only [go_sem, reduceCtorEq, reduceIte, Nat.reduceEqDiff, Nat.reduceLT, Nat.reduceLeDiff, Int.natCast_succ, Post]
        have hup : upI r 0 < 0 := by omega
        by_cases hH : 0 < cntD D r
        · rw [decide_eq_true hH] at kH
          refine VcCall.k (kH) ?_
          (repeat' first | with_reducible (first | intro _ | refine rc ?_ | refine rl ?_ | refine rh ?_ | refine ru ?_ | refine rt ?_ | refine rf ?_ | refine rs ?_ | refine And.intro ?_ ?_) | omega | simp (maxSteps := 1000000) only [go_sem, simprocAttr, ↓reduceIte])
          refine Ret.auto 0 ?_ rfl ?_ <;> simp only [go_sem, reduceCtorEq, reduceIte, Nat.reduceEqDiff, Nat.reduceLT, Nat.reduceLeDiff, Int.natCast_succ, Post]
        rw [decide_eq_false hH] at kH
        obtain ⟨hw, hc⟩ := hf rfl hup hH
        have hrl2 := (isWd_partsT hw).2.1
        have k1 := k1 (by omega)
        rw [bestOut_near hE (by omega) (by omega)] at k2
        rw [hc] at k1
        refine VcCall.k (kH) ?_
        (repeat' first | with_reducible (first | intro _ | refine rc ?_ | refine rl ?_ | refine rh ?_ | refine ru ?_ | refine rt ?_ | refine rf ?_ | refine rs ?_ | refine And.intro ?_ ?_) | omega | simp (maxSteps := 1000000) only [go_sem, simprocAttr, ↓reduceIte])
        cases hb : bestG (nearL D (swL [m]) r 200) with
        | none =>
          rw [hb] at k1 k2
          dsimp only at k1 k2
          refine VcCall.k (k2) ?_
          (repeat' first | with_reducible (first | intro _ | refine rc ?_ | refine rl ?_ | refine rh ?_ | refine ru ?_ | refine rt ?_ | refine rf ?_ | refine rs ?_ | refine And.intro ?_ ?_) | omega | simp (maxSteps := 1000000) only [go_sem, simprocAttr, ↓reduceIte])
          refine VcCall.ro (.tup [.str r, .ro (fxR []), .int .i64 0]) (FnFr.of_ok k1 rfl (by simp [noRoRows, noRoItem, noRoRow, noRoL, noRo, fxR, Fx.av])) (by simp only [noIdR_ok, argOkL, argOk, allOk, argOkN, List.drop_zero, lk, reduceIte, reduceCtorEq, Nat.reduceEqDiff, Option.some.injEq, Item.row.injEq, Item.box.injEq, AV.ro.injEq, exists_eq_left, exists_and_left, exists_eq_left', exists_eq_right, and_assoc, and_true, true_and, List.cons.injEq, exists_eq', exists_eq]) (by simp [outOk, argOkL, allOk, argOk, argOkN, lk, noIdR_ok, fxR]) rfl ?_
          (repeat' first | with_reducible (first | intro _ | refine rc ?_ | refine rl ?_ | refine rh ?_ | refine ru ?_ | refine rt ?_ | refine rf ?_ | refine rs ?_ | refine And.intro ?_ ?_) | omega | simp (maxSteps := 1000000) only [go_sem, simprocAttr, ↓reduceIte, fxR, List.map_nil, List.length_nil])
          refine Ret.auto 0 ?_ rfl ?_ <;> simp only [go_sem, reduceCtorEq, reduceIte, Nat.reduceEqDiff, Nat.reduceLT, Nat.reduceLeDiff, Int.natCast_succ, Post]
        | some g =>
          rw [hb] at k1 k2
          dsimp only at k1 k2
          refine VcCall.k (k2) ?_
          (repeat' first | with_reducible (first | intro _ | refine rc ?_ | refine rl ?_ | refine rh ?_ | refine ru ?_ | refine rt ?_ | refine rf ?_ | refine rs ?_ | refine And.intro ?_ ?_) | omega | simp (maxSteps := 1000000) only [go_sem, simprocAttr, ↓reduceIte])
          refine VcCall.ro (.tup [.str g.t, .ro (fxR [⟨0, r, g.t⟩]), .int .i64 0]) (FnFr.of_ok k1 rfl (by simp [noRoRows, noRoItem, noRoRow, noRoL, noRo, fxR, Fx.av])) (by simp only [noIdR_ok, argOkL, argOk, allOk, argOkN, List.drop_zero, lk, reduceIte, reduceCtorEq, Nat.reduceEqDiff, Option.some.injEq, Item.row.injEq, Item.box.injEq, AV.ro.injEq, exists_eq_left, exists_and_left, exists_eq_left', exists_eq_right, and_assoc, and_true, true_and, List.cons.injEq, exists_eq', exists_eq]) (by simp [outOk, argOkL, allOk, argOk, argOkN, lk, noIdR_ok, fxR]) rfl ?_
          (repeat' first | with_reducible (first | intro _ | refine rc ?_ | refine rl ?_ | refine rh ?_ | refine ru ?_ | refine rt ?_ | refine rf ?_ | refine rs ?_ | refine And.intro ?_ ?_) | omega | simp (maxSteps := 1000000) only [go_sem, simprocAttr, ↓reduceIte, fxR, List.map_nil, List.map_cons, List.length_cons, List.length_nil, List.getD_cons_zero, elemA, Fx.av])
          refine Ret.auto 0 ?_ rfl ?_ <;> simp only [go_sem, reduceCtorEq, reduceIte, Nat.reduceEqDiff, Nat.reduceLT, Nat.reduceLeDiff, Int.natCast_succ, Post]
end Go.Fv.Y
