/-
  A part of the proof of the claim: walks over the program's functions and the plain laws that these need. No condition of its own.
-/
import Derived.Test.YtmdaiceacfgkpaaGreatDoorYGuessesCardPart2
import Derived.Test.YtmdaiceacfgkpaaGreatDoorYGuessesCardPart4
import Derived.Test.YtmdaiceacfgkpaaGreatDoorYGuessesCardPart5
import Derived.Test.YtmdaiceacfgkpaaGreatDoorYGuessesCardPart6
import Derived.Sort.Walk0
/- The walks of near and Near, of the program and of the reference. -/
namespace Go.Fv.Y
open Go Go.Proofs
set_option linter.unusedSimpArgs false
set_option linter.unusedVariables false
set_option linter.unnecessarySimpa false
set_option maxRecDepth 8000

theorem isWd_l40 {s : Bytes} (h : isWd s = true) : s.length ≤ 40 := by
  unfold isWd at h
  simp only [Bool.and_eq_true, decide_eq_true_eq] at h
  exact h.1.1.1.2
theorem gs_snoc (l : List Gs) (t : Bytes) (d c : Int) : (l ++ [(⟨t, d, c⟩ : Gs)]).map Gs.av = l.map Gs.av ++ [[.str t, .int .i64 d, .int .i64 c]] := by simp [Gs.av]
theorem gs_ok {D : List Wd} (hg : GoodD D) {sw : List Sw} (hsw : GoodSw sw) {w : Bytes} (hw : w.length ≤ 1000) {most : Int} {ws : List Bytes} (hws : ∀ x, x ∈ ws → x ∈ wsD D) : ∀ x, x ∈ gsAll D sw w most ws → GsOk x := fun x hx => by
  obtain ⟨h1, h2, h3, _⟩ := mem_gsAll hx
  have h4 := hws _ h1
  have hl := isWd_l40 (ws_isWd hg h4)
  have hb := dist_bd hsw _ w x.t (Nat.le_refl _)
  obtain ⟨y, hy, e⟩ := List.mem_map.1 (ws_mem.1 h4)
  have hc := cntD_mem hg.nd hy
  have hyb := (hg.wd y hy).2
  rw [e] at hc
  exact ⟨by omega, by omega, by omega⟩
set_option maxHeartbeats 8000000 in
theorem near_ok (D : List Wd) (hg : GoodD D) (hl : D.length < 40) (sw : List Sw) (hsw : GoodSw sw) (hswl : sw.length ≤ 4000) (w : Bytes) (hw : w.length ≤ 1000) (most : Int) :
    FnOk Tryz.prog 50 [.cell [.mp (dKs D) (dVs D), .ro (.strs (wsD D))], .str w, .mp (kgKs (grp [] sw)) (kgVs (grp [] sw)), .int .i64 most] (.own 0) [(0, .row 41 (gsR (nearL D sw w most)))] := by
  have hwl := ws_len D
  have hst := gsAll_stab D sw w most (ws_lt hg)
  have hgl := gsAll_len D sw w most (wsD D)
  have kS := sortStable_io 91 near1_ok (gsAll D sw w most (wsD D)) (by omega) hst
  have h40 : ∀ x, x ∈ wsD D → x.length ≤ 40 := fun x hx => isWd_l40 (ws_isWd hg hx)
  have htk : ∀ i, i < D.length → gsAll D sw w most ((wsD D).take (i + 1)) = gsAll D sw w most ((wsD D).take i) ++ gsOf D sw w most ((wsD D).getD i []) := fun i hi => gsAll_take D sw w most (by omega)
  have hgi : ∀ i, i ≤ D.length → (gsAll D sw w most ((wsD D).take i)).length ≤ 40 := fun i hi => by
    have := gsAll_len D sw w most ((wsD D).take i)
    rw [List.length_take] at this; omega
  have hall : gsAll D sw w most ((wsD D).take D.length) = gsAll D sw w most (wsD D) := by rw [← hwl, List.take_length]
  have e4 := isI_d D
  have e5 : KeysT Tryz.prog 9 (dKs D) := keysT_d (by kernel_rfl) _
  have e1 := getI_d D
  have hga0 : gsAll D sw w most [] = [] := rfl
  unfold nearL
  refine FnOk.of_vc Tryz.func50 rfl (by decide) (by simp [Tryz.f50]) [.tmp 8] rfl fun w0 T0 _ => ?_
  simp only [Tryz.f50, argEnv]
  generalize hws : wsD D = ws at *
  (repeat' first | with_reducible (first | intro _ | refine rc ?_ | refine rl ?_ | refine rh ?_ | refine rt ?_ | refine rf ?_ | refine rs ?_ | refine And.intro ?_ ?_) | omega | simp (maxSteps := 1000000) only [go_sem, simprocAttr, ↓reduceIte])
  refine VcLoop.intro (fun i : Nat => ⟨47, [(18, .int .i64 i), (17, .int .i64 D.length), (16, .ro (.strs ws)), (9, .own 0), (0, .cell [.mp (dKs D) (dVs D), .ro (.strs ws)]), (1, .str w), (2, .mp (kgKs (grp [] sw)) (kgVs (grp [] sw))), (3, .int .i64 most)], [(0, .row 41 (gsR (gsAll D sw w most (ws.take i))))], 1⟩) (fun i => i ≤ D.length) (fun i => D.length - i) 0 ?_ (Nat.zero_le _) fun i hi => ?_
  · refine Ent.auto0 rfl ?_ ?_ <;> simp only [go_sem, reduceCtorEq, reduceIte, Nat.reduceEqDiff, Nat.reduceLT, Nat.reduceLeDiff, Int.natCast_succ, hwl, gsR, List.take_zero, hga0, List.map_nil]
  by_cases hlt : i < D.length
  · have hxl := h40 (ws.getD i []) (by rw [getD_lt (by omega)]; exact List.getElem_mem _)
    have kT := table_ok sw hsw hswl w (ws.getD i []) (by omega) (by omega)
    have htl := tab_len sw w (ws.getD i []) 0
    have ht0 := tab_first sw w (ws.getD i [])
    have hpos : 0 < (w.length + 1) * ((ws.getD i []).length + 1) := Nat.mul_pos (by omega) (by omega)
    have hst := htk i hlt
    have hgl1 := hgi i (by omega)
    unfold gsOf at hst
    generalize hx : ws.getD i [] = x at *
    have e1 := e1 x
    generalize hG : gsAll D sw w most (ws.take i) = G at *
    generalize hG2 : gsAll D sw w most (ws.take (i + 1)) = G2 at *
    generalize tab sw w x 0 = tb at *
    generalize dist sw w x = dd at *
    (repeat' first | with_reducible (first | intro _ | refine rc ?_ | refine rl ?_ | refine rh ?_ | refine rt ?_ | refine rf ?_ | refine rs ?_ | refine And.intro ?_ ?_) | omega | simp (maxSteps := 1000000) only [go_sem, simprocAttr, ↓reduceIte, hwl, hx])
    refine VcCall.fr (FnFr.of_ok kT rfl rfl) (by simp only [noIdR_ok, argOkL, argOk, allOk, argOkN, List.drop_zero, lk, reduceIte, reduceCtorEq, Nat.reduceEqDiff, Option.some.injEq, Item.row.injEq, Item.box.injEq, AV.ro.injEq, exists_eq_left, exists_and_left, exists_eq_left', exists_eq_right, and_assoc, and_true, true_and, List.cons.injEq, exists_eq', exists_eq]) 1 rfl (by simp [rowsB, Item.below]) ?_
    by_cases hd : dd ≤ most
    · rw [if_pos hd] at hst
      have hm : G2.map Gs.av = G.map Gs.av ++ [[.str x, .int .i64 dd, .int .i64 (cntD D x)]] := by rw [hst, gs_snoc]
      (repeat' first | with_reducible (first | intro _ | refine rc ?_ | refine rl ?_ | refine rh ?_ | refine rt ?_ | refine rf ?_ | refine rs ?_ | refine And.intro ?_ ?_) | omega | simp (maxSteps := 1000000) only [go_sem, simprocAttr, ↓reduceIte, htl, elemA, ht0, Int.toNat_zero, hd, e1, e4, e5, gsR, List.length_map])
      refine ⟨i + 1, Ent.auto0 rfl ?_ ?_, by omega, by omega⟩ <;> simp only [go_sem, reduceCtorEq, reduceIte, Nat.reduceEqDiff, Nat.reduceLT, Nat.reduceLeDiff, Int.natCast_succ, gsR, hG2, hm]
    · rw [if_neg hd, List.append_nil] at hst
      (repeat' first | with_reducible (first | intro _ | refine rc ?_ | refine rl ?_ | refine rh ?_ | refine rt ?_ | refine rf ?_ | refine rs ?_ | refine And.intro ?_ ?_) | omega | simp (maxSteps := 1000000) only [go_sem, simprocAttr, ↓reduceIte, htl, elemA, ht0, Int.toNat_zero, hd, gsR, List.length_map])
      refine ⟨i + 1, Ent.auto0 rfl ?_ ?_, by omega, by omega⟩ <;> simp only [go_sem, reduceCtorEq, reduceIte, Nat.reduceEqDiff, Nat.reduceLT, Nat.reduceLeDiff, Int.natCast_succ, gsR, hG2, hst]
  · have e : i = D.length := by omega
    subst e
    rw [hall]
    (repeat' first | with_reducible (first | intro _ | refine rc ?_ | refine rl ?_ | refine rh ?_ | refine rt ?_ | refine rf ?_ | refine rs ?_ | refine And.intro ?_ ?_) | omega | simp (maxSteps := 1000000) only [go_sem, simprocAttr, ↓reduceIte, hwl])
    refine VcCall.io [0] kS (by decide) (by simp [renL, ren, ioN]) rfl (by simp [subOk, ioN, lk, Item.ren, Item.below, gsR, renR_ok, belowR_ok]) covG1 1 (by decide) rfl (by simp [rowsB, Item.below, gsR, belowR_ok]) ?_
    (repeat' first | with_reducible (first | intro _ | refine rc ?_ | refine rl ?_ | refine rh ?_ | refine rt ?_ | refine rf ?_ | refine rs ?_ | refine And.intro ?_ ?_) | omega | simp (maxSteps := 1000000) only [go_sem, simprocAttr, ↓reduceIte, S.ioS, ioRows, ioN, delL, Item.ren, gsR, renR_ok, List.length_cons, List.length_nil, List.getElem?_cons_zero, List.getElem?_cons_succ, List.getElem?_nil, List.cons_append, List.nil_append, Nat.reduceAdd, Nat.sub_self, Nat.add_zero, List.filter])
    refine Ret.auto 1 ?_ rfl ?_ <;> simp only [go_sem, reduceCtorEq, reduceIte, Nat.reduceEqDiff, Nat.reduceLT, Nat.reduceLeDiff, Int.natCast_succ, Post, gsR]
end Go.Fv.Y

/- Near and its reference. -/
namespace Go.Fv.Y
open Go Go.Proofs
set_option linter.unusedSimpArgs false
set_option linter.unusedVariables false
set_option linter.unnecessarySimpa false
set_option maxRecDepth 8000

theorem badMost_ok (most : Int) : FnOk Tryz.prog 48 [.int .i64 most] (.bool (decide (most < 0 ∨ 10000 < most))) [] := by
  refine FnOk.of_vc Tryz.func48 rfl (by decide) (by simp [Tryz.f48]) [.tmp 2] rfl fun w0 T0 _ => ?_
  simp only [Tryz.f48, argEnv]
  (repeat' first | with_reducible (first | intro _ | refine rc ?_ | refine rl ?_ | refine rh ?_ | refine rt ?_ | refine rf ?_ | refine rs ?_ | refine And.intro ?_ ?_) | omega | simp (maxSteps := 1000000) only [go_sem, simprocAttr, ↓reduceIte])
  refine Ret.auto 0 ?_ rfl ?_ <;> simp only [go_sem, reduceCtorEq, reduceIte, Nat.reduceEqDiff, Nat.reduceLT, Nat.reduceLeDiff, Int.natCast_succ, Post]
theorem nearError_ok (l : List Mx) (w : Bytes) (most : Int) : FnOk Tryz.prog 52 [.str w, .ro (mxs l), .int .i64 most] (.int .i64 (nearErr l w most)) [] := by
  have k := mixesError_ok l
  unfold nearErr
  refine FnOk.of_vc Tryz.func52 rfl (by decide) (by simp [Tryz.f52]) [.tmp 6] rfl fun w0 T0 _ => ?_
  simp only [Tryz.f52, argEnv]
  by_cases h1 : most < 0 ∨ 10000 < most
  · rw [if_pos h1]
    (repeat' first | with_reducible (first | intro _ | refine rc ?_ | refine rl ?_ | refine rh ?_ | refine rt ?_ | refine rf ?_ | refine rs ?_ | refine And.intro ?_ ?_) | omega | simp (maxSteps := 1000000) only [go_sem, simprocAttr, ↓reduceIte, h1])
    refine Ret.auto 0 ?_ rfl ?_ <;> simp only [go_sem, reduceCtorEq, reduceIte, Nat.reduceEqDiff, Nat.reduceLT, Nat.reduceLeDiff, Int.natCast_succ, Post]
  rw [if_neg h1]
  by_cases h2 : 200 < w.length
  · rw [if_pos h2]
    (repeat' first | with_reducible (first | intro _ | refine rc ?_ | refine rl ?_ | refine rh ?_ | refine rt ?_ | refine rf ?_ | refine rs ?_ | refine And.intro ?_ ?_) | omega | simp (maxSteps := 1000000) only [go_sem, simprocAttr, ↓reduceIte, h1])
    refine Ret.auto 0 ?_ rfl ?_ <;> simp only [go_sem, reduceCtorEq, reduceIte, Nat.reduceEqDiff, Nat.reduceLT, Nat.reduceLeDiff, Int.natCast_succ, Post]
  · rw [if_neg h2]
    (repeat' first | with_reducible (first | intro _ | refine rc ?_ | refine rl ?_ | refine rh ?_ | refine rt ?_ | refine rf ?_ | refine rs ?_ | refine And.intro ?_ ?_) | omega | simp (maxSteps := 1000000) only [go_sem, simprocAttr, ↓reduceIte, h1])
    refine VcCall.k (k) ?_
    (repeat' first | with_reducible (first | intro _ | refine rc ?_ | refine rl ?_ | refine rh ?_ | refine rt ?_ | refine rf ?_ | refine rs ?_ | refine And.intro ?_ ?_) | omega | simp (maxSteps := 1000000) only [go_sem, simprocAttr, ↓reduceIte])
    refine Ret.auto 0 ?_ rfl ?_ <;> simp only [go_sem, reduceCtorEq, reduceIte, Nat.reduceEqDiff, Nat.reduceLT, Nat.reduceLeDiff, Int.natCast_succ, Post]
def nearOut (D : List Wd) (l : List Mx) (w : Bytes) (most : Int) : List Gs := if nearErr l w most = 0 then nearL D (swL l) w most else []
theorem nearErr_zero {l : List Mx} {w : Bytes} {most : Int} (h : nearErr l w most = 0) : ¬ (most < 0 ∨ 10000 < most) ∧ ¬ 200 < w.length ∧ mixErr l = 0 := by
  unfold nearErr at h
  by_cases h1 : most < 0 ∨ 10000 < most
  · rw [if_pos h1] at h; exact absurd h (by decide)
  rw [if_neg h1] at h
  by_cases h2 : 200 < w.length
  · rw [if_pos h2] at h; exact absurd h (by decide)
  rw [if_neg h2] at h
  exact ⟨h1, h2, h⟩
set_option maxHeartbeats 4000000 in
theorem nearW_ok (D : List Wd) (hg : GoodD D) (hl : D.length < 40) (l : List Mx) (w : Bytes) (most : Int) (E : Int) (hE : nearErr l w most = E) (O : List Gs) (hO : nearOut D l w most = O) :
    FnOk Tryz.prog 12 [.cell [.mp (dKs D) (dVs D), .ro (.strs (wsD D))], .str w, .ro (mxs l), .int .i64 most] (.tup [.own 0, .int .i64 E]) [(0, .row 41 (gsR O))] := by
  have kb := badMost_ok most
  have kc := checkWords_ok l [w] (by simp)
  have hw1 : wordsErr l [w] = if 200 < w.length then 4 else mixErr l := by unfold wordsErr; by_cases h : 200 < w.length <;> simp [h]
  rw [hw1] at kc
  unfold nearOut at hO
  rw [hE] at hO
  refine FnOk.of_vc Tryz.func12 rfl (by decide) (by simp [Tryz.f12]) [.tmp 8, .tmp 9] rfl fun w0 T0 _ => ?_
  simp only [Tryz.f12, argEnv]
  by_cases h1 : most < 0 ∨ 10000 < most
  · have e3 : E = 3 := by rw [← hE]; unfold nearErr; rw [if_pos h1]
    subst e3
    rw [if_neg (by decide)] at hO
    subst hO
    rw [decide_eq_true h1] at kb
    (repeat' first | with_reducible (first | intro _ | refine rc ?_ | refine rl ?_ | refine rh ?_ | refine rt ?_ | refine rf ?_ | refine rs ?_ | refine And.intro ?_ ?_) | omega | simp (maxSteps := 1000000) only [go_sem, simprocAttr, ↓reduceIte])
    refine VcCall.k (kb) ?_
    (repeat' first | with_reducible (first | intro _ | refine rc ?_ | refine rl ?_ | refine rh ?_ | refine rt ?_ | refine rf ?_ | refine rs ?_ | refine And.intro ?_ ?_) | omega | simp (maxSteps := 1000000) only [go_sem, simprocAttr, ↓reduceIte])
    refine Ret.auto 1 ?_ rfl ?_ <;> simp only [go_sem, reduceCtorEq, reduceIte, Nat.reduceEqDiff, Nat.reduceLT, Nat.reduceLeDiff, Int.natCast_succ, Post, gsR, List.map_nil]
  rw [decide_eq_false h1] at kb
  have hE2 : (if 200 < w.length then 4 else mixErr l) = E := by rw [← hE]; unfold nearErr; rw [if_neg h1]
  rw [hE2] at kc
  by_cases h0 : E = 0
  · subst h0
    rw [if_pos rfl] at hO
    obtain ⟨_, h2, h3⟩ := nearErr_zero hE
    obtain ⟨g1, g2, g3⟩ := mix_good h3
    have hml := (mixErr_zero h3).1
    have k1 := swaps_ok l g3 (by omega)
    have k2 := near_ok D hg hl (swL l) g1 (by omega) w (by omega) most
    rw [hO] at k2
    (repeat' first | with_reducible (first | intro _ | refine rc ?_ | refine rl ?_ | refine rh ?_ | refine rt ?_ | refine rf ?_ | refine rs ?_ | refine And.intro ?_ ?_) | omega | simp (maxSteps := 1000000) only [go_sem, simprocAttr, ↓reduceIte])
    refine VcCall.k (kb) ?_
    (repeat' first | with_reducible (first | intro _ | refine rc ?_ | refine rl ?_ | refine rh ?_ | refine rt ?_ | refine rf ?_ | refine rs ?_ | refine And.intro ?_ ?_) | omega | simp (maxSteps := 1000000) only [go_sem, simprocAttr, ↓reduceIte])
    refine VcCall.k kc ?_
    (repeat' first | with_reducible (first | intro _ | refine rc ?_ | refine rl ?_ | refine rh ?_ | refine rt ?_ | refine rf ?_ | refine rs ?_ | refine And.intro ?_ ?_) | omega | simp (maxSteps := 1000000) only [go_sem, simprocAttr, ↓reduceIte])
    refine VcCall.ros (.mp (kgKs (grp [] (swL l))) (kgVs (grp [] (swL l)))) k1 (by simp only [noIdR_ok, argOkL, argOk, allOk, argOkN, List.drop_zero, lk, reduceIte, reduceCtorEq, Nat.reduceEqDiff, Option.some.injEq, Item.row.injEq, Item.box.injEq, AV.ro.injEq, exists_eq_left, exists_and_left, exists_eq_left', exists_eq_right, and_assoc, and_true, true_and, List.cons.injEq, exists_eq', exists_eq]) (by simp [outOk, argOk, argOkN]) rfl ?_
    (repeat' first | with_reducible (first | intro _ | refine rc ?_ | refine rl ?_ | refine rh ?_ | refine rt ?_ | refine rf ?_ | refine rs ?_ | refine And.intro ?_ ?_) | omega | simp (maxSteps := 1000000) only [go_sem, simprocAttr, ↓reduceIte])
    refine VcCall.fr (FnFr.of_ok k2 rfl (by simp [noRoRows, noRoItem, noRoRow, noRoL, noRo, gsR, Gs.av])) (by simp only [noIdR_ok, argOkL, argOk, allOk, argOkN, List.drop_zero, lk, reduceIte, reduceCtorEq, Nat.reduceEqDiff, Option.some.injEq, Item.row.injEq, Item.box.injEq, AV.ro.injEq, exists_eq_left, exists_and_left, exists_eq_left', exists_eq_right, and_assoc, and_true, true_and, List.cons.injEq, exists_eq', exists_eq]) 1 rfl (by simp [rowsB, Item.below, gsR, belowR_ok]) ?_
    (repeat' first | with_reducible (first | intro _ | refine rc ?_ | refine rl ?_ | refine rh ?_ | refine rt ?_ | refine rf ?_ | refine rs ?_ | refine And.intro ?_ ?_) | omega | simp (maxSteps := 1000000) only [go_sem, simprocAttr, ↓reduceIte, gsR])
    refine Ret.auto 1 ?_ rfl ?_ <;> simp only [go_sem, reduceCtorEq, reduceIte, Nat.reduceEqDiff, Nat.reduceLT, Nat.reduceLeDiff, Int.natCast_succ, Post, gsR]
  · rw [if_neg h0] at hO
    subst hO
    (repeat' first | with_reducible (first | intro _ | refine rc ?_ | refine rl ?_ | refine rh ?_ | refine rt ?_ | refine rf ?_ | refine rs ?_ | refine And.intro ?_ ?_) | omega | simp (maxSteps := 1000000) only [go_sem, simprocAttr, ↓reduceIte])
    refine VcCall.k (kb) ?_
    (repeat' first | with_reducible (first | intro _ | refine rc ?_ | refine rl ?_ | refine rh ?_ | refine rt ?_ | refine rf ?_ | refine rs ?_ | refine And.intro ?_ ?_) | omega | simp (maxSteps := 1000000) only [go_sem, simprocAttr, ↓reduceIte])
    refine VcCall.k kc ?_
    (repeat' first | with_reducible (first | intro _ | refine rc ?_ | refine rl ?_ | refine rh ?_ | refine rt ?_ | refine rf ?_ | refine rs ?_ | refine And.intro ?_ ?_) | omega | simp (maxSteps := 1000000) only [go_sem, simprocAttr, ↓reduceIte, h0])
    refine Ret.auto 1 ?_ rfl ?_ <;> simp only [go_sem, reduceCtorEq, reduceIte, Nat.reduceEqDiff, Nat.reduceLT, Nat.reduceLeDiff, Int.natCast_succ, Post, gsR, List.map_nil]
set_option maxHeartbeats 8000000 in
theorem refNear_ok (D : List Wd) (hg : GoodD D) (hl : D.length < 40) (l : List Mx) (w : Bytes) (most : Int) (E : Int) (hE : nearErr l w most = E) (O : List Gs) (hO : nearOut D l w most = O) :
    FnOk Tryz.prog 13 [.cell [.ro (wdR (sortW D))], .str w, .ro (mxs l), .int .i64 most] (.tup [.own 0, .int .i64 E]) [(0, .row 41 (gsR O))] := by
  have ke := nearError_ok l w most
  rw [hE] at ke
  unfold nearOut at hO
  rw [hE] at hO
  refine FnOk.of_vc Tryz.func13 rfl (by decide) (by simp [Tryz.f13]) [.tmp 8, .tmp 9] rfl fun w0 T0 _ => ?_
  simp only [Tryz.f13, argEnv]
  by_cases h0 : E = 0
  · subst h0
    rw [if_pos rfl] at hO
    obtain ⟨_, h2, h3⟩ := nearErr_zero hE
    obtain ⟨g1, g2, g3⟩ := mix_good h3
    have hml := (mixErr_zero h3).1
    have hwl := ws_len D
    have hsl : (sortW D).length = D.length := (sortW_perm D).length_eq
    have kS := sortGs_io (gsAll D (swL l) w most (wsD D)) (gs_ok hg g1 (by omega) (fun x hx => hx)) (by have := gsAll_len D (swL l) w most (wsD D); omega)
    unfold nearL at hO
    rw [hO] at kS
    have hel : ∀ i, i < D.length → (sortW D).getD i Wd.zero = ⟨(wsD D).getD i [], cntD D ((wsD D).getD i [])⟩ := fun i hi => by
      have hm : (sortW D).getD i Wd.zero ∈ D := by
        rw [getD_lt (by omega)]
        exact (sortW_perm D).mem_iff.1 (List.getElem_mem _)
      have hc := cntD_mem hg.nd hm
      have ht : (wsD D).getD i [] = ((sortW D).getD i Wd.zero).t := by
        rw [wsD_eq, List.getD_eq_getElem?_getD, List.getElem?_map, List.getElem?_eq_getElem (by omega), getD_lt (by omega)]; rfl
      rw [ht, hc]
    have h40 : ∀ i, i < D.length → ((wsD D).getD i []).length ≤ 40 := fun i hi => isWd_l40 (ws_isWd hg (by rw [getD_lt (by omega)]; exact List.getElem_mem _))
    have htk : ∀ i, i < D.length → gsAll D (swL l) w most ((wsD D).take (i + 1)) = gsAll D (swL l) w most ((wsD D).take i) ++ gsOf D (swL l) w most ((wsD D).getD i []) := fun i hi => gsAll_take D (swL l) w most (by omega)
    have hgi : ∀ i, i ≤ D.length → (gsAll D (swL l) w most ((wsD D).take i)).length ≤ 40 := fun i hi => by
      have := gsAll_len D (swL l) w most ((wsD D).take i)
      rw [List.length_take] at this; omega
    have hall : gsAll D (swL l) w most ((wsD D).take D.length) = gsAll D (swL l) w most (wsD D) := by rw [← hwl, List.take_length]
    have kR := fun x hx => refScript_ok l g1 (by omega) w x (by omega) hx
    clear hO
    have hga0 : gsAll D (swL l) w most [] = [] := rfl
    generalize wsD D = ws at *
    generalize hRW : sortW D = RW at *
    (repeat' first | with_reducible (first | intro _ | refine rc ?_ | refine rl ?_ | refine rh ?_ | refine rt ?_ | refine rf ?_ | refine rs ?_ | refine And.intro ?_ ?_) | omega | simp (maxSteps := 1000000) only [go_sem, simprocAttr, ↓reduceIte])
    refine VcCall.k (ke) ?_
    (repeat' first | with_reducible (first | intro _ | refine rc ?_ | refine rl ?_ | refine rh ?_ | refine rt ?_ | refine rf ?_ | refine rs ?_ | refine And.intro ?_ ?_) | omega | simp (maxSteps := 1000000) only [go_sem, simprocAttr, ↓reduceIte, hsl, List.length_map])
    refine VcLoop.intro (fun i : Nat => ⟨56, [(28, .int .i64 i), (27, .int .i64 D.length), (26, .ro (wdR RW)), (11, .own 0), (1, .str w), (2, .ro (mxs l)), (3, .int .i64 most)], [(0, .row 41 (gsR (gsAll D (swL l) w most (ws.take i))))], 1⟩) (fun i => i ≤ D.length) (fun i => D.length - i) 0 ?_ (Nat.zero_le _) fun i hi => ?_
    · refine Ent.auto0 rfl ?_ ?_ <;> simp only [go_sem, reduceCtorEq, reduceIte, Nat.reduceEqDiff, Nat.reduceLT, Nat.reduceLeDiff, Int.natCast_succ, gsR, List.take_zero, hga0, List.map_nil]
    by_cases hlt : i < D.length
    · have he := wd_elem RW (i := i) (by omega)
      rw [hel i hlt] at he
      have hx4 := h40 i hlt
      have kR := kR (ws.getD i []) (by omega)
      have hst := htk i hlt
      have hgl1 := hgi i (by omega)
      have hbd := dist_bd g1 _ w (ws.getD i []) (Nat.le_refl _)
      unfold gsOf at hst
      generalize hx : ws.getD i [] = x at *
      dsimp only at he
      generalize hG : gsAll D (swL l) w most (ws.take i) = G at *
      generalize hG2 : gsAll D (swL l) w most (ws.take (i + 1)) = G2 at *
      generalize script (swL l) 0 w x = sc at *
      generalize dist (swL l) w x = dd at *
      generalize cntD D x = cc at *
      (repeat' first | with_reducible (first | intro _ | refine rc ?_ | refine rl ?_ | refine rh ?_ | refine rt ?_ | refine rf ?_ | refine rs ?_ | refine And.intro ?_ ?_) | omega | simp (maxSteps := 1000000) only [go_sem, simprocAttr, ↓reduceIte, elemA, he, hsl, List.length_map])
      refine VcCall.fr (FnFr.of_ok kR rfl (by simp [noRoRows, noRoItem, noRoRow, noRoL, noRo, sls, Sl.av])) (by simp only [noIdR_ok, argOkL, argOk, allOk, argOkN, List.drop_zero, lk, reduceIte, reduceCtorEq, Nat.reduceEqDiff, Option.some.injEq, Item.row.injEq, Item.box.injEq, AV.ro.injEq, exists_eq_left, exists_and_left, exists_eq_left', exists_eq_right, and_assoc, and_true, true_and, List.cons.injEq, exists_eq', exists_eq]) 1 rfl (by simp [rowsB, Item.below, sls, belowR_ok]) ?_
      by_cases hd : dd ≤ most
      · rw [if_pos hd] at hst
        have hm : G2.map Gs.av = G.map Gs.av ++ [[.str x, .int .i64 dd, .int .i64 cc]] := by rw [hst, gs_snoc]
        (repeat' first | with_reducible (first | intro _ | refine rc ?_ | refine rl ?_ | refine rh ?_ | refine rt ?_ | refine rf ?_ | refine rs ?_ | refine And.intro ?_ ?_) | omega | simp (maxSteps := 1000000) only [go_sem, simprocAttr, ↓reduceIte, hd, gsR, List.length_map])
        refine ⟨i + 1, Ent.auto0 rfl ?_ ?_, by omega, by omega⟩ <;> simp only [go_sem, reduceCtorEq, reduceIte, Nat.reduceEqDiff, Nat.reduceLT, Nat.reduceLeDiff, Int.natCast_succ, gsR, hG2, hm]
      · rw [if_neg hd, List.append_nil] at hst
        (repeat' first | with_reducible (first | intro _ | refine rc ?_ | refine rl ?_ | refine rh ?_ | refine rt ?_ | refine rf ?_ | refine rs ?_ | refine And.intro ?_ ?_) | omega | simp (maxSteps := 1000000) only [go_sem, simprocAttr, ↓reduceIte, hd, gsR, List.length_map])
        refine ⟨i + 1, Ent.auto0 rfl ?_ ?_, by omega, by omega⟩ <;> simp only [go_sem, reduceCtorEq, reduceIte, Nat.reduceEqDiff, Nat.reduceLT, Nat.reduceLeDiff, Int.natCast_succ, gsR, hG2, hst]
    · have e : i = D.length := by omega
      subst e
      rw [hall]
      (repeat' first | with_reducible (first | intro _ | refine rc ?_ | refine rl ?_ | refine rh ?_ | refine rt ?_ | refine rf ?_ | refine rs ?_ | refine And.intro ?_ ?_) | omega | simp (maxSteps := 1000000) only [go_sem, simprocAttr, ↓reduceIte, hsl, List.length_map])
      refine VcCall.io [0] kS (by decide) (by simp [renL, ren, ioN]) rfl (by simp [subOk, ioN, lk, Item.ren, Item.below, gsR, renR_ok, belowR_ok]) covG1 1 (by decide) rfl (by simp [rowsB, Item.below, gsR, belowR_ok]) ?_
      (repeat' first | with_reducible (first | intro _ | refine rc ?_ | refine rl ?_ | refine rh ?_ | refine rt ?_ | refine rf ?_ | refine rs ?_ | refine And.intro ?_ ?_) | omega | simp (maxSteps := 1000000) only [go_sem, simprocAttr, ↓reduceIte, S.ioS, ioRows, ioN, delL, Item.ren, gsR, renR_ok, List.length_cons, List.length_nil, List.getElem?_cons_zero, List.getElem?_cons_succ, List.getElem?_nil, List.cons_append, List.nil_append, Nat.reduceAdd, Nat.sub_self, Nat.add_zero, List.filter])
      refine Ret.auto 1 ?_ rfl ?_ <;> simp only [go_sem, reduceCtorEq, reduceIte, Nat.reduceEqDiff, Nat.reduceLT, Nat.reduceLeDiff, Int.natCast_succ, Post, gsR]
  · rw [if_neg h0] at hO
    subst hO
    (repeat' first | with_reducible (first | intro _ | refine rc ?_ | refine rl ?_ | refine rh ?_ | refine rt ?_ | refine rf ?_ | refine rs ?_ | refine And.intro ?_ ?_) | omega | simp (maxSteps := 1000000) only [go_sem, simprocAttr, ↓reduceIte])
    refine VcCall.k (ke) ?_
    (repeat' first | with_reducible (first | intro _ | refine rc ?_ | refine rl ?_ | refine rh ?_ | refine rt ?_ | refine rf ?_ | refine rs ?_ | refine And.intro ?_ ?_) | omega | simp (maxSteps := 1000000) only [go_sem, simprocAttr, ↓reduceIte, h0])
    refine Ret.auto 1 ?_ rfl ?_ <;> simp only [go_sem, reduceCtorEq, reduceIte, Nat.reduceEqDiff, Nat.reduceLT, Nat.reduceLeDiff, Int.natCast_succ, Post, gsR, List.map_nil]
end Go.Fv.Y

/- Best, of the program and of the reference. -/
namespace Go.Fv.Y
open Go Go.Proofs
set_option linter.unusedSimpArgs false
set_option linter.unusedVariables false
set_option linter.unnecessarySimpa false
set_option maxRecDepth 8000

def gOr (o : Option Gs) : Gs := match o with | some g => g | none => Gs.zero
theorem bestG_two (x y : Gs) (r : List Gs) : bestG (x :: y :: r) = if x.d < y.d ∨ 2 * y.c ≤ x.c then some x else none := rfl
def gsBd (L : List Gs) : Prop := ∀ x, x ∈ L → GsOk x
set_option maxHeartbeats 4000000 in
theorem best_ok (L : List Gs) (hb : gsBd L) (g : Gs) (hg : gOr (bestG L) = g) (o : Bool) (ho : (bestG L).isSome = o) : FnOk Tryz.prog 58 [.ro (gsR L)] (.tup [.agg [.str g.t, .int .i64 g.d, .int .i64 g.c], .bool o]) [] := by
  refine FnOk.of_vc Tryz.func58 rfl (by decide) (by simp [Tryz.f58]) [.cell 2 41, .tmp 3] rfl fun w0 T0 _ => ?_
  simp only [Tryz.f58, argEnv]
  match L, hb, hg, ho with
  | [], hb, hg, ho =>
    subst hg ho
    (repeat' first | with_reducible (first | intro _ | refine rc ?_ | refine rl ?_ | refine rh ?_ | refine rt ?_ | refine rf ?_ | refine rs ?_ | refine And.intro ?_ ?_) | omega | simp (maxSteps := 1000000) only [go_sem, simprocAttr, ↓reduceIte, gsR, List.map_nil, List.length_nil])
    refine Ret.auto 0 ?_ rfl ?_ <;> simp only [go_sem, reduceCtorEq, reduceIte, Nat.reduceEqDiff, Nat.reduceLT, Nat.reduceLeDiff, Int.natCast_succ, Post, gOr, bestG, Gs.zero, Option.isSome]
  | [x], hb, hg, ho =>
    subst hg ho
    (repeat' first | with_reducible (first | intro _ | refine rc ?_ | refine rl ?_ | refine rh ?_ | refine rt ?_ | refine rf ?_ | refine rs ?_ | refine And.intro ?_ ?_) | omega | simp (maxSteps := 1000000) only [go_sem, simprocAttr, ↓reduceIte, gsR, List.map_cons, List.map_nil, List.length_cons, List.length_nil])
    refine VcDraw.lex [] [] (by kernel_rfl) (by kernel_rfl) ?_
    (repeat' first | with_reducible (first | intro _ | refine rc ?_ | refine rl ?_ | refine rh ?_ | refine rt ?_ | refine rf ?_ | refine rs ?_ | refine And.intro ?_ ?_) | omega | simp (maxSteps := 1000000) only [go_sem, simprocAttr, ↓reduceIte, gsR, elemA, List.map_cons, List.map_nil, List.length_cons, List.length_nil, List.getD_cons_zero, List.getD_cons_succ, List.getD_nil, List.drop_nil, Gs.av])
    refine QV.intro (.int .i64 0) ?_ ?_
    · (repeat' first | with_reducible (first | intro _ | refine rc ?_ | refine rl ?_ | refine rh ?_ | refine rt ?_ | refine rf ?_ | refine rs ?_ | refine And.intro ?_ ?_) | omega | simp (maxSteps := 1000000) only [go_sem, simprocAttr, ↓reduceIte, gsR, elemA, List.map_cons, List.map_nil, List.length_cons, List.length_nil, List.getD_cons_zero, List.getD_cons_succ, List.getD_nil, List.drop_nil, Gs.av])
    (repeat' first | with_reducible (first | intro _ | refine rc ?_ | refine rl ?_ | refine rh ?_ | refine rt ?_ | refine rf ?_ | refine rs ?_ | refine And.intro ?_ ?_) | omega | simp (maxSteps := 1000000) only [go_sem, simprocAttr, ↓reduceIte, gsR, elemA, List.map_cons, List.map_nil, List.length_cons, List.length_nil, List.getD_cons_zero, List.getD_cons_succ, List.getD_nil, List.drop_nil, Gs.av])
    refine QV.intro (.int .i64 0) ?_ ?_
    · (repeat' first | with_reducible (first | intro _ | refine rc ?_ | refine rl ?_ | refine rh ?_ | refine rt ?_ | refine rf ?_ | refine rs ?_ | refine And.intro ?_ ?_) | omega | simp (maxSteps := 1000000) only [go_sem, simprocAttr, ↓reduceIte, gsR, elemA, List.map_cons, List.map_nil, List.length_cons, List.length_nil, List.getD_cons_zero, List.getD_cons_succ, List.getD_nil, List.drop_nil, Gs.av])
    (repeat' first | with_reducible (first | intro _ | refine rc ?_ | refine rl ?_ | refine rh ?_ | refine rt ?_ | refine rf ?_ | refine rs ?_ | refine And.intro ?_ ?_) | omega | simp (maxSteps := 1000000) only [go_sem, simprocAttr, ↓reduceIte, gsR, elemA, List.map_cons, List.map_nil, List.length_cons, List.length_nil, List.getD_cons_zero, List.getD_cons_succ, List.getD_nil, List.drop_nil, Gs.av])
    refine Ret.auto 0 ?_ rfl ?_ <;> simp only [go_sem, reduceCtorEq, reduceIte, Nat.reduceEqDiff, Nat.reduceLT, Nat.reduceLeDiff, Int.natCast_succ, Post, gOr, bestG, Option.isSome]
  | x :: y :: r, hb, hg, ho =>
    have hne : ¬ ((r.length + 1 + 1 : Nat) : Int) = 1 := by omega
    have hx := hb x List.mem_cons_self
    have hy := hb y (List.mem_cons_of_mem _ List.mem_cons_self)
    unfold GsOk at hx hy
    rw [bestG_two] at hg ho
    by_cases h1 : x.d < y.d
    · rw [if_pos (Or.inl h1)] at hg ho
      subst hg ho
      (repeat' first | with_reducible (first | intro _ | refine rc ?_ | refine rl ?_ | refine rh ?_ | refine rt ?_ | refine rf ?_ | refine rs ?_ | refine And.intro ?_ ?_) | omega | simp (maxSteps := 1000000) only [go_sem, simprocAttr, ↓reduceIte, gsR, List.map_cons, List.length_cons, List.length_map])
      refine VcDraw.lex [] [] (by kernel_rfl) (by kernel_rfl) ?_
      (repeat' first | with_reducible (first | intro _ | refine rc ?_ | refine rl ?_ | refine rh ?_ | refine rt ?_ | refine rf ?_ | refine rs ?_ | refine And.intro ?_ ?_) | omega | simp (maxSteps := 1000000) only [go_sem, simprocAttr, ↓reduceIte, gsR, elemA, List.map_cons, List.length_cons, List.length_map, List.getD_cons_zero, List.getD_cons_succ, Gs.av, h1, hne, Bool.or_true, Bool.or_false])
      refine Ret.auto 0 ?_ rfl ?_ <;> simp only [go_sem, reduceCtorEq, reduceIte, Nat.reduceEqDiff, Nat.reduceLT, Nat.reduceLeDiff, Int.natCast_succ, Post, gOr, Option.isSome]
    by_cases h2 : 2 * y.c ≤ x.c
    · rw [if_pos (Or.inr h2)] at hg ho
      subst hg ho
      (repeat' first | with_reducible (first | intro _ | refine rc ?_ | refine rl ?_ | refine rh ?_ | refine rt ?_ | refine rf ?_ | refine rs ?_ | refine And.intro ?_ ?_) | omega | simp (maxSteps := 1000000) only [go_sem, simprocAttr, ↓reduceIte, gsR, List.map_cons, List.length_cons, List.length_map])
      refine VcDraw.lex [] [] (by kernel_rfl) (by kernel_rfl) ?_
      (repeat' first | with_reducible (first | intro _ | refine rc ?_ | refine rl ?_ | refine rh ?_ | refine rt ?_ | refine rf ?_ | refine rs ?_ | refine And.intro ?_ ?_) | omega | simp (maxSteps := 1000000) only [go_sem, simprocAttr, ↓reduceIte, gsR, elemA, List.map_cons, List.length_cons, List.length_map, List.getD_cons_zero, List.getD_cons_succ, Gs.av, h1, h2, hne, Bool.or_true, Bool.or_false])
      refine Ret.auto 0 ?_ rfl ?_ <;> simp only [go_sem, reduceCtorEq, reduceIte, Nat.reduceEqDiff, Nat.reduceLT, Nat.reduceLeDiff, Int.natCast_succ, Post, gOr, Option.isSome]
    · rw [if_neg (fun h => h.elim h1 h2)] at hg ho
      subst hg ho
      (repeat' first | with_reducible (first | intro _ | refine rc ?_ | refine rl ?_ | refine rh ?_ | refine rt ?_ | refine rf ?_ | refine rs ?_ | refine And.intro ?_ ?_) | omega | simp (maxSteps := 1000000) only [go_sem, simprocAttr, ↓reduceIte, gsR, List.map_cons, List.length_cons, List.length_map])
      refine VcDraw.lex [] [] (by kernel_rfl) (by kernel_rfl) ?_
      (repeat' first | with_reducible (first | intro _ | refine rc ?_ | refine rl ?_ | refine rh ?_ | refine rt ?_ | refine rf ?_ | refine rs ?_ | refine And.intro ?_ ?_) | omega | simp (maxSteps := 1000000) only [go_sem, simprocAttr, ↓reduceIte, gsR, elemA, List.map_cons, List.length_cons, List.length_map, List.getD_cons_zero, List.getD_cons_succ, Gs.av, h1, h2, hne, Bool.or_true, Bool.or_false])
      refine Ret.auto 0 ?_ rfl ?_ <;> simp only [go_sem, reduceCtorEq, reduceIte, Nat.reduceEqDiff, Nat.reduceLT, Nat.reduceLeDiff, Int.natCast_succ, Post, gOr, Gs.zero, Option.isSome]
end Go.Fv.Y

/- Best, of the program and of the reference: the methods. -/
namespace Go.Fv.Y
open Go Go.Proofs
set_option linter.unusedSimpArgs false
set_option linter.unusedVariables false
set_option linter.unnecessarySimpa false
set_option maxRecDepth 8000

structure BO where
  t : Bytes
  d : Int
  e : Int
def bestOut (O : List Gs) (E : Int) : BO := if E = 0 then (match bestG O with | none => ⟨[], 0, 10⟩ | some g => ⟨g.t, g.d, 0⟩) else ⟨[], 0, E⟩
theorem near_bd {D : List Wd} (hg : GoodD D) {l : List Mx} {w : Bytes} {most : Int} : gsBd (nearOut D l w most) := fun x hx => by
  unfold nearOut at hx
  split at hx
  · rename_i h0
    obtain ⟨_, h2, h3⟩ := nearErr_zero h0
    obtain ⟨g1, _, _⟩ := mix_good h3
    unfold nearL at hx
    exact gs_ok hg g1 (by omega) (fun x hx => hx) x ((sortG_perm _).mem_iff.1 hx)
  · cases hx
theorem near_srt {D : List Wd} {l : List Mx} {w : Bytes} {most : Int} : Srt (nearOut D l w most) := by
  unfold nearOut
  split
  · exact sortG_srt _
  · exact List.Pairwise.nil
set_option maxHeartbeats 4000000 in
theorem bestW_ok (D : List Wd) (hg : GoodD D) (hl : D.length < 40) (l : List Mx) (w : Bytes) (most : Int) (b : BO) (hb : bestOut (nearOut D l w most) (nearErr l w most) = b) :
    FnOk Tryz.prog 15 [.cell [.mp (dKs D) (dVs D), .ro (.strs (wsD D))], .str w, .ro (mxs l), .int .i64 most] (.tup [.str b.t, .int .i64 b.d, .int .i64 b.e]) [] := by
  have kN := nearW_ok D hg hl l w most _ rfl _ rfl
  have kB := best_ok (nearOut D l w most) (near_bd hg) _ rfl _ rfl
  generalize nearErr l w most = E at *
  generalize nearOut D l w most = O at *
  unfold bestOut at hb
  refine FnOk.of_vc Tryz.func15 rfl (by decide) (by simp [Tryz.f15]) [.tmp 8, .tmp 9, .tmp 10] rfl fun w0 T0 _ => ?_
  simp only [Tryz.f15, argEnv]
  (repeat' first | with_reducible (first | intro _ | refine rc ?_ | refine rl ?_ | refine rh ?_ | refine rt ?_ | refine rf ?_ | refine rs ?_ | refine And.intro ?_ ?_) | omega | simp (maxSteps := 1000000) only [go_sem, simprocAttr, ↓reduceIte])
  refine VcCall.ro (.tup [.ro (gsR O), .int .i64 E]) (FnFr.of_ok kN rfl (by simp [noRoRows, noRoItem, noRoRow, noRoL, noRo, gsR, Gs.av])) (by simp only [noIdR_ok, argOkL, argOk, allOk, argOkN, List.drop_zero, lk, reduceIte, reduceCtorEq, Nat.reduceEqDiff, Option.some.injEq, Item.row.injEq, Item.box.injEq, AV.ro.injEq, exists_eq_left, exists_and_left, exists_eq_left', exists_eq_right, and_assoc, and_true, true_and, List.cons.injEq, exists_eq', exists_eq]) (by simp [outOk, argOkL, allOk, argOk, argOkN, lk, noIdR_ok, gsR]) rfl ?_
  by_cases h0 : E = 0
  · subst h0
    rw [if_pos rfl] at hb
    cases hG : bestG O with
    | none =>
      rw [hG] at hb kB
      subst hb
      (repeat' first | with_reducible (first | intro _ | refine rc ?_ | refine rl ?_ | refine rh ?_ | refine rt ?_ | refine rf ?_ | refine rs ?_ | refine And.intro ?_ ?_) | omega | simp (maxSteps := 1000000) only [go_sem, simprocAttr, ↓reduceIte])
      refine VcCall.k (kB) ?_
      (repeat' first | with_reducible (first | intro _ | refine rc ?_ | refine rl ?_ | refine rh ?_ | refine rt ?_ | refine rf ?_ | refine rs ?_ | refine And.intro ?_ ?_) | omega | simp (maxSteps := 1000000) only [go_sem, simprocAttr, ↓reduceIte, gOr, Gs.zero, Option.isSome])
      refine Ret.auto 0 ?_ rfl ?_ <;> simp only [go_sem, reduceCtorEq, reduceIte, Nat.reduceEqDiff, Nat.reduceLT, Nat.reduceLeDiff, Int.natCast_succ, Post]
    | some g =>
      rw [hG] at hb kB
      subst hb
      (repeat' first | with_reducible (first | intro _ | refine rc ?_ | refine rl ?_ | refine rh ?_ | refine rt ?_ | refine rf ?_ | refine rs ?_ | refine And.intro ?_ ?_) | omega | simp (maxSteps := 1000000) only [go_sem, simprocAttr, ↓reduceIte])
      refine VcCall.k (kB) ?_
      (repeat' first | with_reducible (first | intro _ | refine rc ?_ | refine rl ?_ | refine rh ?_ | refine rt ?_ | refine rf ?_ | refine rs ?_ | refine And.intro ?_ ?_) | omega | simp (maxSteps := 1000000) only [go_sem, simprocAttr, ↓reduceIte, gOr, Option.isSome])
      refine VcDraw.lex [] [] (by kernel_rfl) (by kernel_rfl) ?_
      (repeat' first | with_reducible (first | intro _ | refine rc ?_ | refine rl ?_ | refine rh ?_ | refine rt ?_ | refine rf ?_ | refine rs ?_ | refine And.intro ?_ ?_) | omega | simp (maxSteps := 1000000) only [go_sem, simprocAttr, ↓reduceIte])
      refine Ret.auto 0 ?_ rfl ?_ <;> simp only [go_sem, reduceCtorEq, reduceIte, Nat.reduceEqDiff, Nat.reduceLT, Nat.reduceLeDiff, Int.natCast_succ, Post]
  · rw [if_neg h0] at hb
    subst hb
    (repeat' first | with_reducible (first | intro _ | refine rc ?_ | refine rl ?_ | refine rh ?_ | refine rt ?_ | refine rf ?_ | refine rs ?_ | refine And.intro ?_ ?_) | omega | simp (maxSteps := 1000000) only [go_sem, simprocAttr, ↓reduceIte, h0])
    refine Ret.auto 0 ?_ rfl ?_ <;> simp only [go_sem, reduceCtorEq, reduceIte, Nat.reduceEqDiff, Nat.reduceLT, Nat.reduceLeDiff, Int.natCast_succ, Post]
set_option maxHeartbeats 8000000 in
theorem refBest_ok (D : List Wd) (hg : GoodD D) (hl : D.length < 40) (l : List Mx) (w : Bytes) (most : Int) (b : BO) (hb : bestOut (nearOut D l w most) (nearErr l w most) = b) :
    FnOk Tryz.prog 16 [.cell [.ro (wdR (sortW D))], .str w, .ro (mxs l), .int .i64 most] (.tup [.str b.t, .int .i64 b.d, .int .i64 b.e]) [] := by
  have kN := refNear_ok D hg hl l w most _ rfl _ rfl
  have hbd : gsBd (nearOut D l w most) := near_bd hg
  have hsr : Srt (nearOut D l w most) := near_srt
  generalize nearErr l w most = E at *
  generalize nearOut D l w most = O at *
  generalize sortW D = RW at *
  unfold bestOut at hb
  refine FnOk.of_vc Tryz.func16 rfl (by decide) (by simp [Tryz.f16]) [.tmp 8, .tmp 9, .tmp 10] rfl fun w0 T0 _ => ?_
  simp only [Tryz.f16, argEnv]
  (repeat' first | with_reducible (first | intro _ | refine rc ?_ | refine rl ?_ | refine rh ?_ | refine rt ?_ | refine rf ?_ | refine rs ?_ | refine And.intro ?_ ?_) | omega | simp (maxSteps := 1000000) only [go_sem, simprocAttr, ↓reduceIte])
  refine VcCall.ro (.tup [.ro (gsR O), .int .i64 E]) (FnFr.of_ok kN rfl (by simp [noRoRows, noRoItem, noRoRow, noRoL, noRo, gsR, Gs.av])) (by simp only [noIdR_ok, argOkL, argOk, allOk, argOkN, List.drop_zero, lk, reduceIte, reduceCtorEq, Nat.reduceEqDiff, Option.some.injEq, Item.row.injEq, Item.box.injEq, AV.ro.injEq, exists_eq_left, exists_and_left, exists_eq_left', exists_eq_right, and_assoc, and_true, true_and, List.cons.injEq, exists_eq', exists_eq]) (by simp [outOk, argOkL, allOk, argOk, argOkN, lk, noIdR_ok, gsR]) rfl ?_
  by_cases h0 : E = 0
  · subst h0
    rw [if_pos rfl] at hb
    match O, hbd, hsr, hb with
    | [], hbd, hsr, hb =>
      subst hb
      (repeat' first | with_reducible (first | intro _ | refine rc ?_ | refine rl ?_ | refine rh ?_ | refine rt ?_ | refine rf ?_ | refine rs ?_ | refine And.intro ?_ ?_) | omega | simp (maxSteps := 1000000) only [go_sem, simprocAttr, ↓reduceIte, gsR, List.map_nil, List.length_nil])
      refine VcDraw.lex [] [] (by kernel_rfl) (by kernel_rfl) ?_
      (repeat' first | with_reducible (first | intro _ | refine rc ?_ | refine rl ?_ | refine rh ?_ | refine rt ?_ | refine rf ?_ | refine rs ?_ | refine And.intro ?_ ?_) | omega | simp (maxSteps := 1000000) only [go_sem, simprocAttr, ↓reduceIte, gsR, elemA, List.map_cons, List.map_nil, List.length_cons, List.length_nil, List.getD_cons_zero, List.getD_cons_succ, List.getD_nil, List.drop_nil, Gs.av])
      refine QV.intro (.int .i64 0) ?_ ?_
      · (repeat' first | with_reducible (first | intro _ | refine rc ?_ | refine rl ?_ | refine rh ?_ | refine rt ?_ | refine rf ?_ | refine rs ?_ | refine And.intro ?_ ?_) | omega | simp (maxSteps := 1000000) only [go_sem, simprocAttr, ↓reduceIte, gsR, elemA, List.map_cons, List.map_nil, List.length_cons, List.length_nil, List.getD_cons_zero, List.getD_cons_succ, List.getD_nil, List.drop_nil, Gs.av])
      (repeat' first | with_reducible (first | intro _ | refine rc ?_ | refine rl ?_ | refine rh ?_ | refine rt ?_ | refine rf ?_ | refine rs ?_ | refine And.intro ?_ ?_) | omega | simp (maxSteps := 1000000) only [go_sem, simprocAttr, ↓reduceIte, gsR, elemA, List.map_cons, List.map_nil, List.length_cons, List.length_nil, List.getD_cons_zero, List.getD_cons_succ, List.getD_nil, List.drop_nil, Gs.av])
      refine QV.intro (.int .i64 0) ?_ ?_
      · (repeat' first | with_reducible (first | intro _ | refine rc ?_ | refine rl ?_ | refine rh ?_ | refine rt ?_ | refine rf ?_ | refine rs ?_ | refine And.intro ?_ ?_) | omega | simp (maxSteps := 1000000) only [go_sem, simprocAttr, ↓reduceIte, gsR, elemA, List.map_cons, List.map_nil, List.length_cons, List.length_nil, List.getD_cons_zero, List.getD_cons_succ, List.getD_nil, List.drop_nil, Gs.av])
      (repeat' first | with_reducible (first | intro _ | refine rc ?_ | refine rl ?_ | refine rh ?_ | refine rt ?_ | refine rf ?_ | refine rs ?_ | refine And.intro ?_ ?_) | omega | simp (maxSteps := 1000000) only [go_sem, simprocAttr, ↓reduceIte, gsR, elemA, List.map_cons, List.map_nil, List.length_cons, List.length_nil, List.getD_cons_zero, List.getD_cons_succ, List.getD_nil, List.drop_nil, Gs.av])
      refine QV.intro (.int .i64 0) ?_ ?_
      · (repeat' first | with_reducible (first | intro _ | refine rc ?_ | refine rl ?_ | refine rh ?_ | refine rt ?_ | refine rf ?_ | refine rs ?_ | refine And.intro ?_ ?_) | omega | simp (maxSteps := 1000000) only [go_sem, simprocAttr, ↓reduceIte, gsR, elemA, List.map_cons, List.map_nil, List.length_cons, List.length_nil, List.getD_cons_zero, List.getD_cons_succ, List.getD_nil, List.drop_nil, Gs.av])
      (repeat' first | with_reducible (first | intro _ | refine rc ?_ | refine rl ?_ | refine rh ?_ | refine rt ?_ | refine rf ?_ | refine rs ?_ | refine And.intro ?_ ?_) | omega | simp (maxSteps := 1000000) only [go_sem, simprocAttr, ↓reduceIte, gsR, elemA, List.map_cons, List.map_nil, List.length_cons, List.length_nil, List.getD_cons_zero, List.getD_cons_succ, List.getD_nil, List.drop_nil, Gs.av])
      refine QV.intro (.int .i64 0) ?_ ?_
      · (repeat' first | with_reducible (first | intro _ | refine rc ?_ | refine rl ?_ | refine rh ?_ | refine rt ?_ | refine rf ?_ | refine rs ?_ | refine And.intro ?_ ?_) | omega | simp (maxSteps := 1000000) only [go_sem, simprocAttr, ↓reduceIte, gsR, elemA, List.map_cons, List.map_nil, List.length_cons, List.length_nil, List.getD_cons_zero, List.getD_cons_succ, List.getD_nil, List.drop_nil, Gs.av])
      (repeat' first | with_reducible (first | intro _ | refine rc ?_ | refine rl ?_ | refine rh ?_ | refine rt ?_ | refine rf ?_ | refine rs ?_ | refine And.intro ?_ ?_) | omega | simp (maxSteps := 1000000) only [go_sem, simprocAttr, ↓reduceIte, gsR, elemA, List.map_cons, List.map_nil, List.length_cons, List.length_nil, List.getD_cons_zero, List.getD_cons_succ, List.getD_nil, List.drop_nil, Gs.av])
      refine Ret.auto 0 ?_ rfl ?_ <;> simp only [go_sem, reduceCtorEq, reduceIte, Nat.reduceEqDiff, Nat.reduceLT, Nat.reduceLeDiff, Int.natCast_succ, Post, bestG]
    | [x], hbd, hsr, hb =>
      subst hb
      (repeat' first | with_reducible (first | intro _ | refine rc ?_ | refine rl ?_ | refine rh ?_ | refine rt ?_ | refine rf ?_ | refine rs ?_ | refine And.intro ?_ ?_) | omega | simp (maxSteps := 1000000) only [go_sem, simprocAttr, ↓reduceIte, gsR, List.map_cons, List.map_nil, List.length_cons, List.length_nil])
      refine VcDraw.lex [] [] (by kernel_rfl) (by kernel_rfl) ?_
      (repeat' first | with_reducible (first | intro _ | refine rc ?_ | refine rl ?_ | refine rh ?_ | refine rt ?_ | refine rf ?_ | refine rs ?_ | refine And.intro ?_ ?_) | omega | simp (maxSteps := 1000000) only [go_sem, simprocAttr, ↓reduceIte, gsR, elemA, List.map_cons, List.map_nil, List.length_cons, List.length_nil, List.getD_cons_zero, List.getD_cons_succ, List.getD_nil, List.drop_nil, Gs.av])
      refine QV.intro (.int .i64 0) ?_ ?_
      · (repeat' first | with_reducible (first | intro _ | refine rc ?_ | refine rl ?_ | refine rh ?_ | refine rt ?_ | refine rf ?_ | refine rs ?_ | refine And.intro ?_ ?_) | omega | simp (maxSteps := 1000000) only [go_sem, simprocAttr, ↓reduceIte, gsR, elemA, List.map_cons, List.map_nil, List.length_cons, List.length_nil, List.getD_cons_zero, List.getD_cons_succ, List.getD_nil, List.drop_nil, Gs.av])
      (repeat' first | with_reducible (first | intro _ | refine rc ?_ | refine rl ?_ | refine rh ?_ | refine rt ?_ | refine rf ?_ | refine rs ?_ | refine And.intro ?_ ?_) | omega | simp (maxSteps := 1000000) only [go_sem, simprocAttr, ↓reduceIte, gsR, elemA, List.map_cons, List.map_nil, List.length_cons, List.length_nil, List.getD_cons_zero, List.getD_cons_succ, List.getD_nil, List.drop_nil, Gs.av])
      refine QV.intro (.int .i64 0) ?_ ?_
      · (repeat' first | with_reducible (first | intro _ | refine rc ?_ | refine rl ?_ | refine rh ?_ | refine rt ?_ | refine rf ?_ | refine rs ?_ | refine And.intro ?_ ?_) | omega | simp (maxSteps := 1000000) only [go_sem, simprocAttr, ↓reduceIte, gsR, elemA, List.map_cons, List.map_nil, List.length_cons, List.length_nil, List.getD_cons_zero, List.getD_cons_succ, List.getD_nil, List.drop_nil, Gs.av])
      (repeat' first | with_reducible (first | intro _ | refine rc ?_ | refine rl ?_ | refine rh ?_ | refine rt ?_ | refine rf ?_ | refine rs ?_ | refine And.intro ?_ ?_) | omega | simp (maxSteps := 1000000) only [go_sem, simprocAttr, ↓reduceIte, gsR, elemA, List.map_cons, List.map_nil, List.length_cons, List.length_nil, List.getD_cons_zero, List.getD_cons_succ, List.getD_nil, List.drop_nil, Gs.av])
      refine VcDraw.lex [] [] (by kernel_rfl) (by kernel_rfl) ?_
      (repeat' first | with_reducible (first | intro _ | refine rc ?_ | refine rl ?_ | refine rh ?_ | refine rt ?_ | refine rf ?_ | refine rs ?_ | refine And.intro ?_ ?_) | omega | simp (maxSteps := 1000000) only [go_sem, simprocAttr, ↓reduceIte, gsR, elemA, List.map_cons, List.map_nil, List.length_cons, List.length_nil, List.getD_cons_zero, List.getD_cons_succ, List.getD_nil, List.drop_nil, Gs.av])
      refine Ret.auto 0 ?_ rfl ?_ <;> simp only [go_sem, reduceCtorEq, reduceIte, Nat.reduceEqDiff, Nat.reduceLT, Nat.reduceLeDiff, Int.natCast_succ, Post, bestG]
    | x :: y :: r, hbd, hsr, hb =>
      have hne : ¬ ((r.length + 1 + 1 : Nat) : Int) = 1 := by omega
      have hne0 : ¬ ((r.length + 1 + 1 : Nat) : Int) = 0 := by omega
      have hgt : (1 : Int) < ((r.length + 1 + 1 : Nat) : Int) := by omega
      have hx := hbd x List.mem_cons_self
      have hy := hbd y (List.mem_cons_of_mem _ List.mem_cons_self)
      have hxy := (List.pairwise_cons.1 hsr).1 y List.mem_cons_self
      rw [bestG_two] at hb
      unfold GsOk at hx hy
      unfold lt0 at hxy
      by_cases h1 : x.d = y.d
      · by_cases h2 : x.c < 2 * y.c
        · rw [if_neg (by omega)] at hb
          subst hb
          (repeat' first | with_reducible (first | intro _ | refine rc ?_ | refine rl ?_ | refine rh ?_ | refine rt ?_ | refine rf ?_ | refine rs ?_ | refine And.intro ?_ ?_) | omega | simp (maxSteps := 1000000) only [go_sem, simprocAttr, ↓reduceIte, gsR, List.map_cons, List.length_cons, List.length_map])
          refine VcDraw.lex [] [] (by kernel_rfl) (by kernel_rfl) ?_
          (repeat' first | with_reducible (first | intro _ | refine rc ?_ | refine rl ?_ | refine rh ?_ | refine rt ?_ | refine rf ?_ | refine rs ?_ | refine And.intro ?_ ?_) | omega | simp (maxSteps := 1000000) only [go_sem, simprocAttr, ↓reduceIte, gsR, elemA, List.map_cons, List.length_cons, List.length_map, List.getD_cons_zero, List.getD_cons_succ, Gs.av, h1, h2, hne, hne0, hgt, Bool.or_true, Bool.or_false])
          refine Ret.auto 0 ?_ rfl ?_ <;> simp only [go_sem, reduceCtorEq, reduceIte, Nat.reduceEqDiff, Nat.reduceLT, Nat.reduceLeDiff, Int.natCast_succ, Post]
        · rw [if_pos (by omega)] at hb
          subst hb
          (repeat' first | with_reducible (first | intro _ | refine rc ?_ | refine rl ?_ | refine rh ?_ | refine rt ?_ | refine rf ?_ | refine rs ?_ | refine And.intro ?_ ?_) | omega | simp (maxSteps := 1000000) only [go_sem, simprocAttr, ↓reduceIte, gsR, List.map_cons, List.length_cons, List.length_map])
          refine VcDraw.lex [] [] (by kernel_rfl) (by kernel_rfl) ?_
          (repeat' first | with_reducible (first | intro _ | refine rc ?_ | refine rl ?_ | refine rh ?_ | refine rt ?_ | refine rf ?_ | refine rs ?_ | refine And.intro ?_ ?_) | omega | simp (maxSteps := 1000000) only [go_sem, simprocAttr, ↓reduceIte, gsR, elemA, List.map_cons, List.length_cons, List.length_map, List.getD_cons_zero, List.getD_cons_succ, Gs.av, h1, h2, hne, hne0, hgt, Bool.or_true, Bool.or_false])
          refine VcDraw.lex [] [] (by kernel_rfl) (by kernel_rfl) ?_
          (repeat' first | with_reducible (first | intro _ | refine rc ?_ | refine rl ?_ | refine rh ?_ | refine rt ?_ | refine rf ?_ | refine rs ?_ | refine And.intro ?_ ?_) | omega | simp (maxSteps := 1000000) only [go_sem, simprocAttr, ↓reduceIte, gsR, elemA, List.map_cons, List.length_cons, List.length_map, List.getD_cons_zero, List.getD_cons_succ, Gs.av])
          refine Ret.auto 0 ?_ rfl ?_ <;> simp only [go_sem, reduceCtorEq, reduceIte, Nat.reduceEqDiff, Nat.reduceLT, Nat.reduceLeDiff, Int.natCast_succ, Post]
          all_goals first | rfl | exact h1.symm | exact h1
      · rw [if_pos (by omega)] at hb
        subst hb
        (repeat' first | with_reducible (first | intro _ | refine rc ?_ | refine rl ?_ | refine rh ?_ | refine rt ?_ | refine rf ?_ | refine rs ?_ | refine And.intro ?_ ?_) | omega | simp (maxSteps := 1000000) only [go_sem, simprocAttr, ↓reduceIte, gsR, List.map_cons, List.length_cons, List.length_map])
        refine VcDraw.lex [] [] (by kernel_rfl) (by kernel_rfl) ?_
        (repeat' first | with_reducible (first | intro _ | refine rc ?_ | refine rl ?_ | refine rh ?_ | refine rt ?_ | refine rf ?_ | refine rs ?_ | refine And.intro ?_ ?_) | omega | simp (maxSteps := 1000000) only [go_sem, simprocAttr, ↓reduceIte, gsR, elemA, List.map_cons, List.length_cons, List.length_map, List.getD_cons_zero, List.getD_cons_succ, Gs.av, h1, hne, hne0, hgt, Bool.or_true, Bool.or_false])
        refine VcDraw.lex [] [] (by kernel_rfl) (by kernel_rfl) ?_
        (repeat' first | with_reducible (first | intro _ | refine rc ?_ | refine rl ?_ | refine rh ?_ | refine rt ?_ | refine rf ?_ | refine rs ?_ | refine And.intro ?_ ?_) | omega | simp (maxSteps := 1000000) only [go_sem, simprocAttr, ↓reduceIte, gsR, elemA, List.map_cons, List.length_cons, List.length_map, List.getD_cons_zero, List.getD_cons_succ, Gs.av])
        refine Ret.auto 0 ?_ rfl ?_ <;> simp only [go_sem, reduceCtorEq, reduceIte, Nat.reduceEqDiff, Nat.reduceLT, Nat.reduceLeDiff, Int.natCast_succ, Post]
  · rw [if_neg h0] at hb
    subst hb
    (repeat' first | with_reducible (first | intro _ | refine rc ?_ | refine rl ?_ | refine rh ?_ | refine rt ?_ | refine rf ?_ | refine rs ?_ | refine And.intro ?_ ?_) | omega | simp (maxSteps := 1000000) only [go_sem, simprocAttr, ↓reduceIte, h0])
    refine Ret.auto 0 ?_ rfl ?_ <;> simp only [go_sem, reduceCtorEq, reduceIte, Nat.reduceEqDiff, Nat.reduceLT, Nat.reduceLeDiff, Int.natCast_succ, Post]
end Go.Fv.Y

/- slices.BinarySearch of words. -/
namespace Go.Fv.Y
open Go Go.Proofs
set_option linter.unusedSimpArgs false
set_option linter.unusedVariables false
set_option linter.unnecessarySimpa false
set_option maxRecDepth 8000

end Go.Fv.Y

/- Begin, and the reference's. -/
namespace Go.Fv.Y
open Go Go.Proofs
set_option linter.unusedSimpArgs false
set_option linter.unusedVariables false
set_option linter.unnecessarySimpa false
set_option maxRecDepth 8000

end Go.Fv.Y

/- The reference's DictError and NewDict. -/
namespace Go.Fv.Y
open Go Go.Proofs
set_option linter.unusedSimpArgs false
set_option linter.unusedVariables false
set_option linter.unnecessarySimpa false
set_option maxRecDepth 8000

def sKs (l : List Wd) : List AV := (l.map Wd.t).map .str
def sVs (l : List Wd) : List AV := (l.map Wd.t).map fun _ => .bool true
theorem updKs_s {l : List Wd} {w : Wd} (h : w.t ∉ l.map Wd.t) : updKs (sKs l) (.str w.t) = sKs (l ++ [w]) := updKs_d h
theorem updVs_s {l : List Wd} {w : Wd} (h : w.t ∉ l.map Wd.t) : updVs (sKs l) (sVs l) (.str w.t) (.bool true) = sVs (l ++ [w]) := by
  unfold updVs sKs sVs
  rw [keyIdx_strs, ixOf_none.2 h]
  simp
theorem getB_s (l : List Wd) (x : Bytes) : getB (sKs l) (sVs l) (.str x) = decide (x ∈ l.map Wd.t) := by
  unfold getB getV sKs sVs
  rw [keyIdx_strs]
  cases h : ixOf (l.map Wd.t) x with
  | none => simp [ixOf_none.1 h]
  | some j =>
    have hj := ixOf_some h
    have hm := List.mem_of_getElem? hj
    obtain ⟨a1, a2⟩ := List.getElem?_eq_some_iff.1 hj
    rw [decide_eq_true hm]
    simp only [Option.bind_some, List.getElem?_map, List.getElem?_map]
    rw [List.getElem?_eq_getElem (by simpa using a1)]
    rfl
theorem isB_s (l : List Wd) : (sVs l).all isB = true := by simp [sVs, isB]
theorem ren_sKs (p : Nat → Nat) (l : List Wd) : renL p (sKs l) = sKs l := renL_kmap p (fun _ => rfl) _
theorem ren_sVs (p : Nat → Nat) (l : List Wd) : renL p (sVs l) = sVs l := renL_kmap p (fun _ => rfl) _
theorem below_sKs (n : Nat) (l : List Wd) : belowL n (sKs l) = true := belowL_kmap n (fun _ => rfl) _
theorem below_sVs (n : Nat) (l : List Wd) : belowL n (sVs l) = true := belowL_kmap n (fun _ => rfl) _
theorem mk_sKs (l : List Wd) (y : List AV) : mkL (sKs l) y = [] := mkL_kmap (fun _ => rfl) _ _
theorem mk_sVs (l : List Wd) (y : List AV) : mkL (sVs l) y = [] := mkL_kmap (fun _ => rfl) _ _
theorem keysT_s {P : Program} {kt : TypeId} (h : P.underlying kt = some .string) (l : List Wd) : KeysT P kt (sKs l) := KeysT_map (fun n => KeyT.str h n) _
theorem wdEs_take (l : List Wd) {i : Nat} (h : i < l.length) : wdEs ((l.take i).map Wd.t) (l.drop i) = if wdE ((l.take i).map Wd.t) (l.getD i Wd.zero) = 0 then wdEs ((l.take (i + 1)).map Wd.t) (l.drop (i + 1)) else wdE ((l.take i).map Wd.t) (l.getD i Wd.zero) := by
  rw [wdEs_drop l h]
  rw [show (l.take (i + 1)).map Wd.t = (l.take i).map Wd.t ++ [(l.getD i Wd.zero).t] by rw [List.take_succ_eq_append_getElem h, List.map_append, getD_lt h]; rfl]
set_option maxHeartbeats 4000000 in
theorem refDictError_ok (l : List Wd) : FnOk Tryz.prog 36 [.ro (wdR l)] (.int .i64 (dictErr l)) [] := by
  unfold dictErr
  refine FnOk.of_vc Tryz.func36 rfl (by decide) (by simp [Tryz.f36]) [.tmp 2] rfl fun w0 T0 _ => ?_
  simp only [Tryz.f36, argEnv]
  by_cases h0 : 5000 < l.length
  · (repeat' first | with_reducible (first | intro _ | refine rc ?_ | refine rl ?_ | refine rh ?_ | refine rt ?_ | refine rf ?_ | refine rs ?_ | refine And.intro ?_ ?_) | omega | simp (maxSteps := 1000000) only [go_sem, simprocAttr, ↓reduceIte, List.length_map])
    refine Ret.auto 0 ?_ rfl ?_ <;> simp only [go_sem, reduceCtorEq, reduceIte, Nat.reduceEqDiff, Nat.reduceLT, Nat.reduceLeDiff, Int.natCast_succ, Post, h0]
  rw [if_neg h0]
  (repeat' first | with_reducible (first | intro _ | refine rc ?_ | refine rl ?_ | refine rh ?_ | refine rt ?_ | refine rf ?_ | refine rs ?_ | refine And.intro ?_ ?_) | omega | simp (maxSteps := 1000000) only [go_sem, simprocAttr, ↓reduceIte, List.length_map])
  refine VcLoop.intro (fun i : Nat => ⟨39, [(12, .int .i64 i), (11, .int .i64 l.length), (10, .ro (wdR l)), (3, .own 0)], [(0, .map (sKs (l.take i)) (sVs (l.take i)))], 1⟩) (fun i => i ≤ l.length ∧ wdEs ((l.take i).map Wd.t) (l.drop i) = wdEs [] l) (fun i => l.length - i) 0 ?_ ⟨Nat.zero_le _, rfl⟩ fun i hi => ?_
  · refine Ent.auto0 rfl ?_ ?_ <;> simp only [go_sem, reduceCtorEq, reduceIte, Nat.reduceEqDiff, Nat.reduceLT, Nat.reduceLeDiff, Int.natCast_succ, List.take_zero, ren_sKs, ren_sVs, below_sKs, below_sVs, mk_sKs, mk_sVs]
    all_goals rfl
  obtain ⟨hi, hc⟩ := hi
  by_cases hlt : i < l.length
  · have he := wd_elem l hlt
    rw [wdEs_take l hlt] at hc
    have ht : l.take (i + 1) = l.take i ++ [l.getD i Wd.zero] := by rw [List.take_succ_eq_append_getElem hlt, getD_lt hlt]
    generalize l.getD i Wd.zero = y at *
    have e1 := getB_s (l.take i) y.t
    have e2 := fun h => @updKs_s (l.take i) y h
    have e3 := fun h => @updVs_s (l.take i) y h
    have e4 := isB_s (l.take i)
    have e5 : KeysT Tryz.prog 9 (sKs (l.take i)) := keysT_s (by kernel_rfl) _
    rw [← ht] at e2 e3
    generalize hL1 : l.take (i + 1) = L1 at *
    generalize l.take i = L0 at *
    have kw := refIsWordA_ok y.t
    unfold wdE at hc
    obtain ⟨yt, yc⟩ := y
    dsimp only at he hc e1 e2 e3 kw
    cases hw : isWd yt with
    | false =>
      rw [hw] at kw
      rw [if_neg (by rw [if_pos hw]; decide), if_pos hw] at hc
      (repeat' first | with_reducible (first | intro _ | refine rc ?_ | refine rl ?_ | refine rh ?_ | refine rt ?_ | refine rf ?_ | refine rs ?_ | refine And.intro ?_ ?_) | omega | simp (maxSteps := 1000000) only [go_sem, simprocAttr, ↓reduceIte, elemA, he, List.length_map])
      refine VcCall.k (kw) ?_
      (repeat' first | with_reducible (first | intro _ | refine rc ?_ | refine rl ?_ | refine rh ?_ | refine rt ?_ | refine rf ?_ | refine rs ?_ | refine And.intro ?_ ?_) | omega | simp (maxSteps := 1000000) only [go_sem, simprocAttr, ↓reduceIte])
      refine Ret.auto 0 ?_ rfl ?_ <;> simp only [go_sem, reduceCtorEq, reduceIte, Nat.reduceEqDiff, Nat.reduceLT, Nat.reduceLeDiff, Int.natCast_succ, Post, ← hc]
    | true =>
      rw [hw] at kw
      rw [if_neg (show ¬ isWd yt = false by rw [hw]; decide)] at hc
      by_cases hr : yc < 1 ∨ 1000000000 < yc
      · rw [if_neg (by rw [if_pos hr]; decide), if_pos hr] at hc
        (repeat' first | with_reducible (first | intro _ | refine rc ?_ | refine rl ?_ | refine rh ?_ | refine rt ?_ | refine rf ?_ | refine rs ?_ | refine And.intro ?_ ?_) | omega | simp (maxSteps := 1000000) only [go_sem, simprocAttr, ↓reduceIte, elemA, he, List.length_map])
        refine VcCall.k (kw) ?_
        (repeat' first | with_reducible (first | intro _ | refine rc ?_ | refine rl ?_ | refine rh ?_ | refine rt ?_ | refine rf ?_ | refine rs ?_ | refine And.intro ?_ ?_) | omega | simp (maxSteps := 1000000) only [go_sem, simprocAttr, ↓reduceIte, hr])
        refine Ret.auto 0 ?_ rfl ?_ <;> simp only [go_sem, reduceCtorEq, reduceIte, Nat.reduceEqDiff, Nat.reduceLT, Nat.reduceLeDiff, Int.natCast_succ, Post, ← hc]
      · rw [if_neg hr] at hc
        by_cases hm : yt ∈ L0.map Wd.t
        · rw [decide_eq_true hm] at e1
          rw [if_neg (by rw [if_pos hm]; decide), if_pos hm] at hc
          (repeat' first | with_reducible (first | intro _ | refine rc ?_ | refine rl ?_ | refine rh ?_ | refine rt ?_ | refine rf ?_ | refine rs ?_ | refine And.intro ?_ ?_) | omega | simp (maxSteps := 1000000) only [go_sem, simprocAttr, ↓reduceIte, elemA, he, List.length_map])
          refine VcCall.k (kw) ?_
          (repeat' first | with_reducible (first | intro _ | refine rc ?_ | refine rl ?_ | refine rh ?_ | refine rt ?_ | refine rf ?_ | refine rs ?_ | refine And.intro ?_ ?_) | omega | simp (maxSteps := 1000000) only [go_sem, simprocAttr, ↓reduceIte, hr, e1, e4, e5])
          refine Ret.auto 0 ?_ rfl ?_ <;> simp only [go_sem, reduceCtorEq, reduceIte, Nat.reduceEqDiff, Nat.reduceLT, Nat.reduceLeDiff, Int.natCast_succ, Post, ← hc]
        · rw [decide_eq_false hm] at e1
          rw [if_pos (by rw [if_neg hm])] at hc
          have e2 := e2 hm
          have e3 := e3 hm
          (repeat' first | with_reducible (first | intro _ | refine rc ?_ | refine rl ?_ | refine rh ?_ | refine rt ?_ | refine rf ?_ | refine rs ?_ | refine And.intro ?_ ?_) | omega | simp (maxSteps := 1000000) only [go_sem, simprocAttr, ↓reduceIte, elemA, he, List.length_map])
          refine VcCall.k (kw) ?_
          (repeat' first | with_reducible (first | intro _ | refine rc ?_ | refine rl ?_ | refine rh ?_ | refine rt ?_ | refine rf ?_ | refine rs ?_ | refine And.intro ?_ ?_) | omega | simp (maxSteps := 1000000) only [go_sem, simprocAttr, ↓reduceIte, hr, e1, e2, e3, e4, e5])
          refine ⟨i + 1, Ent.auto0 rfl ?_ ?_, ⟨by omega, by rw [hL1]; exact hc⟩, by omega⟩ <;> simp only [go_sem, reduceCtorEq, reduceIte, Nat.reduceEqDiff, Nat.reduceLT, Nat.reduceLeDiff, Int.natCast_succ, hL1, ren_sKs, ren_sVs, below_sKs, below_sVs, mk_sKs, mk_sVs]
  · have e : i = l.length := by omega
    subst e
    rw [List.drop_length] at hc
    (repeat' first | with_reducible (first | intro _ | refine rc ?_ | refine rl ?_ | refine rh ?_ | refine rt ?_ | refine rf ?_ | refine rs ?_ | refine And.intro ?_ ?_) | omega | simp (maxSteps := 1000000) only [go_sem, simprocAttr, ↓reduceIte, List.length_map])
    refine Ret.auto 0 ?_ rfl ?_ <;> simp only [go_sem, reduceCtorEq, reduceIte, Nat.reduceEqDiff, Nat.reduceLT, Nat.reduceLeDiff, Int.natCast_succ, Post, ← hc, wdEs]
end Go.Fv.Y
