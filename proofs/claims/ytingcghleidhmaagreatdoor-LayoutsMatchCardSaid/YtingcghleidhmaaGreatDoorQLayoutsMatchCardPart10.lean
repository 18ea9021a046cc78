/-
  A part of the proof of the claim: walks over the program's functions and the plain laws that these need. No condition of its own.
-/
import Derived.Test.YtingcghleidhmaaGreatDoorQLayoutsMatchCardPart9
import Derived.Test.YtingcghleidhmaaGreatDoorQLayoutsMatchCardPart3
import Derived.Test.YtingcghleidhmaaGreatDoorQLayoutsMatchCardPart7
import Derived.Test.YtingcghleidhmaaGreatDoorQLayoutsMatchCardPart4
import Derived.Test.YtingcghleidhmaaGreatDoorQLayoutsMatchCardPart5
import Derived.Test.YtingcghleidhmaaGreatDoorQLayoutsMatchCardPart2
import Derived.Test.YtingcghleidhmaaGreatDoorQLayoutsMatchCardPart8
/-! The reference's lines and words of a box: the walk. Printed by gen_lin.py. -/
namespace Go.Fv.Q
open Go Go.Proofs
set_option linter.unusedSimpArgs false
set_option linter.unusedVariables false
set_option linter.unnecessarySimpa false
set_option maxRecDepth 8000

set_option maxHeartbeats 4000000 in
theorem RowsIn_ok (w h : Nat) (hw : w ≤ 4000) (hh : h ≤ 4000) (p : List Bool) (hp : p.length = w * h) (b : Nb) (hb : InP b w h) (gap : Nat) (hg : gap ≤ 4000) :
    FnOk Tryz.prog 11 [.agg [.int .i64 w, .int .i64 h, .ro (.bools p)], .agg b.av, .int .i64 gap] (.own 0) [(0, .row 26 (nbs ((linesR p w b gap).map (rowBox p w b))))] := by
  have k2 := refCut_ok w h hw hh p hp b hb.1 hb.2
  have k3 := rowsC_ok p w b (by unfold InP at hb; omega) (by unfold InP at hb; omega)
  have kJ := refStr_ok (fun i => rowN p w b (b.y + i)) (fun j => !rowE p w b (b.y + j)) (fun _ => rfl) b.h (by unfold InP at hb; omega) gap hg
  have hm := fun t (ht : t ∈ linesR p w b gap) => linesR_mem ht
  have hlen := linesR_len p w b gap
  rw [show rfGo (fun j => !rowE p w b (b.y + j)) gap b.h 0 [] = linesR p w b gap from rfl] at kJ
  have kT := fun t (ht : t ∈ linesR p w b gap) => rtight_ok w h hw hh p hp (rowBoxT b t) (hb.of (hm t ht).2.2.1).1 (hb.of (hm t ht).2.2.1).2 (hm t ht).2.2.2
  generalize natL (fun i => rowN p w b (b.y + i)) b.h = L at *
  generalize linesR p w b gap = R at *
  generalize cutP p w b = q at *
  have hRb : R.length ≤ 4000 := by unfold InP at hb; omega
  obtain ⟨bx, by', bw, bh⟩ := b
  have hbb := hb
  unfold InP at hbb
  dsimp only at hbb
  simp only [Nb.av] at *
  refine FnOk.of_vc Tryz.func11 rfl (by decide) (by simp [Tryz.f11]) [.tmp 6] rfl fun w0 T0 _ => ?_
  simp only [Tryz.f11, argEnv]
  (repeat' first | with_reducible (first | intro _ | refine rc ?_ | refine rl ?_ | refine rh ?_ | refine rt ?_ | refine rf ?_ | refine rs ?_ | refine And.intro ?_ ?_) | omega | simp (maxSteps := 1000000) only [go_sem, simprocAttr, ↓reduceIte])
  refine VcCall.ro (.agg [.int .i64 bw, .int .i64 bh, .ro (.bools q)]) (FnFr.of_ok k2 rfl rfl) (by simp only [noIdR_ok, argOkL, argOk, allOk, argOkN, List.drop_zero, lk, reduceIte, reduceCtorEq, Nat.reduceEqDiff, Option.some.injEq, Item.row.injEq, Item.box.injEq, AV.ro.injEq, exists_eq_left, exists_and_left, exists_eq_left', exists_eq_right, and_assoc, and_true, true_and, List.cons.injEq, exists_eq', exists_eq]) (by simp [outOk, argOkL, allOk, argOk, argOkN, lk, noIdR_ok]) rfl ?_
  (repeat' first | with_reducible (first | intro _ | refine rc ?_ | refine rl ?_ | refine rh ?_ | refine rt ?_ | refine rf ?_ | refine rs ?_ | refine And.intro ?_ ?_) | omega | simp (maxSteps := 1000000) only [go_sem, simprocAttr, ↓reduceIte])
  refine VcCall.ro (.ro (.ints .i64 L)) (FnFr.of_ok k3 rfl rfl) (by simp only [noIdR_ok, argOkL, argOk, allOk, argOkN, List.drop_zero, lk, reduceIte, reduceCtorEq, Nat.reduceEqDiff, Option.some.injEq, Item.row.injEq, Item.box.injEq, AV.ro.injEq, exists_eq_left, exists_and_left, exists_eq_left', exists_eq_right, and_assoc, and_true, true_and, List.cons.injEq, exists_eq', exists_eq]) (by simp [outOk, argOkL, allOk, argOk, argOkN, lk, noIdR_ok]) rfl ?_
  (repeat' first | with_reducible (first | intro _ | refine rc ?_ | refine rl ?_ | refine rh ?_ | refine rt ?_ | refine rf ?_ | refine rs ?_ | refine And.intro ?_ ?_) | omega | simp (maxSteps := 1000000) only [go_sem, simprocAttr, ↓reduceIte])
  refine VcCall.ro (.ro (peR R)) (FnFr.of_ok kJ rfl (by simp [noRoRows, noRoItem, noRoRow, noRoL, noRo, peR, peAv])) (by simp only [noIdR_ok, argOkL, argOk, allOk, argOkN, List.drop_zero, lk, reduceIte, reduceCtorEq, Nat.reduceEqDiff, Option.some.injEq, Item.row.injEq, Item.box.injEq, AV.ro.injEq, exists_eq_left, exists_and_left, exists_eq_left', exists_eq_right, and_assoc, and_true, true_and, List.cons.injEq, exists_eq', exists_eq]) (by simp [outOk, argOkL, allOk, argOk, argOkN, lk, noIdR_ok, peR]) rfl ?_
  unfold peR
  (repeat' first | with_reducible (first | intro _ | refine rc ?_ | refine rl ?_ | refine rh ?_ | refine rt ?_ | refine rf ?_ | refine rs ?_ | refine And.intro ?_ ?_) | omega | simp (maxSteps := 1000000) only [go_sem, simprocAttr, ↓reduceIte, List.length_map])
  refine VcLoop.intro (fun k : Nat => ⟨49, [(19, .int .i64 k), (18, .int .i64 R.length), (17, .ro (.objs 2 (R.map peAv))), (7, .own 0), (3, .ptr 1 0), (4, .ptr 2 0)], [(0, .row 26 (nbs ((R.take k).map (rowBox p w ⟨bx, by', bw, bh⟩)))), (1, .box 24 [.int .i64 w, .int .i64 h, .ro (.bools p)]), (2, .box 26 [.int .i64 bx, .int .i64 by', .int .i64 bw, .int .i64 bh])], 3⟩) (fun k => k ≤ R.length) (fun k => R.length - k) 0 ?_ (Nat.zero_le _) fun k hk => ?_
  · refine Ent.auto0 rfl ?_ ?_ <;> simp only [go_sem, reduceCtorEq, reduceIte, Nat.reduceEqDiff, Nat.reduceLT, Nat.reduceLeDiff, Int.natCast_succ, List.take_zero, List.map_nil, nbs, zrow]
  by_cases hlt : k < R.length
  · have he := pe_elem R hlt
    have hmem : R.getD k (0, 0) ∈ R := by rw [getD_lt hlt]; exact List.getElem_mem hlt
    have hmt := hm _ hmem
    have kTk := kT _ hmem
    have hs : ((R.take (k + 1)).map (rowBox p w ⟨bx, by', bw, bh⟩)).map Nb.av = ((R.take k).map (rowBox p w ⟨bx, by', bw, bh⟩)).map Nb.av ++ [(tightB p w (rowBoxT ⟨bx, by', bw, bh⟩ (R.getD k (0, 0)))).av] := by
      rw [take_succG (z := (0, 0)) hlt, List.map_append, List.map_append]; rfl
    have hll : ((R.take k).map (rowBox p w ⟨bx, by', bw, bh⟩)).length = k := by rw [List.length_map, List.length_take]; omega
    generalize R.getD k (0, 0) = t at *
    obtain ⟨a, e⟩ := t
    unfold rowBoxT at kTk hs
    dsimp only at hmt kTk hs he
    generalize tightB p w ⟨bx, by' + a, bw, e - a⟩ = T at *
    obtain ⟨Tx, Ty, Tw, Th⟩ := T
    generalize (R.take k).map (rowBox p w ⟨bx, by', bw, bh⟩) = D at *
    unfold nbs
    dsimp only [Nb.av] at kTk hs
    have e1 : ((e - a : Nat) : Int) = (e : Int) - a := by omega
    have e2 : ((by' + a : Nat) : Int) = (by' : Int) + a := by omega
    rw [e1, e2] at kTk
    (repeat' first | with_reducible (first | intro _ | refine rc ?_ | refine rl ?_ | refine rh ?_ | refine rt ?_ | refine rf ?_ | refine rs ?_ | refine And.intro ?_ ?_) | omega | simp (maxSteps := 1000000) only [go_sem, simprocAttr, ↓reduceIte, List.length_map, elemA, he])
    refine VcCall.k kTk ?_
    (repeat' first | with_reducible (first | intro _ | refine rc ?_ | refine rl ?_ | refine rh ?_ | refine rt ?_ | refine rf ?_ | refine rs ?_ | refine And.intro ?_ ?_) | omega | simp (maxSteps := 1000000) only [go_sem, simprocAttr, ↓reduceIte, List.length_map])
    refine ⟨k + 1, Ent.auto0 rfl ?_ ?_, by omega, by omega⟩ <;> simp only [go_sem, reduceCtorEq, reduceIte, Nat.reduceEqDiff, Nat.reduceLT, Nat.reduceLeDiff, Int.natCast_succ, hs, nbs]
  · have e : k = R.length := by omega
    subst e
    rw [List.take_length]
    (repeat' first | with_reducible (first | intro _ | refine rc ?_ | refine rl ?_ | refine rh ?_ | refine rt ?_ | refine rf ?_ | refine rs ?_ | refine And.intro ?_ ?_) | omega | simp (maxSteps := 1000000) only [go_sem, simprocAttr, ↓reduceIte, List.length_map])
    refine Ret.auto 1 ?_ rfl ?_ <;> simp only [go_sem, reduceCtorEq, reduceIte, Nat.reduceEqDiff, Nat.reduceLT, Nat.reduceLeDiff, Int.natCast_succ, Post, nbs, renR_ok, belowR_ok]
set_option maxHeartbeats 4000000 in
theorem WordsIn_ok (w h : Nat) (hw : w ≤ 4000) (hh : h ≤ 4000) (p : List Bool) (hp : p.length = w * h) (b : Nb) (hb : InP b w h) (gap : Nat) (hg : gap ≤ 4000) :
    FnOk Tryz.prog 12 [.agg [.int .i64 w, .int .i64 h, .ro (.bools p)], .agg b.av, .int .i64 gap] (.own 0) [(0, .row 26 (nbs ((linesC p w b gap).map (wordBox p w b))))] := by
  have k2 := refCut_ok w h hw hh p hp b hb.1 hb.2
  have k3 := colsC_ok p w b (by unfold InP at hb; omega) (by unfold InP at hb; omega)
  have kJ := refStr_ok (fun i => colN p w b (b.x + i)) (fun j => !colE p w b (b.x + j)) (fun _ => rfl) b.w (by unfold InP at hb; omega) gap hg
  have hm := fun t (ht : t ∈ linesC p w b gap) => linesC_mem ht
  have hlen := linesC_len p w b gap
  rw [show rfGo (fun j => !colE p w b (b.x + j)) gap b.w 0 [] = linesC p w b gap from rfl] at kJ
  have kT := fun t (ht : t ∈ linesC p w b gap) => rtight_ok w h hw hh p hp (wordBoxT b t) (hb.of (hm t ht).2.2.1).1 (hb.of (hm t ht).2.2.1).2 (hm t ht).2.2.2
  generalize natL (fun i => colN p w b (b.x + i)) b.w = L at *
  generalize linesC p w b gap = R at *
  generalize cutP p w b = q at *
  have hRb : R.length ≤ 4000 := by unfold InP at hb; omega
  obtain ⟨bx, by', bw, bh⟩ := b
  have hbb := hb
  unfold InP at hbb
  dsimp only at hbb
  simp only [Nb.av] at *
  refine FnOk.of_vc Tryz.func12 rfl (by decide) (by simp [Tryz.f12]) [.tmp 6] rfl fun w0 T0 _ => ?_
  simp only [Tryz.f12, argEnv]
  (repeat' first | with_reducible (first | intro _ | refine rc ?_ | refine rl ?_ | refine rh ?_ | refine rt ?_ | refine rf ?_ | refine rs ?_ | refine And.intro ?_ ?_) | omega | simp (maxSteps := 1000000) only [go_sem, simprocAttr, ↓reduceIte])
  refine VcCall.ro (.agg [.int .i64 bw, .int .i64 bh, .ro (.bools q)]) (FnFr.of_ok k2 rfl rfl) (by simp only [noIdR_ok, argOkL, argOk, allOk, argOkN, List.drop_zero, lk, reduceIte, reduceCtorEq, Nat.reduceEqDiff, Option.some.injEq, Item.row.injEq, Item.box.injEq, AV.ro.injEq, exists_eq_left, exists_and_left, exists_eq_left', exists_eq_right, and_assoc, and_true, true_and, List.cons.injEq, exists_eq', exists_eq]) (by simp [outOk, argOkL, allOk, argOk, argOkN, lk, noIdR_ok]) rfl ?_
  (repeat' first | with_reducible (first | intro _ | refine rc ?_ | refine rl ?_ | refine rh ?_ | refine rt ?_ | refine rf ?_ | refine rs ?_ | refine And.intro ?_ ?_) | omega | simp (maxSteps := 1000000) only [go_sem, simprocAttr, ↓reduceIte])
  refine VcCall.ro (.ro (.ints .i64 L)) (FnFr.of_ok k3 rfl rfl) (by simp only [noIdR_ok, argOkL, argOk, allOk, argOkN, List.drop_zero, lk, reduceIte, reduceCtorEq, Nat.reduceEqDiff, Option.some.injEq, Item.row.injEq, Item.box.injEq, AV.ro.injEq, exists_eq_left, exists_and_left, exists_eq_left', exists_eq_right, and_assoc, and_true, true_and, List.cons.injEq, exists_eq', exists_eq]) (by simp [outOk, argOkL, allOk, argOk, argOkN, lk, noIdR_ok]) rfl ?_
  (repeat' first | with_reducible (first | intro _ | refine rc ?_ | refine rl ?_ | refine rh ?_ | refine rt ?_ | refine rf ?_ | refine rs ?_ | refine And.intro ?_ ?_) | omega | simp (maxSteps := 1000000) only [go_sem, simprocAttr, ↓reduceIte])
  refine VcCall.ro (.ro (peR R)) (FnFr.of_ok kJ rfl (by simp [noRoRows, noRoItem, noRoRow, noRoL, noRo, peR, peAv])) (by simp only [noIdR_ok, argOkL, argOk, allOk, argOkN, List.drop_zero, lk, reduceIte, reduceCtorEq, Nat.reduceEqDiff, Option.some.injEq, Item.row.injEq, Item.box.injEq, AV.ro.injEq, exists_eq_left, exists_and_left, exists_eq_left', exists_eq_right, and_assoc, and_true, true_and, List.cons.injEq, exists_eq', exists_eq]) (by simp [outOk, argOkL, allOk, argOk, argOkN, lk, noIdR_ok, peR]) rfl ?_
  unfold peR
  (repeat' first | with_reducible (first | intro _ | refine rc ?_ | refine rl ?_ | refine rh ?_ | refine rt ?_ | refine rf ?_ | refine rs ?_ | refine And.intro ?_ ?_) | omega | simp (maxSteps := 1000000) only [go_sem, simprocAttr, ↓reduceIte, List.length_map])
  refine VcLoop.intro (fun k : Nat => ⟨49, [(19, .int .i64 k), (18, .int .i64 R.length), (17, .ro (.objs 2 (R.map peAv))), (7, .own 0), (3, .ptr 1 0), (4, .ptr 2 0)], [(0, .row 26 (nbs ((R.take k).map (wordBox p w ⟨bx, by', bw, bh⟩)))), (1, .box 24 [.int .i64 w, .int .i64 h, .ro (.bools p)]), (2, .box 26 [.int .i64 bx, .int .i64 by', .int .i64 bw, .int .i64 bh])], 3⟩) (fun k => k ≤ R.length) (fun k => R.length - k) 0 ?_ (Nat.zero_le _) fun k hk => ?_
  · refine Ent.auto0 rfl ?_ ?_ <;> simp only [go_sem, reduceCtorEq, reduceIte, Nat.reduceEqDiff, Nat.reduceLT, Nat.reduceLeDiff, Int.natCast_succ, List.take_zero, List.map_nil, nbs, zrow]
  by_cases hlt : k < R.length
  · have he := pe_elem R hlt
    have hmem : R.getD k (0, 0) ∈ R := by rw [getD_lt hlt]; exact List.getElem_mem hlt
    have hmt := hm _ hmem
    have kTk := kT _ hmem
    have hs : ((R.take (k + 1)).map (wordBox p w ⟨bx, by', bw, bh⟩)).map Nb.av = ((R.take k).map (wordBox p w ⟨bx, by', bw, bh⟩)).map Nb.av ++ [(tightB p w (wordBoxT ⟨bx, by', bw, bh⟩ (R.getD k (0, 0)))).av] := by
      rw [take_succG (z := (0, 0)) hlt, List.map_append, List.map_append]; rfl
    have hll : ((R.take k).map (wordBox p w ⟨bx, by', bw, bh⟩)).length = k := by rw [List.length_map, List.length_take]; omega
    generalize R.getD k (0, 0) = t at *
    obtain ⟨a, e⟩ := t
    unfold wordBoxT at kTk hs
    dsimp only at hmt kTk hs he
    generalize tightB p w ⟨bx + a, by', e - a, bh⟩ = T at *
    obtain ⟨Tx, Ty, Tw, Th⟩ := T
    generalize (R.take k).map (wordBox p w ⟨bx, by', bw, bh⟩) = D at *
    unfold nbs
    dsimp only [Nb.av] at kTk hs
    have e1 : ((e - a : Nat) : Int) = (e : Int) - a := by omega
    have e2 : ((bx + a : Nat) : Int) = (bx : Int) + a := by omega
    rw [e1, e2] at kTk
    (repeat' first | with_reducible (first | intro _ | refine rc ?_ | refine rl ?_ | refine rh ?_ | refine rt ?_ | refine rf ?_ | refine rs ?_ | refine And.intro ?_ ?_) | omega | simp (maxSteps := 1000000) only [go_sem, simprocAttr, ↓reduceIte, List.length_map, elemA, he])
    refine VcCall.k kTk ?_
    (repeat' first | with_reducible (first | intro _ | refine rc ?_ | refine rl ?_ | refine rh ?_ | refine rt ?_ | refine rf ?_ | refine rs ?_ | refine And.intro ?_ ?_) | omega | simp (maxSteps := 1000000) only [go_sem, simprocAttr, ↓reduceIte, List.length_map])
    refine ⟨k + 1, Ent.auto0 rfl ?_ ?_, by omega, by omega⟩ <;> simp only [go_sem, reduceCtorEq, reduceIte, Nat.reduceEqDiff, Nat.reduceLT, Nat.reduceLeDiff, Int.natCast_succ, hs, nbs]
  · have e : k = R.length := by omega
    subst e
    rw [List.take_length]
    (repeat' first | with_reducible (first | intro _ | refine rc ?_ | refine rl ?_ | refine rh ?_ | refine rt ?_ | refine rf ?_ | refine rs ?_ | refine And.intro ?_ ?_) | omega | simp (maxSteps := 1000000) only [go_sem, simprocAttr, ↓reduceIte, List.length_map])
    refine Ret.auto 1 ?_ rfl ?_ <;> simp only [go_sem, reduceCtorEq, reduceIte, Nat.reduceEqDiff, Nat.reduceLT, Nat.reduceLeDiff, Int.natCast_succ, Post, nbs, renR_ok, belowR_ok]
end Go.Fv.Q

/-! The reference's gap between words: the walk. -/
namespace Go.Fv.Q
open Go Go.Proofs
set_option linter.unusedSimpArgs false
set_option linter.unusedVariables false
set_option linter.unnecessarySimpa false
set_option maxRecDepth 8000

/-- The reference's state and the program's. -/
def GpRel (W : List Int) (j : Nat) (best at' : Int) : Prop := (at' = -1 ∧ best = 1 ∧ gS W j = (W.getD (W.length - 1) 0 + 1, 2)) ∨ ∃ a : Nat, at' = a ∧ a < W.length ∧ 2 ≤ best ∧ gS W j = (W.getD a 0, best)
set_option maxHeartbeats 8000000 in
theorem rgap_ok (w h : Nat) (hw : w ≤ 4000) (hh : h ≤ 4000) (p : List Bool) (hp : p.length = w * h) (b : Nb) (hb : InP b w h) :
    FnOk Tryz.prog 15 [.agg [.int .i64 w, .int .i64 h, .ro (.bools p)], .agg b.av] (.int .i64 (gapV (inkS p w b))) [] := by
  have k2 := refCut_ok w h hw hh p hp b hb.1 hb.2
  have k3 := colsC_ok p w b (by unfold InP at hb; omega) (by unfold InP at hb; omega)
  have kJ := refStr_ok (fun i => colN p w b (b.x + i)) (fun j => !colE p w b (b.x + j)) (fun _ => rfl) b.w (by unfold InP at hb; omega) 1 (by decide)
  rw [show ((1 : Nat) : Int) = 1 from rfl, rfGo_one, show strs (fun j => !colE p w b (b.x + j)) b.w 0 = inkS p w b from rfl] at kJ
  have bS : ∀ s, s ∈ inkS p w b → s.1 ≤ 10000 ∧ s.2 ≤ 10000 := fun s hs => by
    have := inkS_mem hs
    unfold InP at hb; omega
  have hlen := inkS_len p w b
  generalize inkS p w b = SL at *
  generalize natL (fun i => colN p w b (b.x + i)) b.w = L at *
  generalize cutP p w b = q at *
  have hSb : SL.length ≤ 4000 := by unfold InP at hb; omega
  obtain ⟨bx, by', bw, bh⟩ := b
  have hbb := hb
  unfold InP at hbb
  dsimp only at hbb hlen
  simp only [Nb.av] at *
  refine FnOk.of_vc Tryz.func15 rfl (by decide) (by simp [Tryz.f15]) [.tmp 4] rfl fun w0 T0 _ => ?_
  simp only [Tryz.f15, argEnv]
  (repeat' first | with_reducible (first | intro _ | refine rc ?_ | refine rl ?_ | refine rh ?_ | refine rt ?_ | refine rf ?_ | refine rs ?_ | refine And.intro ?_ ?_) | omega | simp (maxSteps := 1000000) only [go_sem, simprocAttr, ↓reduceIte])
  refine VcCall.ro (.agg [.int .i64 bw, .int .i64 bh, .ro (.bools q)]) (FnFr.of_ok k2 rfl rfl) (by simp only [noIdR_ok, argOkL, argOk, allOk, argOkN, List.drop_zero, lk, reduceIte, reduceCtorEq, Nat.reduceEqDiff, Option.some.injEq, Item.row.injEq, Item.box.injEq, AV.ro.injEq, exists_eq_left, exists_and_left, exists_eq_left', exists_eq_right, and_assoc, and_true, true_and, List.cons.injEq, exists_eq', exists_eq]) (by simp [outOk, argOkL, allOk, argOk, argOkN, lk, noIdR_ok]) rfl ?_
  (repeat' first | with_reducible (first | intro _ | refine rc ?_ | refine rl ?_ | refine rh ?_ | refine rt ?_ | refine rf ?_ | refine rs ?_ | refine And.intro ?_ ?_) | omega | simp (maxSteps := 1000000) only [go_sem, simprocAttr, ↓reduceIte])
  refine VcCall.ro (.ro (.ints .i64 L)) (FnFr.of_ok k3 rfl rfl) (by simp only [noIdR_ok, argOkL, argOk, allOk, argOkN, List.drop_zero, lk, reduceIte, reduceCtorEq, Nat.reduceEqDiff, Option.some.injEq, Item.row.injEq, Item.box.injEq, AV.ro.injEq, exists_eq_left, exists_and_left, exists_eq_left', exists_eq_right, and_assoc, and_true, true_and, List.cons.injEq, exists_eq', exists_eq]) (by simp [outOk, argOkL, allOk, argOk, argOkN, lk, noIdR_ok]) rfl ?_
  (repeat' first | with_reducible (first | intro _ | refine rc ?_ | refine rl ?_ | refine rh ?_ | refine rt ?_ | refine rf ?_ | refine rs ?_ | refine And.intro ?_ ?_) | omega | simp (maxSteps := 1000000) only [go_sem, simprocAttr, ↓reduceIte])
  refine VcCall.ro (.ro (peR (SL.map toE))) (FnFr.of_ok kJ rfl (by simp [noRoRows, noRoItem, noRoRow, noRoL, noRo, peR, peAv])) (by simp only [noIdR_ok, argOkL, argOk, allOk, argOkN, List.drop_zero, lk, reduceIte, reduceCtorEq, Nat.reduceEqDiff, Option.some.injEq, Item.row.injEq, Item.box.injEq, AV.ro.injEq, exists_eq_left, exists_and_left, exists_eq_left', exists_eq_right, and_assoc, and_true, true_and, List.cons.injEq, exists_eq', exists_eq]) (by simp [outOk, argOkL, allOk, argOk, argOkN, lk, noIdR_ok, peR, -List.map_map]) rfl ?_
  unfold peR
  (repeat' first | with_reducible (first | intro _ | refine rc ?_ | refine rl ?_ | refine rh ?_ | refine rt ?_ | refine rf ?_ | refine rs ?_ | refine And.intro ?_ ?_) | omega | simp (maxSteps := 1000000) only [go_sem, simprocAttr, ↓reduceIte, List.length_map])
  have elem : ∀ i, i < SL.length → ((SL.map toE).map peAv).getD i [] = [.int .i64 (SL.getD i (0, 0)).1, .int .i64 ((SL.getD i (0, 0)).1 + (SL.getD i (0, 0)).2 : Nat)] := fun i hi => by
    rw [pe_elem _ (by simpa using hi), getD_lt (by simpa using hi), getD_lt hi, List.getElem_map]; rfl
  have hSA : ((SL.map toE).map peAv).length = SL.length := by rw [List.length_map, List.length_map]
  generalize (SL.map toE).map peAv = SA at *
  refine VcLoop.intro (fun i : Nat => ⟨81, [(7, .int .i64 (i + 1 : Nat)), (5, .ro (.objs 2 SA)), (6, .own 0)], [(0, .row 3 (.ints .i64 (gpl SL i)))], 1⟩) (fun i => i ≤ SL.length - 1) (fun i => SL.length - i) 0 ?_ (Nat.zero_le _) fun i hi => ?_
  · refine Ent.auto0 rfl ?_ ?_ <;> simp only [go_sem, reduceCtorEq, reduceIte, Nat.reduceEqDiff, Nat.reduceLT, Nat.reduceLeDiff, Int.natCast_succ, gpl, List.range_zero, List.map_nil]
    all_goals rfl
  have hll := gpl_len SL i
  have hsu := gpl_succ SL i
  by_cases hlt : i + 1 < SL.length
  · have e1 := elem (i + 1) hlt
    have e0 := elem i (by omega)
    have b1 := bS (SL.getD (i + 1) (0, 0)) (by rw [getD_lt hlt]; exact List.getElem_mem hlt)
    have b0 := bS (SL.getD i (0, 0)) (by rw [getD_lt (show i < SL.length by omega)]; exact List.getElem_mem _)
    unfold gpf at hsu
    generalize SL.getD (i + 1) (0, 0) = u at *
    generalize SL.getD i (0, 0) = v at *
    generalize gpl SL i = G at *
    obtain ⟨u1, u2⟩ := u
    obtain ⟨v1, v2⟩ := v
    dsimp only at e1 e0 b1 b0 hsu
    have eN : (((i + 1 : Nat) : Int) - 1).toNat = i := by omega
    (repeat' first | with_reducible (first | intro _ | refine rc ?_ | refine rl ?_ | refine rh ?_ | refine rt ?_ | refine rf ?_ | refine rs ?_ | refine And.intro ?_ ?_) | omega | simp (maxSteps := 1000000) only [go_sem, simprocAttr, ↓reduceIte, hSA, Int.toNat_natCast])
    refine VcDraw.lex [13, 14] [(0, [1])] (by kernel_rfl) (by kernel_rfl) ?_
    (repeat' first | with_reducible (first | intro _ | refine rc ?_ | refine rl ?_ | refine rh ?_ | refine rt ?_ | refine rf ?_ | refine rs ?_ | refine And.intro ?_ ?_) | omega | simp (maxSteps := 1000000) only [go_sem, simprocAttr, ↓reduceIte, hSA, Int.toNat_natCast, eN, e1, e0])
    have eD : (u1 : Int) - ((v1 : Int) + v2) = (u1 : Int) - v1 - v2 := by omega
    refine ⟨i + 1, Ent.auto0 rfl ?_ ?_, by omega, by omega⟩ <;> simp only [go_sem, reduceCtorEq, reduceIte, Nat.reduceEqDiff, Nat.reduceLT, Nat.reduceLeDiff, Int.natCast_succ, hsu, eD, Int.natCast_add]
    all_goals rfl
  · have hi2 : i = SL.length - 1 := by omega
    (repeat' first | with_reducible (first | intro _ | refine rc ?_ | refine rl ?_ | refine rh ?_ | refine rt ?_ | refine rf ?_ | refine rs ?_ | refine And.intro ?_ ?_) | omega | simp (maxSteps := 1000000) only [go_sem, simprocAttr, ↓reduceIte, hSA])
    · rename_i h0
      have e : gapV SL = 1 := by unfold gapV; rw [if_pos (by omega)]
      rw [e]
      refine Ret.auto 0 ?_ rfl ?_ <;> simp only [go_sem, reduceCtorEq, reduceIte, Nat.reduceEqDiff, Nat.reduceLT, Nat.reduceLeDiff, Int.natCast_succ, Post]
    · rename_i h0
      have e : gapV SL = gapR (sortI (gpl SL i)) := by unfold gapV; rw [if_neg (by omega), hi2]
      have hWb := sortI_bd (gpl_bd bS i)
      have hWl : (sortI (gpl SL i)).length = i := by rw [sortI_lenG, hll]
      rw [e]
      refine VcCall.io [0] (sortR_ok (gpl SL i) (by omega)) (by decide) (by simp [renL, ren, ioN]) rfl (by simp [subOk, ioN, lk, Item.ren, Item.below, ren, renL, belowL, Fv.below, renR, belowR]) cov1 1 (by decide) rfl (by simp [rowsB, Item.below, Fv.below, belowL, belowR]) ?_
      generalize sortI (gpl SL i) = W at *
      have hb1 := wb_get hWb (W.length - 1)
      have eL : ((W.length : Int) - 1).toNat = W.length - 1 := by omega
      have hWp : 0 < W.length := by omega
      have hgb := gS_bd hWb
      unfold gapR
      (repeat' first | with_reducible (first | intro _ | refine rc ?_ | refine rl ?_ | refine rh ?_ | refine rt ?_ | refine rf ?_ | refine rs ?_ | refine And.intro ?_ ?_) | omega | simp (maxSteps := 1000000) only [go_sem, simprocAttr, ↓reduceIte, S.ioS, ioRows, ioN, delL, Item.ren, ren, renL, renR, List.map_nil, List.length_cons, List.length_nil, List.getElem?_cons_zero, List.getElem?_nil, List.cons_append, List.nil_append, Nat.reduceAdd, Nat.sub_self, Nat.add_zero, List.filter, eL])
      refine VcLoop.intro (fun x : Nat × Int × Int => ⟨81, [(10, .int .i64 (x.1 + 1 : Nat)), (6, .own 0), (8, .int .i64 x.2.1), (9, .int .i64 x.2.2)], [(0, .row 3 (.ints .i64 W))], 1⟩) (fun x => x.1 ≤ W.length - 1 ∧ GpRel W x.1 x.2.1 x.2.2) (fun x => W.length - x.1) (0, 1, -1) ?_ ⟨Nat.zero_le _, .inl ⟨rfl, rfl, rfl⟩⟩ fun x hx => ?_
      · refine Ent.auto0 rfl ?_ ?_ <;> simp only [go_sem, reduceCtorEq, reduceIte, Nat.reduceEqDiff, Nat.reduceLT, Nat.reduceLeDiff, Int.natCast_succ]
        all_goals first | exact ⟨rfl, rfl⟩ | exact ⟨rfl, rfl, rfl⟩ | rfl
      obtain ⟨j, best, at'⟩ := x
      obtain ⟨hj, hR⟩ := hx
      dsimp only at hj hR ⊢
      have hgj := hgb j
      by_cases hlj : j + 1 < W.length
      · have hs : gS W (j + 1) = if (gS W j).2 ≤ W.getD (j + 1) 0 - W.getD j 0 then (W.getD (j + 1) 0, W.getD (j + 1) 0 - W.getD j 0) else gS W j := rfl
        have c1 := wb_get hWb (j + 1)
        have c0 := wb_get hWb j
        have eN : (((j + 1 : Nat) : Int) - 1).toNat = j := by omega
        have hbb2 : -1 ≤ at' ∧ at' ≤ 5000 ∧ 1 ≤ best ∧ best ≤ 200000 := by
          rcases hR with ⟨r1, r2, r3⟩ | ⟨a, r1, r2, r3, r4⟩
          · omega
          · rw [r4] at hgj; dsimp only at hgj; omega
        have hcond : (gS W j).2 ≤ W.getD (j + 1) 0 - W.getD j 0 ↔ (2 ≤ W.getD (j + 1) 0 - W.getD j 0 ∧ best ≤ W.getD (j + 1) 0 - W.getD j 0) := by
          rcases hR with ⟨r1, r2, r3⟩ | ⟨a, r1, r2, r3, r4⟩
          · rw [r3]; dsimp only; omega
          · rw [r4]; dsimp only; omega
        (repeat' first | with_reducible (first | intro _ | refine rc ?_ | refine rl ?_ | refine rh ?_ | refine rt ?_ | refine rf ?_ | refine rs ?_ | refine And.intro ?_ ?_) | omega | simp (maxSteps := 1000000) only [go_sem, simprocAttr, ↓reduceIte, Int.toNat_natCast])
        refine VcDraw.lex [] [] (by kernel_rfl) (by kernel_rfl) ?_
        generalize hx : W.getD (j + 1) 0 = x at *
        generalize hy : W.getD j 0 = y at *
        (repeat' first | with_reducible (first | intro _ | refine rc ?_ | refine rl ?_ | refine rh ?_ | refine rt ?_ | refine rf ?_ | refine rs ?_ | refine And.intro ?_ ?_) | omega | simp (maxSteps := 1000000) only [go_sem, simprocAttr, ↓reduceIte, Int.toNat_natCast, eN, hx, hy])
        · rename_i h9
          rw [if_pos (hcond.2 (by omega))] at hs
          refine ⟨(j + 1, x - y, ((j + 1 : Nat) : Int)), Ent.auto0 rfl ?_ ?_, ⟨by dsimp only; omega, .inr ⟨j + 1, rfl, hlj, by show 2 ≤ x - y; omega, by dsimp only; rw [hs, hx]⟩⟩, by dsimp only; omega⟩ <;> simp only [go_sem, reduceCtorEq, reduceIte, Nat.reduceEqDiff, Nat.reduceLT, Nat.reduceLeDiff, Int.natCast_succ, Int.natCast_add]
          all_goals rfl
        · rename_i h9
          rw [if_neg (fun h8 => h9 (hcond.1 h8))] at hs
          have hR' : GpRel W (j + 1) best at' := by
            rcases hR with ⟨r1, r2, r3⟩ | ⟨a, r1, r2, r3, r4⟩
            · exact .inl ⟨r1, r2, hs.trans r3⟩
            · exact .inr ⟨a, r1, r2, r3, hs.trans r4⟩
          refine ⟨(j + 1, best, at'), Ent.auto0 rfl ?_ ?_, ⟨by dsimp only; omega, hR'⟩, by dsimp only; omega⟩ <;> simp only [go_sem, reduceCtorEq, reduceIte, Nat.reduceEqDiff, Nat.reduceLT, Nat.reduceLeDiff, Int.natCast_succ, Int.natCast_add]
          all_goals rfl
      · have ej : j = W.length - 1 := by omega
        rw [← ej]
        rcases hR with ⟨r1, r2, r3⟩ | ⟨a, r1, r2, r3, r4⟩
        · subst r1
          rw [r3]
          (repeat' first | with_reducible (first | intro _ | refine rc ?_ | refine rl ?_ | refine rh ?_ | refine rt ?_ | refine rf ?_ | refine rs ?_ | refine And.intro ?_ ?_) | omega | simp (maxSteps := 1000000) only [go_sem, simprocAttr, ↓reduceIte, eL])
          refine Ret.auto 0 ?_ rfl ?_ <;> simp only [go_sem, reduceCtorEq, reduceIte, Nat.reduceEqDiff, Nat.reduceLT, Nat.reduceLeDiff, Int.natCast_succ, Post]
        · subst r1
          rw [r4]
          (repeat' first | with_reducible (first | intro _ | refine rc ?_ | refine rl ?_ | refine rh ?_ | refine rt ?_ | refine rf ?_ | refine rs ?_ | refine And.intro ?_ ?_) | omega | simp (maxSteps := 1000000) only [go_sem, simprocAttr, ↓reduceIte, eL, Int.toNat_natCast])
          refine Ret.auto 0 ?_ rfl ?_ <;> simp only [go_sem, reduceCtorEq, reduceIte, Nat.reduceEqDiff, Nat.reduceLT, Nat.reduceLeDiff, Int.natCast_succ, Post]
end Go.Fv.Q

/-! The reference's stretches: the walk. -/
namespace Go.Fv.Q
open Go Go.Proofs
set_option linter.unusedSimpArgs false
set_option linter.unusedVariables false
set_option linter.unnecessarySimpa false
set_option maxRecDepth 8000

def hasL (l : List Int) : List Bool := l.map fun n => decide (0 < n)
set_option maxHeartbeats 2000000 in
theorem has_ok (l : List Int) (hl : l.length ≤ 100000) : FnOk Tryz.prog 84 [.ro (.ints .i64 l)] (.own 0) [(0, .row 4 (.bools (hasL l)))] := by
  refine FnOk.of_vc Tryz.func84 rfl (by decide) (by simp [Tryz.f84]) [.tmp 2] rfl fun w0 T0 _ => ?_
  simp only [Tryz.f84, argEnv]
  (repeat' first | with_reducible (first | intro _ | refine rc ?_ | refine rl ?_ | refine rh ?_ | refine rt ?_ | refine rf ?_ | refine rs ?_ | refine And.intro ?_ ?_) | omega | simp (maxSteps := 1000000) only [go_sem, simprocAttr, ↓reduceIte])
  refine VcLoop.intro (fun i : Nat => ⟨19, [(8, .int .i64 i), (7, .int .i64 l.length), (6, .ro (.ints .i64 l)), (3, .own 0)], [(0, .row 4 (.bools (hasL (l.take i))))], 1⟩) (fun i => i ≤ l.length) (fun i => l.length - i) 0 ?_ (Nat.zero_le _) fun i hi => ?_
  · refine Ent.auto0 rfl ?_ ?_ <;> simp only [go_sem, reduceCtorEq, reduceIte, Nat.reduceEqDiff, Nat.reduceLT, Nat.reduceLeDiff, Int.natCast_succ, hasL, List.take_zero, List.map_nil]
  by_cases hlt : i < l.length
  · have hs : hasL (l.take (i + 1)) = hasL (l.take i) ++ [decide (0 < l.getD i 0)] := by
      unfold hasL; rw [List.take_add_one, List.getElem?_eq_getElem hlt, List.map_append, getD_lt hlt]; rfl
    have hll : (hasL (l.take i)).length = i := by unfold hasL; rw [List.length_map, List.length_take]; omega
    generalize hasL (l.take i) = L at *
    (repeat' first | with_reducible (first | intro _ | refine rc ?_ | refine rl ?_ | refine rh ?_ | refine rt ?_ | refine rf ?_ | refine rs ?_ | refine And.intro ?_ ?_) | omega | simp (maxSteps := 1000000) only [go_sem, simprocAttr, ↓reduceIte])
    refine ⟨i + 1, Ent.auto0 rfl ?_ ?_, by omega, by omega⟩ <;> simp only [go_sem, reduceCtorEq, reduceIte, Nat.reduceEqDiff, Nat.reduceLT, Nat.reduceLeDiff, Int.natCast_succ, hs]
  · have e : i = l.length := by omega
    subst e
    rw [List.take_length]
    (repeat' first | with_reducible (first | intro _ | refine rc ?_ | refine rl ?_ | refine rh ?_ | refine rt ?_ | refine rf ?_ | refine rs ?_ | refine And.intro ?_ ?_) | omega | simp (maxSteps := 1000000) only [go_sem, simprocAttr, ↓reduceIte])
    refine Ret.auto 1 ?_ rfl ?_ <;> simp only [go_sem, reduceCtorEq, reduceIte, Nat.reduceEqDiff, Nat.reduceLT, Nat.reduceLeDiff, Int.natCast_succ, Post]
theorem hasL_natL (g : Nat → Nat) (n : Nat) : hasL (natL g n) = (List.range n).map fun i => !decide (g i = 0) := by
  unfold hasL natL
  rw [List.map_map]
  refine List.map_congr_left fun i _ => ?_
  show decide (0 < ((g i : Nat) : Int)) = !decide (g i = 0)
  by_cases h : g i = 0
  · rw [h]; rfl
  · rw [decide_eq_true (by omega), decide_eq_false h]; rfl
theorem wide_bd2 {least : Nat} {b s : Nat × Nat} {n : Nat} (h1 : b.1 ≤ n ∧ b.2 ≤ n) (h2 : s.1 ≤ n ∧ s.2 ≤ n) : (wide least b s).1 ≤ n ∧ (wide least b s).2 ≤ n := by
  unfold wide; split <;> assumption
set_option maxHeartbeats 4000000 in
theorem rstretch_ok (is : Nat → Bool) (n least : Nat) (hn : n ≤ 4000) : FnOk Tryz.prog 116 [.ro (.bools ((List.range n).map fun i => !is i)), .int .i64 least] (.tup [.int .i64 (stGo is least n 0 0 (0, 0)).1, .int .i64 (stGo is least n 0 0 (0, 0)).2]) [] := by
  have hlen : ((List.range n).map fun i => !is i).length = n := by simp
  have k := cloneBools_ok ((List.range n).map fun i => !is i) (by rw [hlen]; omega)
  have hg : ∀ i, i < n → (((List.range n).map fun i => !is i) ++ [true]).getD i false = !is i := fun i hi => by
    rw [List.getD_eq_getElem?_getD, List.getElem?_append_left (by rw [hlen]; exact hi), List.getElem?_map, List.getElem?_range hi]; rfl
  have hgn : (((List.range n).map fun i => !is i) ++ [true]).getD n false = true := by
    rw [List.getD_eq_getElem?_getD, List.getElem?_append_right (by rw [hlen]; exact Nat.le_refl _), hlen]; simp
  generalize (List.range n).map (fun i => !is i) = l at *
  refine FnOk.of_vc Tryz.func116 rfl (by decide) (by simp [Tryz.f116]) [.tmp 4, .tmp 5] rfl fun w0 T0 _ => ?_
  simp only [Tryz.f116, argEnv]
  (repeat' first | with_reducible (first | intro _ | refine rc ?_ | refine rl ?_ | refine rh ?_ | refine rt ?_ | refine rf ?_ | refine rs ?_ | refine And.intro ?_ ?_) | omega | simp (maxSteps := 1000000) only [go_sem, simprocAttr, ↓reduceIte])
  refine VcCall.fr (FnFr.of_ok k rfl rfl) (by simp only [noIdR_ok, argOkL, argOk, allOk, argOkN, List.drop_zero, lk, reduceIte, reduceCtorEq, Nat.reduceEqDiff, Option.some.injEq, Item.row.injEq, Item.box.injEq, AV.ro.injEq, exists_eq_left, exists_and_left, exists_eq_left', exists_eq_right, and_assoc, and_true, true_and, List.cons.injEq, exists_eq', exists_eq]) 1 rfl (by simp [rowsB, Item.below, Fv.below, belowR]) ?_
  (repeat' first | with_reducible (first | intro _ | refine rc ?_ | refine rl ?_ | refine rh ?_ | refine rt ?_ | refine rf ?_ | refine rs ?_ | refine And.intro ?_ ?_) | omega | simp (maxSteps := 1000000) only [go_sem, simprocAttr, ↓reduceIte])
  have hlen2 : (l ++ [true]).length = n + 1 := by rw [List.length_append, hlen]; rfl
  refine VcLoop.intro (fun x : Nat × Nat × Nat × Nat => ⟨38, [(14, .int .i64 x.1), (13, .int .i64 (n + 1 : Nat)), (12, .own 0), (1, .int .i64 least), (6, .int .i64 x.2.1), (4, .int .i64 x.2.2.1), (5, .int .i64 x.2.2.2)], [(0, .row 4 (.bools (l ++ [true])))], 1⟩)
    (fun x => x.1 ≤ n + 1 ∧ x.2.1 ≤ x.1 ∧ (x.2.2.1 ≤ 5000 ∧ x.2.2.2 ≤ 5000) ∧ (x.1 ≤ n → stGo is least (n - x.1) x.1 x.2.1 x.2.2 = stGo is least n 0 0 (0, 0)) ∧ (x.1 = n + 1 → x.2.2 = stGo is least n 0 0 (0, 0))) (fun x => n + 1 - x.1) (0, 0, 0, 0) ?_ ⟨Nat.zero_le _, Nat.le_refl _, ⟨Nat.zero_le _, Nat.zero_le _⟩, fun _ => rfl, fun h => by dsimp only at h; omega⟩ fun x hx => ?_
  · refine Ent.auto0 rfl ?_ ?_ <;> simp only [go_sem, reduceCtorEq, reduceIte, Nat.reduceEqDiff, Nat.reduceLT, Nat.reduceLeDiff, Int.natCast_succ, hlen]
  obtain ⟨i, c, b1, b2⟩ := x
  obtain ⟨h1, h2, h3, h4, h5⟩ := hx
  dsimp only at h1 h2 h3 h4 h5 ⊢
  generalize stGo is least n 0 0 (0, 0) = R at *
  generalize l ++ [true] = l' at *
  have hbd : ∀ s : Nat × Nat, s.1 ≤ 5000 ∧ s.2 ≤ 5000 → (wide least (b1, b2) s).1 ≤ 5000 ∧ (wide least (b1, b2) s).2 ≤ 5000 := fun s hs => wide_bd2 h3 hs
  by_cases hi : i < n
  · have e := hg i hi
    have hst := h4 (by omega)
    rw [show n - i = (n - (i + 1)) + 1 by omega, stGo] at hst
    cases hb : is i with
    | true =>
      rw [hb] at e
      rw [if_pos hb] at hst
      (repeat' first | with_reducible (first | intro _ | refine rc ?_ | refine rl ?_ | refine rh ?_ | refine rt ?_ | refine rf ?_ | refine rs ?_ | refine And.intro ?_ ?_) | omega | simp (maxSteps := 1000000) only [go_sem, simprocAttr, ↓reduceIte, e, Bool.not_true])
      refine ⟨(i + 1, c + 1, b1, b2), Ent.auto0 rfl ?_ ?_, ⟨by dsimp only; omega, by dsimp only; omega, h3, fun _ => hst, fun hh => by dsimp only at hh; omega⟩, by dsimp only; omega⟩ <;> simp only [go_sem, reduceCtorEq, reduceIte, Nat.reduceEqDiff, Nat.reduceLT, Nat.reduceLeDiff, Int.natCast_succ]
    | false =>
      rw [hb] at e
      rw [if_neg (by rw [hb]; decide)] at hst
      have hw := hbd (i - c, c) ⟨by dsimp only; omega, by dsimp only; omega⟩
      have ew : wide least (b1, b2) (i - c, c) = if least ≤ c ∧ b2 < c then (i - c, c) else (b1, b2) := rfl
      rw [ew] at hst hw
      (repeat' first | with_reducible (first | intro _ | refine rc ?_ | refine rl ?_ | refine rh ?_ | refine rt ?_ | refine rf ?_ | refine rs ?_ | refine And.intro ?_ ?_) | omega | simp (maxSteps := 1000000) only [go_sem, simprocAttr, ↓reduceIte, e, Bool.not_false])
      · rw [if_pos (by omega)] at hst hw
        refine ⟨(i + 1, 0, i - c, c), Ent.auto0 rfl ?_ ?_, ⟨by dsimp only; omega, by dsimp only; omega, hw, fun _ => hst, fun hh => by dsimp only at hh; omega⟩, by dsimp only; omega⟩ <;> simp only [go_sem, reduceCtorEq, reduceIte, Nat.reduceEqDiff, Nat.reduceLT, Nat.reduceLeDiff, Int.natCast_succ]
        omega
      · rw [if_neg (by omega)] at hst hw
        refine ⟨(i + 1, 0, b1, b2), Ent.auto0 rfl ?_ ?_, ⟨by dsimp only; omega, by dsimp only; omega, h3, fun _ => hst, fun hh => by dsimp only at hh; omega⟩, by dsimp only; omega⟩ <;> simp only [go_sem, reduceCtorEq, reduceIte, Nat.reduceEqDiff, Nat.reduceLT, Nat.reduceLeDiff, Int.natCast_succ]
  · by_cases hin : i = n
    · subst hin
      have hst := h4 (Nat.le_refl _)
      rw [Nat.sub_self, stGo] at hst
      have hw := hbd (i - c, c) ⟨by dsimp only; omega, by dsimp only; omega⟩
      have ew : wide least (b1, b2) (i - c, c) = if least ≤ c ∧ b2 < c then (i - c, c) else (b1, b2) := rfl
      rw [ew] at hst hw
      (repeat' first | with_reducible (first | intro _ | refine rc ?_ | refine rl ?_ | refine rh ?_ | refine rt ?_ | refine rf ?_ | refine rs ?_ | refine And.intro ?_ ?_) | omega | simp (maxSteps := 1000000) only [go_sem, simprocAttr, ↓reduceIte, hgn])
      · rw [if_pos (by omega)] at hst hw
        refine ⟨(i + 1, 0, i - c, c), Ent.auto0 rfl ?_ ?_, ⟨by dsimp only; omega, by dsimp only; omega, hw, fun hh => by dsimp only at hh; omega, fun _ => hst⟩, by dsimp only; omega⟩ <;> simp only [go_sem, reduceCtorEq, reduceIte, Nat.reduceEqDiff, Nat.reduceLT, Nat.reduceLeDiff, Int.natCast_succ]
        omega
      · rw [if_neg (by omega)] at hst hw
        refine ⟨(i + 1, 0, b1, b2), Ent.auto0 rfl ?_ ?_, ⟨by dsimp only; omega, by dsimp only; omega, h3, fun hh => by dsimp only at hh; omega, fun _ => hst⟩, by dsimp only; omega⟩ <;> simp only [go_sem, reduceCtorEq, reduceIte, Nat.reduceEqDiff, Nat.reduceLT, Nat.reduceLeDiff, Int.natCast_succ]
    · have e : i = n + 1 := by omega
      subst e
      have hst := h5 rfl
      subst hst
      (repeat' first | with_reducible (first | intro _ | refine rc ?_ | refine rl ?_ | refine rh ?_ | refine rt ?_ | refine rf ?_ | refine rs ?_ | refine And.intro ?_ ?_) | omega | simp (maxSteps := 1000000) only [go_sem, simprocAttr, ↓reduceIte])
      refine Ret.auto 0 ?_ rfl ?_ <;> simp only [go_sem, reduceCtorEq, reduceIte, Nat.reduceEqDiff, Nat.reduceLT, Nat.reduceLeDiff, Int.natCast_succ, Post]
/-- Where a box is to be divided. -/
def cutRes (c r : Nat × Nat) (gx gy : Nat) : Nat × Nat × Nat := if c.2 = 0 ∧ r.2 = 0 then (0, 0, 0) else if r.2 = 0 ∨ (0 < c.2 ∧ r.2 * gx < c.2 * gy) then (1, c.1, c.2) else (2, r.1, r.2)
theorem mul_bdR {a b : Nat} (ha : a ≤ 10000) (hb : b ≤ 4000) : 0 ≤ (a : Int) * b ∧ (a : Int) * b ≤ 40000000 := by
  have : a * b ≤ 10000 * 4000 := Nat.mul_le_mul ha hb
  rw [← Int.natCast_mul]
  omega
set_option maxHeartbeats 4000000 in
theorem cutAt_ok (A B : List Bool) (c r : Nat × Nat) (gx gy : Nat) (hgx : gx ≤ 4000) (hgy : gy ≤ 4000) (hc : c.2 ≤ 10000) (hr : r.2 ≤ 10000)
    (k1 : FnOk Tryz.prog 116 [.ro (.bools A), .int .i64 gx] (.tup [.int .i64 c.1, .int .i64 c.2]) []) (k2 : FnOk Tryz.prog 116 [.ro (.bools B), .int .i64 gy] (.tup [.int .i64 r.1, .int .i64 r.2]) []) :
    FnOk Tryz.prog 85 [.ro (.bools A), .ro (.bools B), .int .i64 gx, .int .i64 gy] (.tup [.int .i64 (cutRes c r gx gy).1, .int .i64 (cutRes c r gx gy).2.1, .int .i64 (cutRes c r gx gy).2.2]) [] := by
  obtain ⟨c1, c2⟩ := c
  obtain ⟨r1, r2⟩ := r
  dsimp only at *
  have m1 := mul_bdR hc hgy
  have m2 := mul_bdR hr hgx
  have e1 := Int.natCast_mul c2 gy
  have e2 := Int.natCast_mul r2 gx
  unfold cutRes
  dsimp only
  refine FnOk.of_vc Tryz.func85 rfl (by decide) (by simp [Tryz.f85]) [.tmp 8, .tmp 9, .tmp 10] rfl fun w0 T0 _ => ?_
  simp only [Tryz.f85, argEnv]
  (repeat' first | with_reducible (first | intro _ | refine rc ?_ | refine rl ?_ | refine rh ?_ | refine rt ?_ | refine rf ?_ | refine rs ?_ | refine And.intro ?_ ?_) | omega | simp (maxSteps := 1000000) only [go_sem, simprocAttr, ↓reduceIte])
  refine VcCall.k (k1) ?_
  (repeat' first | with_reducible (first | intro _ | refine rc ?_ | refine rl ?_ | refine rh ?_ | refine rt ?_ | refine rf ?_ | refine rs ?_ | refine And.intro ?_ ?_) | omega | simp (maxSteps := 1000000) only [go_sem, simprocAttr, ↓reduceIte])
  refine VcCall.k (k2) ?_
  (repeat' first | with_reducible (first | intro _ | refine rc ?_ | refine rl ?_ | refine rh ?_ | refine rt ?_ | refine rf ?_ | refine rs ?_ | refine And.intro ?_ ?_) | omega | simp (maxSteps := 1000000) only [go_sem, simprocAttr, ↓reduceIte])
  · rename_i h0
    rw [if_pos (show c2 = 0 ∧ r2 = 0 by omega)]
    refine Ret.auto 0 ?_ rfl ?_ <;> simp only [go_sem, reduceCtorEq, reduceIte, Nat.reduceEqDiff, Nat.reduceLT, Nat.reduceLeDiff, Int.natCast_succ, Post]
    all_goals rfl
  · rename_i h0 h1
    rw [if_neg (show ¬ (c2 = 0 ∧ r2 = 0) by omega), if_pos (show r2 = 0 ∨ (0 < c2 ∧ r2 * gx < c2 * gy) by rw [Int.natCast_mul c2 gy |>.symm, Int.natCast_mul r2 gx |>.symm] at h1; omega)]
    refine Ret.auto 0 ?_ rfl ?_ <;> simp only [go_sem, reduceCtorEq, reduceIte, Nat.reduceEqDiff, Nat.reduceLT, Nat.reduceLeDiff, Int.natCast_succ, Post]
    all_goals rfl
  · rename_i h0 h1
    rw [if_neg (show ¬ (c2 = 0 ∧ r2 = 0) by omega), if_neg (show ¬ (r2 = 0 ∨ (0 < c2 ∧ r2 * gx < c2 * gy)) by rw [Int.natCast_mul c2 gy |>.symm, Int.natCast_mul r2 gx |>.symm] at h1; omega)]
    refine Ret.auto 0 ?_ rfl ?_ <;> simp only [go_sem, reduceCtorEq, reduceIte, Nat.reduceEqDiff, Nat.reduceLT, Nat.reduceLeDiff, Int.natCast_succ, Post]
    all_goals rfl
end Go.Fv.Q
