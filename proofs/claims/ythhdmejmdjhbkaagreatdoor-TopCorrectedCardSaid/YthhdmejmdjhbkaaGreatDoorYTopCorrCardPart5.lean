/-
  A part of the proof of the claim: walks over the program's functions and the plain laws that these need. No condition of its own.
-/
import Derived.Test.YthhdmejmdjhbkaaGreatDoorYTopCorrCardPart4
import Derived.Test.YthhdmejmdjhbkaaGreatDoorYTopCorrCardPart1
import Derived.Shelf.Small.Strs
import Derived.Test.YthhdmejmdjhbkaaGreatDoorYTopCorrCardPart3
import Derived.Test.YthhdmejmdjhbkaaGreatDoorFvPart11
import Derived.Test.YthhdmejmdjhbkaaGreatDoorYTopCorrCardPart2
/- slices.SortStableFunc of fewer than forty guesses. -/
namespace Go.Fv.Y
open Go Go.Proofs
set_option linter.unusedSimpArgs false
set_option linter.unusedVariables false
set_option linter.unnecessarySimpa false
set_option maxRecDepth 8000

theorem sortG_parts {A B : List Gs} : sortG (sortG A ++ sortG B) = sortG (A ++ B) :=
  sortG_eq ((sortG_perm _).trans ((sortG_perm A).append (sortG_perm B))) (sortG_le _)
theorem stab_parts {A B : List Gs} (h : Stab (A ++ B)) : Stab (sortG A ++ sortG B) := by
  obtain ⟨h1, h2, h3⟩ := List.pairwise_append.1 h
  exact List.pairwise_append.2 ⟨stab_sort h1, stab_sort h2, fun x hx y hy => h3 x ((sortG_perm A).mem_iff.1 hx) y ((sortG_perm B).mem_iff.1 hy)⟩
set_option maxHeartbeats 16000000 in
theorem stableCmp_io (F : Nat) (hF : CmpG F) (l : List Gs) (n : Nat) (hn : l.length = n) (h40 : n < 40) (hS : Stab l) :
    FnIO Tryz.prog 123 [.own 0, .int .i64 n, .fn F []] [(0, .row 65 (gsR l))] 1 (.tup []) [(0, .row 65 (gsR (sortG l)))] := by
  refine FnIO.of_vc Tryz.func123 rfl (by decide) (by simp [Tryz.f123]) covG1 [] rfl fun w0 T0 _ => ?_
  simp only [Tryz.f123, argEnv]
  rcases Nat.lt_or_ge n 20 with h20 | h20
  · have k := insertion_io F hF [] l [] 0 n rfl (by simp [hn]) hS (by simp; omega)
    simp only [List.nil_append, List.append_nil] at k
    (repeat' first | with_reducible (first | intro _ | refine rc ?_ | refine rl ?_ | refine rh ?_ | refine ru ?_ | refine rt ?_ | refine rf ?_ | refine rs ?_ | refine And.intro ?_ ?_) | omega | simp (maxSteps := 1000000) only [go_sem, simprocAttr, ↓reduceIte])
    refine VcLoop.intro (fun i : Nat => ⟨63, [(0, .own 0), (1, .int .i64 n), (2, .fn F []), (6, .int .i64 20), (7, .int .i64 0), (8, .int .i64 20)], [(0, .row 65 (gsR l))], 1⟩) (fun i => True) (fun i => i) 0 ?_ trivial fun i hi => ?_
    · refine Ent.autoK 1 rfl (Nat.le_refl 1) ?_ ?_ <;> simp only [go_sem, reduceCtorEq, reduceIte, Nat.reduceEqDiff, Nat.reduceLT, Nat.reduceLeDiff, Int.natCast_succ, fromL, gsR]
    have hc : ¬ (20 : Int) ≤ (n : Int) := by omega
    (repeat' first | with_reducible (first | intro _ | refine rc ?_ | refine rl ?_ | refine rh ?_ | refine ru ?_ | refine rt ?_ | refine rf ?_ | refine rs ?_ | refine And.intro ?_ ?_) | omega | simp (maxSteps := 1000000) only [go_sem, simprocAttr, ↓reduceIte, hc])
    refine VcCall.io [0] k (by decide) (by simp [renL, ren, ioN]) rfl (by simp [subOk, ioN, lk, Item.ren, Item.below, gsR, renR_ok, belowR_ok]) covG1 1 (by decide) rfl (by simp [rowsB, Item.below, gsR, belowR_ok]) ?_
    (repeat' first | with_reducible (first | intro _ | refine rc ?_ | refine rl ?_ | refine rh ?_ | refine ru ?_ | refine rt ?_ | refine rf ?_ | refine rs ?_ | refine And.intro ?_ ?_) | omega | simp (maxSteps := 1000000) only [go_sem, simprocAttr, ↓reduceIte, S.ioS, ioRows, ioN, delL, Item.ren, gsR, renR_ok, List.length_cons, List.length_nil, List.getElem?_cons_zero, List.getElem?_cons_succ, List.getElem?_nil, List.cons_append, List.nil_append, Nat.reduceAdd, Nat.sub_self, Nat.add_zero, List.filter])
    refine VcLoop.intro (fun i : Nat => ⟨63, [(0, .own 0), (1, .int .i64 n), (2, .fn F []), (6, .int .i64 20)], [(0, .row 65 (gsR (sortG l)))], 1⟩) (fun i => True) (fun i => i) 0 ?_ trivial fun i hi => ?_
    · refine Ent.autoK 1 rfl (Nat.le_refl 1) ?_ ?_ <;> simp only [go_sem, reduceCtorEq, reduceIte, Nat.reduceEqDiff, Nat.reduceLT, Nat.reduceLeDiff, Int.natCast_succ, fromL, gsR]
    have hc : ¬ (20 : Int) < (n : Int) := by omega
    (repeat' first | with_reducible (first | intro _ | refine rc ?_ | refine rl ?_ | refine rh ?_ | refine ru ?_ | refine rt ?_ | refine rf ?_ | refine rs ?_ | refine And.intro ?_ ?_) | omega | simp (maxSteps := 1000000) only [go_sem, simprocAttr, ↓reduceIte, hc])
    refine RetK.auto 1 (Nat.le_refl 1) ?_ rfl ?_ <;> simp only [go_sem, reduceCtorEq, reduceIte, Nat.reduceEqDiff, Nat.reduceLT, Nat.reduceLeDiff, Int.natCast_succ, fromL, gsR]
  have hAB := List.take_append_drop 20 l
  have hAl : (l.take 20).length = 20 := by rw [List.length_take]; omega
  have hBl : (l.drop 20).length = n - 20 := by rw [List.length_drop]; omega
  rw [← hAB] at hS ⊢
  generalize l.take 20 = A at *
  generalize l.drop 20 = B at *
  have sA : Stab A := (List.pairwise_append.1 hS).1
  have sB : Stab B := (List.pairwise_append.1 hS).2.1
  have k1 := insertion_io F hF [] A B 0 20 rfl (by simp [hAl]) sA (by simp; omega)
  have lA : (sortG A).length = 20 := by rw [sortG_len]; exact hAl
  have k2 := insertion_io F hF (sortG A) B [] 20 n (by omega) (by omega) sB (by simp; omega)
  have k3 : 20 < n → FnIO Tryz.prog 152 [.own 0, .int .i64 (0 : Nat), .int .i64 (20 : Nat), .int .i64 n, .fn F []] [(0, .row 65 (gsR (sortG A ++ sortG B)))] 1 (.tup []) [(0, .row 65 (gsR (sortG (A ++ B))))] := fun h => by
    have k := symMerge_io F hF 40 [] (sortG A) (sortG B) [] 0 20 n rfl (by simp; omega) (by simp [lA, sortG_len]; omega) (by omega) (by rw [sortG_len]; omega) (by rw [lA, sortG_len]; omega) (sortG_srt _) (sortG_srt _) (stab_parts hS) (by rw [lA, sortG_len]; simp; omega)
    simp only [List.nil_append, List.append_nil] at k
    rw [sortG_parts] at k
    exact k
  have e0 : ¬ 20 < n → sortG A ++ sortG B = sortG (A ++ B) := fun h => by
    have : B = [] := List.eq_nil_of_length_eq_zero (by omega)
    subst this
    rw [List.append_nil]
    have : sortG [] = [] := List.eq_nil_of_length_eq_zero (by rw [sortG_len]; rfl)
    rw [this, List.append_nil]
  simp only [List.nil_append, List.append_nil, Int.cast_ofNat_Int] at k1 k2 k3
  generalize sortG (A ++ B) = R at *
  generalize sortG A = SA at *
  generalize sortG B = SB at *
  have c0 : (20 : Int) ≤ (n : Int) := by omega
  have c1 : ¬ (40 : Int) ≤ (n : Int) := by omega
  (repeat' first | with_reducible (first | intro _ | refine rc ?_ | refine rl ?_ | refine rh ?_ | refine ru ?_ | refine rt ?_ | refine rf ?_ | refine rs ?_ | refine And.intro ?_ ?_) | omega | simp (maxSteps := 1000000) only [go_sem, simprocAttr, ↓reduceIte])
  refine VcLoop.intro (fun k : Bool => ⟨63, [(0, .own 0), (1, .int .i64 n), (2, .fn F []), (6, .int .i64 20), (7, .int .i64 (bif k then 20 else 0)), (8, .int .i64 (bif k then 40 else 20))], [(0, .row 65 (gsR (bif k then SA ++ B else A ++ B)))], 1⟩) (fun k => True) (fun k => bif k then 0 else 1) false ?_ trivial fun k hk => ?_
  · refine Ent.autoK 1 rfl (Nat.le_refl 1) ?_ ?_ <;> simp only [go_sem, reduceCtorEq, reduceIte, Nat.reduceEqDiff, Nat.reduceLT, Nat.reduceLeDiff, Int.natCast_succ, fromL, gsR, cond_true, cond_false]
  cases k with
  | false =>
    simp only [cond_false]
    (repeat' first | with_reducible (first | intro _ | refine rc ?_ | refine rl ?_ | refine rh ?_ | refine ru ?_ | refine rt ?_ | refine rf ?_ | refine rs ?_ | refine And.intro ?_ ?_) | omega | simp (maxSteps := 1000000) only [go_sem, simprocAttr, ↓reduceIte, c0])
    refine VcCall.io [0] k1 (by decide) (by simp [renL, ren, ioN]) rfl (by simp [subOk, ioN, lk, Item.ren, Item.below, gsR, renR_ok, belowR_ok]) covG1 1 (by decide) rfl (by simp [rowsB, Item.below, gsR, belowR_ok]) ?_
    (repeat' first | with_reducible (first | intro _ | refine rc ?_ | refine rl ?_ | refine rh ?_ | refine ru ?_ | refine rt ?_ | refine rf ?_ | refine rs ?_ | refine And.intro ?_ ?_) | omega | simp (maxSteps := 1000000) only [go_sem, simprocAttr, ↓reduceIte, S.ioS, ioRows, ioN, delL, Item.ren, gsR, renR_ok, List.length_cons, List.length_nil, List.getElem?_cons_zero, List.getElem?_cons_succ, List.getElem?_nil, List.cons_append, List.nil_append, Nat.reduceAdd, Nat.sub_self, Nat.add_zero, List.filter])
    refine ⟨true, Ent.autoK 1 rfl (Nat.le_refl 1) ?_ ?_, by decide⟩ <;> simp only [go_sem, reduceCtorEq, reduceIte, Nat.reduceEqDiff, Nat.reduceLT, Nat.reduceLeDiff, Int.natCast_succ, fromL, gsR, cond_true, cond_false]
  | true =>
    simp only [cond_true]
    (repeat' first | with_reducible (first | intro _ | refine rc ?_ | refine rl ?_ | refine rh ?_ | refine ru ?_ | refine rt ?_ | refine rf ?_ | refine rs ?_ | refine And.intro ?_ ?_) | omega | simp (maxSteps := 1000000) only [go_sem, simprocAttr, ↓reduceIte, c1])
    refine VcCall.io [0] k2 (by decide) (by simp [renL, ren, ioN]) rfl (by simp [subOk, ioN, lk, Item.ren, Item.below, gsR, renR_ok, belowR_ok]) covG1 1 (by decide) rfl (by simp [rowsB, Item.below, gsR, belowR_ok]) ?_
    (repeat' first | with_reducible (first | intro _ | refine rc ?_ | refine rl ?_ | refine rh ?_ | refine ru ?_ | refine rt ?_ | refine rf ?_ | refine rs ?_ | refine And.intro ?_ ?_) | omega | simp (maxSteps := 1000000) only [go_sem, simprocAttr, ↓reduceIte, S.ioS, ioRows, ioN, delL, Item.ren, gsR, renR_ok, List.length_cons, List.length_nil, List.getElem?_cons_zero, List.getElem?_cons_succ, List.getElem?_nil, List.cons_append, List.nil_append, Nat.reduceAdd, Nat.sub_self, Nat.add_zero, List.filter])
    refine VcLoop.intro (fun k : Bool => ⟨63, [(0, .own 0), (1, .int .i64 n), (2, .fn F []), (6, .int .i64 (bif k then 40 else 20))], [(0, .row 65 (gsR (bif k then R else SA ++ SB)))], 1⟩) (fun k => k = true → 20 < n) (fun k => bif k then 0 else 1) false ?_ (fun h => absurd h (by decide)) fun k hk => ?_
    · refine Ent.autoK 1 rfl (Nat.le_refl 1) ?_ ?_ <;> simp only [go_sem, reduceCtorEq, reduceIte, Nat.reduceEqDiff, Nat.reduceLT, Nat.reduceLeDiff, Int.natCast_succ, fromL, gsR, cond_true, cond_false]
    cases k with
    | true =>
      simp only [cond_true]
      have c2 : ¬ (40 : Int) < (n : Int) := by omega
      (repeat' first | with_reducible (first | intro _ | refine rc ?_ | refine rl ?_ | refine rh ?_ | refine ru ?_ | refine rt ?_ | refine rf ?_ | refine rs ?_ | refine And.intro ?_ ?_) | omega | simp (maxSteps := 1000000) only [go_sem, simprocAttr, ↓reduceIte, c2])
      refine RetK.auto 1 (Nat.le_refl 1) ?_ rfl ?_ <;> simp only [go_sem, reduceCtorEq, reduceIte, Nat.reduceEqDiff, Nat.reduceLT, Nat.reduceLeDiff, Int.natCast_succ, fromL, gsR]
    | false =>
      simp only [cond_false]
      by_cases hlt : 20 < n
      · have k3 := k3 hlt
        have c2 : (20 : Int) < (n : Int) := by omega
        (repeat' first | with_reducible (first | intro _ | refine rc ?_ | refine rl ?_ | refine rh ?_ | refine ru ?_ | refine rt ?_ | refine rf ?_ | refine rs ?_ | refine And.intro ?_ ?_) | omega | simp (maxSteps := 1000000) only [go_sem, simprocAttr, ↓reduceIte, c2])
        refine VcLoop.intro (fun i : Nat => ⟨63, [(0, .own 0), (1, .int .i64 n), (2, .fn F []), (6, .int .i64 20), (7, .int .i64 0), (8, .int .i64 40)], [(0, .row 65 (gsR (SA ++ SB)))], 1⟩) (fun i => True) (fun i => i) 0 ?_ trivial fun i hi => ?_
        · refine Ent.autoK 1 rfl (Nat.le_refl 1) ?_ ?_ <;> simp only [go_sem, reduceCtorEq, reduceIte, Nat.reduceEqDiff, Nat.reduceLT, Nat.reduceLeDiff, Int.natCast_succ, fromL, gsR]
        (repeat' first | with_reducible (first | intro _ | refine rc ?_ | refine rl ?_ | refine rh ?_ | refine ru ?_ | refine rt ?_ | refine rf ?_ | refine rs ?_ | refine And.intro ?_ ?_) | omega | simp (maxSteps := 1000000) only [go_sem, simprocAttr, ↓reduceIte, c1, c2])
        refine VcCall.io [0] k3 (by decide) (by simp [renL, ren, ioN]) rfl (by simp [subOk, ioN, lk, Item.ren, Item.below, gsR, renR_ok, belowR_ok]) covG1 1 (by decide) rfl (by simp [rowsB, Item.below, gsR, belowR_ok]) ?_
        (repeat' first | with_reducible (first | intro _ | refine rc ?_ | refine rl ?_ | refine rh ?_ | refine ru ?_ | refine rt ?_ | refine rf ?_ | refine rs ?_ | refine And.intro ?_ ?_) | omega | simp (maxSteps := 1000000) only [go_sem, simprocAttr, ↓reduceIte, S.ioS, ioRows, ioN, delL, Item.ren, gsR, renR_ok, List.length_cons, List.length_nil, List.getElem?_cons_zero, List.getElem?_cons_succ, List.getElem?_nil, List.cons_append, List.nil_append, Nat.reduceAdd, Nat.sub_self, Nat.add_zero, List.filter])
        refine ⟨true, Ent.autoK 1 rfl (Nat.le_refl 1) ?_ ?_, fun _ => hlt, by decide⟩ <;> simp only [go_sem, reduceCtorEq, reduceIte, Nat.reduceEqDiff, Nat.reduceLT, Nat.reduceLeDiff, Int.natCast_succ, fromL, gsR, cond_true, cond_false]
      · have c2 : ¬ (20 : Int) < (n : Int) := by omega
        rw [e0 hlt]
        (repeat' first | with_reducible (first | intro _ | refine rc ?_ | refine rl ?_ | refine rh ?_ | refine ru ?_ | refine rt ?_ | refine rf ?_ | refine rs ?_ | refine And.intro ?_ ?_) | omega | simp (maxSteps := 1000000) only [go_sem, simprocAttr, ↓reduceIte, c2])
        refine RetK.auto 1 (Nat.le_refl 1) ?_ rfl ?_ <;> simp only [go_sem, reduceCtorEq, reduceIte, Nat.reduceEqDiff, Nat.reduceLT, Nat.reduceLeDiff, Int.natCast_succ, fromL, gsR]
theorem sortStable_io (F : Nat) (hF : CmpG F) (l : List Gs) (h40 : l.length < 40) (hS : Stab l) :
    FnIO Tryz.prog 80 [.own 0, .fn F []] [(0, .row 65 (gsR l))] 1 (.tup []) [(0, .row 65 (gsR (sortG l)))] := by
  have k := stableCmp_io F hF l _ rfl h40 hS
  refine FnIO.of_vc Tryz.func80 rfl (by decide) (by simp [Tryz.f80]) covG1 [] rfl fun w0 T0 _ => ?_
  simp only [Tryz.f80, argEnv]
  (repeat' first | with_reducible (first | intro _ | refine rc ?_ | refine rl ?_ | refine rh ?_ | refine ru ?_ | refine rt ?_ | refine rf ?_ | refine rs ?_ | refine And.intro ?_ ?_) | omega | simp (maxSteps := 1000000) only [go_sem, simprocAttr, ↓reduceIte, gsR, List.length_map])
  refine VcCall.io [0] k (by decide) (by simp [renL, ren, ioN]) rfl (by simp [subOk, ioN, lk, Item.ren, Item.below, gsR, renR_ok, belowR_ok]) covG1 1 (by decide) rfl (by simp [rowsB, Item.below, gsR, belowR_ok]) ?_
  (repeat' first | with_reducible (first | intro _ | refine rc ?_ | refine rl ?_ | refine rh ?_ | refine ru ?_ | refine rt ?_ | refine rf ?_ | refine rs ?_ | refine And.intro ?_ ?_) | omega | simp (maxSteps := 1000000) only [go_sem, simprocAttr, ↓reduceIte, S.ioS, ioRows, ioN, delL, Item.ren, gsR, renR_ok, List.length_cons, List.length_nil, List.getElem?_cons_zero, List.getElem?_cons_succ, List.getElem?_nil, List.cons_append, List.nil_append, Nat.reduceAdd, Nat.sub_self, Nat.add_zero, List.filter])
  refine RetK.auto 1 (Nat.le_refl 1) ?_ rfl ?_ <;> simp only [go_sem, reduceCtorEq, reduceIte, Nat.reduceEqDiff, Nat.reduceLT, Nat.reduceLeDiff, Int.natCast_succ, fromL, gsR]
end Go.Fv.Y

/- strings.Compare, and slices.SortFunc of words, by the shelf. -/
namespace Go.Proofs
open Go.Shelf
end Go.Proofs
namespace Go.Proofs
open Go.Shelf
end Go.Proofs
namespace Go.Fv.Y
open Go Go.Proofs
set_option linter.unusedSimpArgs false
set_option linter.unusedVariables false
set_option linter.unnecessarySimpa false
set_option maxRecDepth 8000

end Go.Fv.Y

/- Comparisons of guesses, of the program and of the reference, and slices.SortFunc of guesses. -/
namespace Go.Proofs
open Go.Shelf
end Go.Proofs
namespace Go.Fv.Y
open Go Go.Proofs
set_option linter.unusedSimpArgs false
set_option linter.unusedVariables false
set_option linter.unnecessarySimpa false
set_option maxRecDepth 8000

theorem gsNaN_ok (a : Int) : FnOk Tryz.prog 124 [.int .i64 a] (.bool false) [] := by
  refine FnOk.of_vc Tryz.func124 rfl (by decide) (by simp [Tryz.f124]) [.tmp 2] rfl fun w0 T0 _ => ?_
  simp only [Tryz.f124, argEnv]
  (repeat' first | with_reducible (first | intro _ | refine rc ?_ | refine rl ?_ | refine rh ?_ | refine ru ?_ | refine rt ?_ | refine rf ?_ | refine rs ?_ | refine And.intro ?_ ?_) | omega | simp (maxSteps := 1000000) only [go_sem, simprocAttr, ↓reduceIte])
  refine Ret.auto 0 ?_ rfl ?_ <;> simp only [go_sem, reduceCtorEq, reduceIte, Nat.reduceEqDiff, Nat.reduceLT, Nat.reduceLeDiff, Int.natCast_succ, Post]
  all_goals simp
theorem gsCompare_ok (a b : Int) : FnOk Tryz.prog 82 [.int .i64 a, .int .i64 b] (.int .i64 (cmpI a b)) [] := by
  unfold cmpI
  refine FnOk.of_vc Tryz.func82 rfl (by decide) (by simp [Tryz.f82]) [.tmp 4] rfl fun w0 T0 _ => ?_
  simp only [Tryz.f82, argEnv]
  (repeat' first | with_reducible (first | intro _ | refine rc ?_ | refine rl ?_ | refine rh ?_ | refine ru ?_ | refine rt ?_ | refine rf ?_ | refine rs ?_ | refine And.intro ?_ ?_) | omega | simp (maxSteps := 1000000) only [go_sem, simprocAttr, ↓reduceIte])
  refine VcCall.k (gsNaN_ok a) ?_
  (repeat' first | with_reducible (first | intro _ | refine rc ?_ | refine rl ?_ | refine rh ?_ | refine ru ?_ | refine rt ?_ | refine rf ?_ | refine rs ?_ | refine And.intro ?_ ?_) | omega | simp (maxSteps := 1000000) only [go_sem, simprocAttr, ↓reduceIte])
  refine VcCall.k (gsNaN_ok b) ?_
  by_cases h1 : a < b
  · rw [if_pos h1]
    (repeat' first | with_reducible (first | intro _ | refine rc ?_ | refine rl ?_ | refine rh ?_ | refine ru ?_ | refine rt ?_ | refine rf ?_ | refine rs ?_ | refine And.intro ?_ ?_) | omega | simp (maxSteps := 1000000) only [go_sem, simprocAttr, ↓reduceIte])
    refine Ret.auto 0 ?_ rfl ?_ <;> simp only [go_sem, reduceCtorEq, reduceIte, Nat.reduceEqDiff, Nat.reduceLT, Nat.reduceLeDiff, Int.natCast_succ, Post]
  · rw [if_neg h1]
    by_cases h2 : b < a
    · rw [if_pos h2]
      (repeat' first | with_reducible (first | intro _ | refine rc ?_ | refine rl ?_ | refine rh ?_ | refine ru ?_ | refine rt ?_ | refine rf ?_ | refine rs ?_ | refine And.intro ?_ ?_) | omega | simp (maxSteps := 1000000) only [go_sem, simprocAttr, ↓reduceIte])
      refine Ret.auto 0 ?_ rfl ?_ <;> simp only [go_sem, reduceCtorEq, reduceIte, Nat.reduceEqDiff, Nat.reduceLT, Nat.reduceLeDiff, Int.natCast_succ, Post]
    · rw [if_neg h2]
      (repeat' first | with_reducible (first | intro _ | refine rc ?_ | refine rl ?_ | refine rh ?_ | refine ru ?_ | refine rt ?_ | refine rf ?_ | refine rs ?_ | refine And.intro ?_ ?_) | omega | simp (maxSteps := 1000000) only [go_sem, simprocAttr, ↓reduceIte])
      refine Ret.auto 0 ?_ rfl ?_ <;> simp only [go_sem, reduceCtorEq, reduceIte, Nat.reduceEqDiff, Nat.reduceLT, Nat.reduceLeDiff, Int.natCast_succ, Post]
def orI : List Int → Int
  | [] => 0
  | x :: l => if x = 0 then orI l else x
theorem orI_drop (l : List Int) {k : Nat} (h : k < l.length) : orI (l.drop k) = if l.getD k 0 = 0 then orI (l.drop (k + 1)) else l.getD k 0 := by
  rw [List.drop_eq_getElem_cons h, orI, getD_lt h]
theorem gsOr_ok (l : List Int) : FnOk Tryz.prog 73 [.ro (.ints .i64 l)] (.int .i64 (orI l)) [] := by
  refine FnOk.of_vc Tryz.func73 rfl (by decide) (by simp [Tryz.f73]) [.tmp 2] rfl fun w0 T0 _ => ?_
  simp only [Tryz.f73, argEnv]
  (repeat' first | with_reducible (first | intro _ | refine rc ?_ | refine rl ?_ | refine rh ?_ | refine ru ?_ | refine rt ?_ | refine rf ?_ | refine rs ?_ | refine And.intro ?_ ?_) | omega | simp (maxSteps := 1000000) only [go_sem, simprocAttr, ↓reduceIte])
  refine VcLoop.intro (fun i : Nat => ⟨18, [(8, .int .i64 i), (7, .int .i64 l.length), (6, .ro (.ints .i64 l)), (3, .int .i64 0)], [], 0⟩) (fun i => i ≤ l.length ∧ orI l = orI (l.drop i)) (fun i => l.length - i) 0 ?_ ⟨Nat.zero_le _, rfl⟩ fun i hi => ?_
  · refine Ent.auto0 rfl ?_ ?_ <;> simp only [go_sem, reduceCtorEq, reduceIte, Nat.reduceEqDiff, Nat.reduceLT, Nat.reduceLeDiff, Int.natCast_succ]
  obtain ⟨hi, ho⟩ := hi
  by_cases hlt : i < l.length
  · have hd := orI_drop l hlt
    by_cases h0 : l.getD i 0 = 0
    · rw [if_pos h0] at hd
      (repeat' first | with_reducible (first | intro _ | refine rc ?_ | refine rl ?_ | refine rh ?_ | refine ru ?_ | refine rt ?_ | refine rf ?_ | refine rs ?_ | refine And.intro ?_ ?_) | omega | simp (maxSteps := 1000000) only [go_sem, simprocAttr, ↓reduceIte, h0])
      refine ⟨i + 1, Ent.auto0 rfl ?_ ?_, ⟨by omega, ho.trans hd⟩, by omega⟩ <;> simp only [go_sem, reduceCtorEq, reduceIte, Nat.reduceEqDiff, Nat.reduceLT, Nat.reduceLeDiff, Int.natCast_succ]
    · rw [if_neg h0] at hd
      (repeat' first | with_reducible (first | intro _ | refine rc ?_ | refine rl ?_ | refine rh ?_ | refine ru ?_ | refine rt ?_ | refine rf ?_ | refine rs ?_ | refine And.intro ?_ ?_) | omega | simp (maxSteps := 1000000) only [go_sem, simprocAttr, ↓reduceIte])
      refine Ret.auto 0 ?_ rfl ?_ <;> simp only [go_sem, reduceCtorEq, reduceIte, Nat.reduceEqDiff, Nat.reduceLT, Nat.reduceLeDiff, Int.natCast_succ, Post, ho.trans hd]
  · have e : i = l.length := by omega
    subst e
    have : orI l = 0 := by rw [ho, List.drop_length]; rfl
    (repeat' first | with_reducible (first | intro _ | refine rc ?_ | refine rl ?_ | refine rh ?_ | refine ru ?_ | refine rt ?_ | refine rf ?_ | refine rs ?_ | refine And.intro ?_ ?_) | omega | simp (maxSteps := 1000000) only [go_sem, simprocAttr, ↓reduceIte])
    refine Ret.auto 0 ?_ rfl ?_ <;> simp only [go_sem, reduceCtorEq, reduceIte, Nat.reduceEqDiff, Nat.reduceLT, Nat.reduceLeDiff, Int.natCast_succ, Post, this]
theorem cfG_or (x y : Gs) : orI [cmpI x.d y.d, cmpI y.c x.c] = cfG x y := by
  unfold cfG orI orI orI
  by_cases h : cmpI x.d y.d = 0
  · rw [if_pos h, if_pos h]
    by_cases h2 : cmpI y.c x.c = 0
    · rw [if_pos h2, h2]
    · rw [if_neg h2]
  · rw [if_neg h, if_neg h]
set_option maxHeartbeats 2000000 in
theorem near1_ok : CmpG 81 := fun x y => by
  have k1 := gsCompare_ok x.d y.d
  have k2 := gsCompare_ok y.c x.c
  have k3 := gsOr_ok [cmpI x.d y.d, cmpI y.c x.c]
  rw [cfG_or] at k3
  generalize cfG x y = r at *
  generalize cmpI x.d y.d = c1 at *
  generalize cmpI y.c x.c = c2 at *
  refine FnOk.of_vc Tryz.func81 rfl (by decide) (by simp [Tryz.f81]) [.tmp 4] rfl fun w0 T0 _ => ?_
  simp only [Tryz.f81, argEnv]
  (repeat' first | with_reducible (first | intro _ | refine rc ?_ | refine rl ?_ | refine rh ?_ | refine ru ?_ | refine rt ?_ | refine rf ?_ | refine rs ?_ | refine And.intro ?_ ?_) | omega | simp (maxSteps := 1000000) only [go_sem, simprocAttr, ↓reduceIte])
  refine VcDraw.lex [10] [] (by kernel_rfl) (by kernel_rfl) ?_
  (repeat' first | with_reducible (first | intro _ | refine rc ?_ | refine rl ?_ | refine rh ?_ | refine ru ?_ | refine rt ?_ | refine rf ?_ | refine rs ?_ | refine And.intro ?_ ?_) | omega | simp (maxSteps := 1000000) only [go_sem, simprocAttr, ↓reduceIte])
  refine QV.intro (.int .i64 c1) ?_ ?_
  · (repeat' first | with_reducible (first | intro _ | refine rc ?_ | refine rl ?_ | refine rh ?_ | refine ru ?_ | refine rt ?_ | refine rf ?_ | refine rs ?_ | refine And.intro ?_ ?_) | omega | simp (maxSteps := 1000000) only [go_sem, simprocAttr, ↓reduceIte])
    refine VcCall.k (k1) ?_
    (repeat' first | with_reducible (first | intro _ | refine rc ?_ | refine rl ?_ | refine rh ?_ | refine ru ?_ | refine rt ?_ | refine rf ?_ | refine rs ?_ | refine And.intro ?_ ?_) | omega | simp (maxSteps := 1000000) only [go_sem, simprocAttr, ↓reduceIte])
  (repeat' first | with_reducible (first | intro _ | refine rc ?_ | refine rl ?_ | refine rh ?_ | refine ru ?_ | refine rt ?_ | refine rf ?_ | refine rs ?_ | refine And.intro ?_ ?_) | omega | simp (maxSteps := 1000000) only [go_sem, simprocAttr, ↓reduceIte])
  refine QV.intro (.int .i64 c2) ?_ ?_
  · (repeat' first | with_reducible (first | intro _ | refine rc ?_ | refine rl ?_ | refine rh ?_ | refine ru ?_ | refine rt ?_ | refine rf ?_ | refine rs ?_ | refine And.intro ?_ ?_) | omega | simp (maxSteps := 1000000) only [go_sem, simprocAttr, ↓reduceIte])
    refine VcCall.k (k2) ?_
    (repeat' first | with_reducible (first | intro _ | refine rc ?_ | refine rl ?_ | refine rh ?_ | refine ru ?_ | refine rt ?_ | refine rf ?_ | refine rs ?_ | refine And.intro ?_ ?_) | omega | simp (maxSteps := 1000000) only [go_sem, simprocAttr, ↓reduceIte])
  (repeat' first | with_reducible (first | intro _ | refine rc ?_ | refine rl ?_ | refine rh ?_ | refine ru ?_ | refine rt ?_ | refine rf ?_ | refine rs ?_ | refine And.intro ?_ ?_) | omega | simp (maxSteps := 1000000) only [go_sem, simprocAttr, ↓reduceIte])
  refine QV.intro (.int .i64 r) ?_ ?_
  · (repeat' first | with_reducible (first | intro _ | refine rc ?_ | refine rl ?_ | refine rh ?_ | refine ru ?_ | refine rt ?_ | refine rf ?_ | refine rs ?_ | refine And.intro ?_ ?_) | omega | simp (maxSteps := 1000000) only [go_sem, simprocAttr, ↓reduceIte])
    refine VcCall.k (k3) ?_
    (repeat' first | with_reducible (first | intro _ | refine rc ?_ | refine rl ?_ | refine rh ?_ | refine ru ?_ | refine rt ?_ | refine rf ?_ | refine rs ?_ | refine And.intro ?_ ?_) | omega | simp (maxSteps := 1000000) only [go_sem, simprocAttr, ↓reduceIte])
  (repeat' first | with_reducible (first | intro _ | refine rc ?_ | refine rl ?_ | refine rh ?_ | refine ru ?_ | refine rt ?_ | refine rf ?_ | refine rs ?_ | refine And.intro ?_ ?_) | omega | simp (maxSteps := 1000000) only [go_sem, simprocAttr, ↓reduceIte])
  refine Ret.auto 0 ?_ rfl ?_ <;> simp only [go_sem, reduceCtorEq, reduceIte, Nat.reduceEqDiff, Nat.reduceLT, Nat.reduceLeDiff, Int.natCast_succ, Post]
def GsOk (x : Gs) : Prop := x.t.length ≤ 1048576 ∧ (0 ≤ x.d ∧ x.d ≤ 1000000000000) ∧ (0 ≤ x.c ∧ x.c ≤ 1000000000000)
end Go.Fv.Y

namespace Go.Fv.Y
open Go Go.Proofs
set_option linter.unusedSimpArgs false
set_option linter.unusedVariables false
set_option linter.unnecessarySimpa false
set_option maxRecDepth 8000

def Mx.av (m : Mx) : List AV := [.str m.f, .str m.t, .int .i64 m.c]
def Mx.zero : Mx := ⟨[], [], 0⟩
def mxs (l : List Mx) : RowV := .objs 3 (l.map Mx.av)
theorem mx_elem (l : List Mx) {i : Nat} (h : i < l.length) : (l.map Mx.av).getD i [] = [.str (l.getD i Mx.zero).f, .str (l.getD i Mx.zero).t, .int .i64 (l.getD i Mx.zero).c] := by
  rw [getD_lt (by simpa using h), getD_lt h, List.getElem_map]; rfl
theorem laidOut : laidOutB Tryz.prog = true := by kernel_rfl
theorem keyed2 : Maps.Keyed Tryz.prog 75 := keyed_deep laidOut (of_decide_eq_true (by kernel_rfl)) (by kernel_rfl) (by rw [Tryz.underlying75])
theorem key2T (k : Key) : KeyT Tryz.prog 75 (key2 k) := KeyT.strs2 Tryz.underlying75 Tryz.underlying9 (by kernel_rfl) c75 c9 (of_decide_eq_true (by kernel_rfl)) k.1 k.2
theorem key2Ts (l : List Key) : KeysT Tryz.prog 75 (l.map key2) := KeysT_map key2T l

theorem part_ok (s : List UInt8) : FnOk Tryz.prog 32 [.str s] (.bool (partOk s)) [] := by
  have e : partOk s = decide (1 ≤ (s.length : Int) ∧ (s.length : Int) ≤ 3) := by
    unfold partOk
    rw [← Bool.decide_and]; congr 1; apply propext; omega
  rw [e]
  refine FnOk.of_vc Tryz.func32 rfl (by decide) (by simp [Tryz.f32]) [.tmp 2] rfl fun w0 T0 _ => ?_
  simp only [Tryz.f32, argEnv]
  (repeat' first | with_reducible (first | intro _ | refine rc ?_ | refine rl ?_ | refine rh ?_ | refine ru ?_ | refine rt ?_ | refine rf ?_ | refine rs ?_ | refine And.intro ?_ ?_) | omega | simp (maxSteps := 1000000) only [go_sem, simprocAttr, ↓reduceIte])
  refine Ret.auto 0 ?_ rfl ?_ <;> simp only [go_sem, reduceCtorEq, reduceIte, Nat.reduceEqDiff, Nat.reduceLT, Nat.reduceLeDiff, Int.natCast_succ, Post]

def seenK (l : List Mx) (i : Nat) : List Key := (l.take i).map Mx.key
theorem seenK_succ (l : List Mx) {i : Nat} (h : i < l.length) : seenK l (i + 1) = seenK l i ++ [(l.getD i Mx.zero).key] := by
  unfold seenK
  rw [List.take_succ_eq_append_getElem h, List.map_append, getD_lt h]; rfl
theorem mixEs_drop (l : List Mx) {i : Nat} (h : i < l.length) (s : List Key) : mixEs s (l.drop i) = if mixE s (l.getD i Mx.zero) = 0 then mixEs (s ++ [(l.getD i Mx.zero).key]) (l.drop (i + 1)) else mixE s (l.getD i Mx.zero) := by
  rw [List.drop_eq_getElem_cons h, getD_lt h]; rfl
theorem insE_new {α : Type} [DecidableEq α] {l : List α} {x : α} (h : x ∉ l) : insE l x = l ++ [x] := if_neg h

set_option maxHeartbeats 4000000 in
theorem checkMixes_ok (l : List Mx) : FnOk Tryz.prog 10 [.ro (mxs l)] (.int .i64 (mixErr l)) [] := by
  unfold mixErr
  refine FnOk.of_vc Tryz.func10 rfl (by decide) (by simp [Tryz.f10]) [.tmp 2] rfl fun w0 T0 _ => ?_
  simp only [Tryz.f10, argEnv]
  (repeat' first | with_reducible (first | intro _ | refine rc ?_ | refine rl ?_ | refine rh ?_ | refine ru ?_ | refine rt ?_ | refine rf ?_ | refine rs ?_ | refine And.intro ?_ ?_) | omega | simp (maxSteps := 1000000) only [go_sem, simprocAttr, ↓reduceIte, List.length_map, mxs])
  · refine Ret.auto 0 ?_ rfl ?_ <;> simp only [go_sem, reduceCtorEq, reduceIte, Nat.reduceEqDiff, Nat.reduceLT, Nat.reduceLeDiff, Int.natCast_succ, Post]
    rw [if_pos (by omega)]
  rw [if_neg (by omega)]
  refine VcLoop.intro (fun i : Nat => ⟨59, [(14, .int .i64 i), (13, .int .i64 l.length), (12, .ro (mxs l)), (3, .own 0), (4, .fn 32 [])], [(0, .map ((seenK l i).map key2) ((seenK l i).map fun _ => .bool true))], 1⟩) (fun i => i ≤ l.length ∧ mixEs (seenK l i) (l.drop i) = mixEs [] l) (fun i => l.length - i) 0 ?_ ⟨Nat.zero_le _, rfl⟩ fun i hi => ?_
  · refine Ent.auto0 rfl ?_ ?_ <;> simp only [go_sem, reduceCtorEq, reduceIte, Nat.reduceEqDiff, Nat.reduceLT, Nat.reduceLeDiff, Int.natCast_succ, seenK, List.take_zero, mxs]
  by_cases hlt : i < l.length
  · have he := mx_elem l hlt
    have hs := seenK_succ l hlt
    have hd := mixEs_drop l hlt (seenK l i)
    generalize l.getD i Mx.zero = m at *
    have k1 := part_ok m.f
    have k2 := part_ok m.t
    have kk : KeyT Tryz.prog 75 (.agg [.str m.f, .str m.t]) := key2T m.key
    have ks := key2Ts (seenK l i)
    have hE : mixE (seenK l i) m = if partOk m.f = false ∨ partOk m.t = false ∨ m.f = m.t then 2 else if m.c < 0 ∨ 100 < m.c then 3 else if m.key ∈ seenK l i then 6 else 0 := rfl
    have e3 : getB ((seenK l i).map key2) ((seenK l i).map fun _ => .bool true) (.agg [.str m.f, .str m.t]) = decide (m.key ∈ seenK l i) := (getB_set eqKey2 (seenK l i) m.key).trans (by congr)
    have e4 : updKs ((seenK l i).map key2) (.agg [.str m.f, .str m.t]) = _ := updKs_set eqKey2 (seenK l i) m.key
    have e5 : updVs ((seenK l i).map key2) ((seenK l i).map fun _ => .bool true) (.agg [.str m.f, .str m.t]) (.bool true) = _ := updVs_set eqKey2 (seenK l i) m.key
    generalize partOk m.f = p at *
    generalize partOk m.t = q at *
    (repeat' first | with_reducible (first | intro _ | refine rc ?_ | refine rl ?_ | refine rh ?_ | refine ru ?_ | refine rt ?_ | refine rf ?_ | refine rs ?_ | refine And.intro ?_ ?_) | omega | simp (maxSteps := 1000000) only [go_sem, simprocAttr, ↓reduceIte, elemA, he, mxs, List.length_map])
    refine VcCall.k k1 ?_
    cases p with
    | false =>
      (repeat' first | with_reducible (first | intro _ | refine rc ?_ | refine rl ?_ | refine rh ?_ | refine ru ?_ | refine rt ?_ | refine rf ?_ | refine rs ?_ | refine And.intro ?_ ?_) | omega | simp (maxSteps := 1000000) only [go_sem, simprocAttr, ↓reduceIte])
      refine Ret.auto 0 ?_ rfl ?_ <;> simp only [go_sem, reduceCtorEq, reduceIte, Nat.reduceEqDiff, Nat.reduceLT, Nat.reduceLeDiff, Int.natCast_succ, Post]
      rw [← hi.2, hd, hE]; simp
    | true =>
      (repeat' first | with_reducible (first | intro _ | refine rc ?_ | refine rl ?_ | refine rh ?_ | refine ru ?_ | refine rt ?_ | refine rf ?_ | refine rs ?_ | refine And.intro ?_ ?_) | omega | simp (maxSteps := 1000000) only [go_sem, simprocAttr, ↓reduceIte])
      refine VcCall.k k2 ?_
      cases q with
      | false =>
        (repeat' first | with_reducible (first | intro _ | refine rc ?_ | refine rl ?_ | refine rh ?_ | refine ru ?_ | refine rt ?_ | refine rf ?_ | refine rs ?_ | refine And.intro ?_ ?_) | omega | simp (maxSteps := 1000000) only [go_sem, simprocAttr, ↓reduceIte])
        refine Ret.auto 0 ?_ rfl ?_ <;> simp only [go_sem, reduceCtorEq, reduceIte, Nat.reduceEqDiff, Nat.reduceLT, Nat.reduceLeDiff, Int.natCast_succ, Post]
        rw [← hi.2, hd, hE]; simp
      | true =>
        (repeat' first | with_reducible (first | intro _ | refine rc ?_ | refine rl ?_ | refine rh ?_ | refine ru ?_ | refine rt ?_ | refine rf ?_ | refine rs ?_ | refine And.intro ?_ ?_) | omega | simp (maxSteps := 1000000) only [go_sem, simprocAttr, ↓reduceIte, e3, e4, e5, all_isB, eq_true kk, eq_true ks, eq_true keyed2])
        · rename_i h1
          refine Ret.auto 0 ?_ rfl ?_ <;> simp only [go_sem, reduceCtorEq, reduceIte, Nat.reduceEqDiff, Nat.reduceLT, Nat.reduceLeDiff, Int.natCast_succ, Post]
          rw [← hi.2, hd, hE]; simp [h1]
        · rename_i h1 _ h2
          refine Ret.auto 0 ?_ rfl ?_ <;> simp only [go_sem, reduceCtorEq, reduceIte, Nat.reduceEqDiff, Nat.reduceLT, Nat.reduceLeDiff, Int.natCast_succ, Post]
          rw [← hi.2, hd, hE]; simp [h1, h2]
        · rename_i h1 _ h2 h3
          refine Ret.auto 0 ?_ rfl ?_ <;> simp only [go_sem, reduceCtorEq, reduceIte, Nat.reduceEqDiff, Nat.reduceLT, Nat.reduceLeDiff, Int.natCast_succ, Post]
          rw [← hi.2, hd, hE]; simp [h1, h2, h3]
        · rename_i h1 _ h2 h3
          have h0 : mixE (seenK l i) m = 0 := by rw [hE]; simp [h1, h2, h3]
          rw [if_pos h0, hi.2] at hd
          refine ⟨i + 1, Ent.auto0 rfl ?_ ?_, ⟨by omega, by rw [hs]; exact hd.symm⟩, by omega⟩ <;> simp only [go_sem, reduceCtorEq, reduceIte, Nat.reduceEqDiff, Nat.reduceLT, Nat.reduceLeDiff, Int.natCast_succ, hs, insE_new h3, mxs]
  · have e : i = l.length := by omega
    have h0 := hi.2
    rw [e, List.drop_length] at h0
    (repeat' first | with_reducible (first | intro _ | refine rc ?_ | refine rl ?_ | refine rh ?_ | refine ru ?_ | refine rt ?_ | refine rf ?_ | refine rs ?_ | refine And.intro ?_ ?_) | omega | simp (maxSteps := 1000000) only [go_sem, simprocAttr, ↓reduceIte, mxs, List.length_map])
    refine Ret.auto 0 ?_ rfl ?_ <;> simp only [go_sem, reduceCtorEq, reduceIte, Nat.reduceEqDiff, Nat.reduceLT, Nat.reduceLeDiff, Int.natCast_succ, Post]
    rw [← h0]; rfl
end Go.Fv.Y

namespace Go.Fv.Y
open Go Go.Proofs
set_option linter.unusedSimpArgs false
set_option linter.unusedVariables false
set_option linter.unnecessarySimpa false
set_option maxRecDepth 8000

theorem sw_elem (l : List Sw) {i : Nat} (h : i < l.length) : (l.map Sw.av).getD i [] = [.str (l.getD i Sw.zero).o, .str (l.getD i Sw.zero).n, .int .i64 (l.getD i Sw.zero).c] := by
  rw [getD_lt (by simpa using h), getD_lt h, List.getElem_map]; rfl
theorem minF_step (f : Sw → Bool) (g : Sw → Int) (l : List Sw) {i : Nat} (h : i < l.length) (b : Int) : minF f g b (l.drop i) = minF f g (if f (l.getD i Sw.zero) then min b (g (l.getD i Sw.zero)) else b) (l.drop (i + 1)) := by
  rw [List.drop_eq_getElem_cons h, getD_lt h]; rfl

set_option maxHeartbeats 16000000 in
theorem table_ok (sw : List Sw) (hg : GoodSw sw) (hswl : sw.length ≤ 4000) (a b : List UInt8) (ha : a.length ≤ 2000) (hb : b.length ≤ 2000) :
    FnOk Tryz.prog 79 [.str a, .str b, .mp (kgKs (grp [] sw)) (kgVs (grp [] sw))] (.own 0) [(0, .row 3 (.ints .i64 (tab sw a b 0)))] := by
  refine FnOk.of_vc Tryz.func79 rfl (by decide) (by simp [Tryz.f79]) [.tmp 6] rfl fun w0 T0 _ => ?_
  simp only [Tryz.f79, argEnv]
  have hnn : (a.length + 1) * (b.length + 1) ≤ 2001 * 2001 := Nat.mul_le_mul (by omega) (by omega)
  have up1 : ((a.length : Int) + 1) * ((b.length : Int) + 1) = (((a.length + 1) * (b.length + 1) : Nat) : Int) := by simp
  have hall := tab_all sw a b
  generalize hN : (a.length + 1) * (b.length + 1) = N at *
  (repeat' first | with_reducible (first | intro _ | refine rc ?_ | refine rl ?_ | refine rh ?_ | refine ru ?_ | refine rt ?_ | refine rf ?_ | refine rs ?_ | refine And.intro ?_ ?_) | omega | simp (maxSteps := 1000000) only [go_sem, simprocAttr, ↓reduceIte, up1, Int.toNat_natCast])
  refine VcLoop.intro (fun r : Nat => ⟨173, [(9, .int .i64 ((r : Int) - 1)), (8, .own 0), (7, .int .i64 ((b.length : Int) + 1)), (0, .str a), (1, .str b), (2, .mp (kgKs (grp [] sw)) (kgVs (grp [] sw)))], [(0, .row 3 (.ints .i64 (tab sw a b (r * (b.length + 1)))))], 1⟩) (fun r => r ≤ a.length + 1) (fun r => r) (a.length + 1) ?_ (Nat.le_refl _) fun r hr => ?_
  · refine Ent.auto0 rfl ?_ ?_ <;> simp only [go_sem, reduceCtorEq, reduceIte, Nat.reduceEqDiff, Nat.reduceLT, Nat.reduceLeDiff, Int.natCast_succ, hall, hN]
    omega
  cases r with
  | zero =>
    (repeat' first | with_reducible (first | intro _ | refine rc ?_ | refine rl ?_ | refine rh ?_ | refine ru ?_ | refine rt ?_ | refine rf ?_ | refine rs ?_ | refine And.intro ?_ ?_) | omega | simp (maxSteps := 1000000) only [go_sem, simprocAttr, ↓reduceIte])
    refine Ret.auto 1 ?_ rfl ?_ <;> simp only [go_sem, reduceCtorEq, reduceIte, Nat.reduceEqDiff, Nat.reduceLT, Nat.reduceLeDiff, Int.natCast_succ, Post, Nat.zero_mul]
  | succ i =>
    have er : (((i + 1 : Nat) : Int)) - 1 = (i : Int) := by omega
    (repeat' first | with_reducible (first | intro _ | refine rc ?_ | refine rl ?_ | refine rh ?_ | refine ru ?_ | refine rt ?_ | refine rf ?_ | refine rs ?_ | refine And.intro ?_ ?_) | omega | simp (maxSteps := 1000000) only [go_sem, simprocAttr, ↓reduceIte, er])
    have hPw : (i + 1) * (b.length + 1) = i * (b.length + 1) + (b.length + 1) := by rw [Nat.succ_mul]
    have hPN : i * (b.length + 1) + (b.length + 1) ≤ N := by rw [← hPw, ← hN]; exact Nat.mul_le_mul_right _ hr
    have hPn : i < a.length → i * (b.length + 1) + (b.length + 1) + (b.length + 1) ≤ N := fun h => by
      have : (i + 2) * (b.length + 1) ≤ N := by rw [← hN]; exact Nat.mul_le_mul_right _ (by omega)
      have e : (i + 2) * (b.length + 1) = i * (b.length + 1) + (b.length + 1) + (b.length + 1) := by rw [Nat.succ_mul, Nat.succ_mul]
      omega
    have mul1 : (i : Int) * ((b.length : Int) + 1) = ((i * (b.length + 1) : Nat) : Int) := by simp
    have mul2 : ((i : Int) + 1) * ((b.length : Int) + 1) = ((i * (b.length + 1) + (b.length + 1) : Nat) : Int) := by rw [← hPw]; simp
    have hD0 : ∀ j, j < b.length + 1 → cellD sw a b (i * (b.length + 1) + j) = dist sw (a.drop i) (b.drop j) := fun j h => cellD_at sw a b h
    have hD1 : ∀ j, j < b.length + 1 → cellD sw a b (i * (b.length + 1) + (b.length + 1) + j) = dist sw (a.drop (i + 1)) (b.drop j) := fun j h => by rw [← hPw]; exact cellD_at sw a b h
    rw [hPw]
    refine VcLoop.intro (fun c : Nat => ⟨173, [(10, .int .i64 ((c : Int) - 1)), (9, .int .i64 i), (8, .own 0), (7, .int .i64 ((b.length : Int) + 1)), (0, .str a), (1, .str b), (2, .mp (kgKs (grp [] sw)) (kgVs (grp [] sw)))], [(0, .row 3 (.ints .i64 (tab sw a b (i * (b.length + 1) + c))))], 1⟩) (fun c => c ≤ b.length + 1) (fun c => c) (b.length + 1) ?_ (Nat.le_refl _) fun c hc => ?_
    · refine Ent.auto0 rfl ?_ ?_ <;> simp only [go_sem, reduceCtorEq, reduceIte, Nat.reduceEqDiff, Nat.reduceLT, Nat.reduceLeDiff, Int.natCast_succ, hall, hN]
      omega
    generalize hP : i * (b.length + 1) = P at *
    cases c with
    | zero =>
      (repeat' first | with_reducible (first | intro _ | refine rc ?_ | refine rl ?_ | refine rh ?_ | refine ru ?_ | refine rt ?_ | refine rf ?_ | refine rs ?_ | refine And.intro ?_ ?_) | omega | simp (maxSteps := 1000000) only [go_sem, simprocAttr, ↓reduceIte])
      refine ⟨i, Ent.auto0 rfl ?_ ?_, by omega, by omega⟩ <;> simp only [go_sem, reduceCtorEq, reduceIte, Nat.reduceEqDiff, Nat.reduceLT, Nat.reduceLeDiff, Int.natCast_succ, hP, Nat.add_zero]
    | succ j =>
      have ej : (((j + 1 : Nat) : Int)) - 1 = (j : Int) := by omega
      have hlen := tab_len sw a b (P + (j + 1))
      rw [hN] at hlen
      have hst : ∀ v, v = dist sw (a.drop i) (b.drop j) → (tab sw a b (P + (j + 1))).set (P + j) v = tab sw a b (P + j) := fun v hv => tab_set (hv.trans (hD0 j (by omega)).symm)
      have tn0 : ((P : Int) + j).toNat = P + j := by omega
      by_cases hia : i = a.length
      · have hv : 100 * ((b.length : Int) - j) = dist sw (a.drop i) (b.drop j) := by
          rw [hia, List.drop_length, dist_left hg]; simp; omega
        have hc1 : decide ((i : Int) = (a.length : Int)) = true := by simp [hia]
        (repeat' first | with_reducible (first | intro _ | refine rc ?_ | refine rl ?_ | refine rh ?_ | refine ru ?_ | refine rt ?_ | refine rf ?_ | refine rs ?_ | refine And.intro ?_ ?_) | omega | simp (maxSteps := 1000000) only [go_sem, simprocAttr, ↓reduceIte, ej, mul1, tn0, hlen, hst _ hv, hc1])
        refine ⟨j, Ent.auto0 rfl ?_ ?_, by omega, by omega⟩ <;> simp only [go_sem, reduceCtorEq, reduceIte, Nat.reduceEqDiff, Nat.reduceLT, Nat.reduceLeDiff, Int.natCast_succ]
      · have hc1 : decide ((i : Int) = (a.length : Int)) = false := by simp; omega
        by_cases hjb : j = b.length
        · have hv : 100 * ((a.length : Int) - i) = dist sw (a.drop i) (b.drop j) := by
            rw [hjb, List.drop_length, dist_right hg]; simp; omega
          have hc2 : decide ((j : Int) = (b.length : Int)) = true := by simp [hjb]
          (repeat' first | with_reducible (first | intro _ | refine rc ?_ | refine rl ?_ | refine rh ?_ | refine ru ?_ | refine rt ?_ | refine rf ?_ | refine rs ?_ | refine And.intro ?_ ?_) | omega | simp (maxSteps := 1000000) only [go_sem, simprocAttr, ↓reduceIte, ej, mul1, tn0, hlen, hst _ hv, hc1, hc2])
          refine ⟨j, Ent.auto0 rfl ?_ ?_, by omega, by omega⟩ <;> simp only [go_sem, reduceCtorEq, reduceIte, Nat.reduceEqDiff, Nat.reduceLT, Nat.reduceLeDiff, Int.natCast_succ]
        · have hc2 : decide ((j : Int) = (b.length : Int)) = false := by simp; omega
          have hPn' := hPn (by omega)
          have hxn : a.drop i ≠ [] := by simp; omega
          have hyn : b.drop j ≠ [] := by simp; omega
          have hprog := dist_prog hg hxn hyn
          simp only [List.drop_drop] at hprog
          have hxg : (a.drop i).getD 0 0 = a.getD i 0 := by simp [List.getD]
          have hyg : (b.drop j).getD 0 0 = b.getD j 0 := by simp [List.getD]
          rw [hxg, hyg] at hprog
          have r11 : (tab sw a b (P + (j + 1))).getD (P + (b.length + 1) + j + 1) 0 = dist sw (a.drop (i + 1)) (b.drop (j + 1)) := by rw [tab_get (by omega) (by omega)]; exact hD1 (j + 1) (by omega)
          have r10 : (tab sw a b (P + (j + 1))).getD (P + (b.length + 1) + j) 0 = dist sw (a.drop (i + 1)) (b.drop j) := by rw [tab_get (by omega) (by omega)]; exact hD1 j (by omega)
          have r01 : (tab sw a b (P + (j + 1))).getD (P + j + 1) 0 = dist sw (a.drop i) (b.drop (j + 1)) := by rw [tab_get (by omega) (by omega)]; exact hD0 (j + 1) (by omega)
          have t11 : (((P + (b.length + 1) : Nat) : Int) + j + 1).toNat = P + (b.length + 1) + j + 1 := by omega
          have t10 : (((P + (b.length + 1) : Nat) : Int) + j).toNat = P + (b.length + 1) + j := by omega
          have t01 : ((P : Int) + j + 1).toNat = P + j + 1 := by omega
          have b11 := dist_bd hg _ (a.drop (i + 1)) (b.drop (j + 1)) (Nat.le_refl _)
          have b10 := dist_bd hg _ (a.drop (i + 1)) (b.drop j) (Nat.le_refl _)
          have b01 := dist_bd hg _ (a.drop i) (b.drop (j + 1)) (Nat.le_refl _)
          simp only [List.length_drop] at b11 b10 b01
          generalize dist sw (a.drop (i + 1)) (b.drop (j + 1)) = d11 at *
          generalize dist sw (a.drop (i + 1)) (b.drop j) = d10 at *
          generalize dist sw (a.drop i) (b.drop (j + 1)) = d01 at *
          have hmm : ∀ x y : Int, minmax false x y = min x y := fun _ _ => rfl
          (repeat' first | with_reducible (first | intro _ | refine rc ?_ | refine rl ?_ | refine rh ?_ | refine ru ?_ | refine rt ?_ | refine rf ?_ | refine rs ?_ | refine And.intro ?_ ?_) | omega | simp (maxSteps := 1000000) only [go_sem, simprocAttr, ↓reduceIte, ej, mul1, mul2, tn0, hlen, hc1, hc2])
          refine VcDraw.lex [] [] (by kernel_rfl) (by kernel_rfl) ?_
          (repeat' first | with_reducible (first | intro _ | refine rc ?_ | refine rl ?_ | refine rh ?_ | refine ru ?_ | refine rt ?_ | refine rf ?_ | refine rs ?_ | refine And.intro ?_ ?_) | omega | simp (maxSteps := 1000000) only [go_sem, simprocAttr, ↓reduceIte, mul1, mul2, hlen, t11, t10, t01, elemA, r11, r10, r01])
          have hil : (i : Int) < (a.length : Int) := by omega
          have hjl : (j : Int) < (b.length : Int) := by omega
          have hsa : List.take (a.length - i) (a.drop i) = a.drop i := List.take_of_length_le (by simp)
          have hsb : List.take (b.length - j) (b.drop j) = b.drop j := List.take_of_length_le (by simp)
          have hgr := grp_is sw
          have hks : KeysT Tryz.prog 5 (kgKs (grp [] sw)) := KeysT_map (fun c => .int Tryz.underlying5 _) _
          have hvO := getV_ro (grp [] sw) (a.getD i 0)
          have hUl := under_len sw (a.getD i 0)
          obtain ⟨V, hO, hV⟩ : ∃ V, getO (kgKs (grp [] sw)) (kgVs (grp [] sw)) (.int .u8 ((a.getD i 0).toNat : Int)) .nilS = V ∧ (V = .ro (sws (under sw (a.getD i 0))) ∨ (V = .nilS ∧ under sw (a.getD i 0) = [])) := by
            cases hx : ixOf (kgK (grp [] sw)) (a.getD i 0) with
            | some t =>
              rw [hx] at hvO
              obtain ⟨h1, h2⟩ := hgr.some _ _ hx
              exact ⟨_, getO_some hvO, .inl (by rw [getD_lt h1, h2])⟩
            | none =>
              rw [hx] at hvO
              exact ⟨_, getO_none hvO, .inr ⟨rfl, hgr.none _ hx⟩⟩
          refine VcDraw.lex [] [] (by kernel_rfl) (by kernel_rfl) ?_
          by_cases hce : a.getD i 0 = b.getD j 0
          case' pos =>
            have hcd : decide (((a.getD i 0).toNat : Int) = ((b.getD j 0).toNat : Int)) = true := decide_eq_true (by rw [hce])
            rw [if_pos hce] at hprog
            (repeat' first | with_reducible (first | intro _ | refine rc ?_ | refine rl ?_ | refine rh ?_ | refine ru ?_ | refine rt ?_ | refine rf ?_ | refine rs ?_ | refine And.intro ?_ ?_) | omega | simp (maxSteps := 1000000) only [go_sem, simprocAttr, ↓reduceIte, hcd, mul2, t11, hlen, elemA, r11, hO, eq_true hks])
            have hb0 : 0 ≤ min (100 + min (min d11 d10) d01) d11 ∧ min (100 + min (min d11 d10) d01) d11 ≤ 1000000 := by omega
            generalize min (100 + min (min d11 d10) d01) d11 = b0 at *
          case' neg =>
            have hcd : decide (((a.getD i 0).toNat : Int) = ((b.getD j 0).toNat : Int)) = false := by
              refine decide_eq_false fun e => hce (UInt8.toNat_inj.1 ?_)
              omega
            rw [if_neg hce] at hprog
            (repeat' first | with_reducible (first | intro _ | refine rc ?_ | refine rl ?_ | refine rh ?_ | refine ru ?_ | refine rt ?_ | refine rf ?_ | refine rs ?_ | refine And.intro ?_ ?_) | omega | simp (maxSteps := 1000000) only [go_sem, simprocAttr, ↓reduceIte, hcd, mul2, t11, hlen, elemA, r11, hO, eq_true hks])
            have hb0 : 0 ≤ 100 + min (min d11 d10) d01 ∧ 100 + min (min d11 d10) d01 ≤ 1000000 := by omega
            generalize 100 + min (min d11 d10) d01 = b0 at *
          all_goals
            rcases hV with rfl | ⟨rfl, hU0⟩
            all_goals
              (repeat' first | with_reducible (first | intro _ | refine rc ?_ | refine rl ?_ | refine rh ?_ | refine ru ?_ | refine rt ?_ | refine rf ?_ | refine rs ?_ | refine And.intro ?_ ?_) | omega | simp (maxSteps := 1000000) only [go_sem, simprocAttr, ↓reduceIte, sws, List.length_map])
              refine VcLoop.intro (fun x : Nat × Int => ⟨173, [(124, .int .i64 x.1), (123, .int .i64 (under sw (a.getD i 0)).length), (122, .ro (sws (under sw (a.getD i 0)))), (11, .int .i64 x.2), (10, .int .i64 j), (9, .int .i64 i), (8, .own 0), (7, .int .i64 ((b.length : Int) + 1)), (0, .str a), (1, .str b), (2, .mp (kgKs (grp [] sw)) (kgVs (grp [] sw)))], [(0, .row 3 (.ints .i64 (tab sw a b (P + (j + 1)))))], 1⟩) (fun x => x.1 ≤ (under sw (a.getD i 0)).length ∧ 0 ≤ x.2 ∧ x.2 ≤ 1000000 ∧ minF (fits (a.drop i) (b.drop j)) (by_ sw (a.drop i) (b.drop j)) x.2 ((under sw (a.getD i 0)).drop x.1) = dist sw (a.drop i) (b.drop j)) (fun x => (under sw (a.getD i 0)).length - x.1) (0, b0) ?_ ⟨Nat.zero_le _, hb0.1, hb0.2, hprog⟩ fun x hx => ?_
              · first
                  | (refine Ent.auto0 rfl ?_ ?_ <;> simp only [go_sem, reduceCtorEq, reduceIte, Nat.reduceEqDiff, Nat.reduceLT, Nat.reduceLeDiff, Int.natCast_succ, sws]; done)
                  | (refine Ent.trans (Ent.nilRo 122 (sws (under sw (a.getD i 0))) rfl (by rw [hU0]; exact ⟨by decide, rfl⟩)) ?_
                     refine Ent.auto0 rfl ?_ ?_ <;> simp only [go_sem, reduceCtorEq, reduceIte, Nat.reduceEqDiff, Nat.reduceLT, Nat.reduceLeDiff, Int.natCast_succ, sws, hU0, List.map_nil, List.length_nil])
              obtain ⟨k, best⟩ := x
              dsimp only at hx
              by_cases hk : k < (under sw (a.getD i 0)).length
              · have hel := sw_elem (under sw (a.getD i 0)) hk
                have hstp := minF_step (fits (a.drop i) (b.drop j)) (by_ sw (a.drop i) (b.drop j)) (under sw (a.getD i 0)) hk best
                have hmem : (under sw (a.getD i 0)).getD k Sw.zero ∈ sw := by
                  rw [getD_lt hk]; exact (List.mem_filter.1 (List.getElem_mem hk)).1
                have hso := pos_of_ne (hg.o _ hmem)
                have hsc := hg.c0 _ hmem
                have hsc1 := hg.c1 _ hmem
                generalize (under sw (a.getD i 0)).getD k Sw.zero = s at *
                have hf : fits (a.drop i) (b.drop j) s = (s.o.isPrefixOf (a.drop i) && s.n.isPrefixOf (b.drop j)) := rfl
                have hby : by_ sw (a.drop i) (b.drop j) s = s.c + dist sw ((a.drop i).drop s.o.length) ((b.drop j).drop s.n.length) := rfl
                have k1 := hasPrefix_ok (a.drop i) s.o
                have k2 := hasPrefix_ok (b.drop j) s.n
                rw [hx.2.2.2] at hstp
                rw [List.drop_drop, List.drop_drop] at hby
                (repeat' first | with_reducible (first | intro _ | refine rc ?_ | refine rl ?_ | refine rh ?_ | refine ru ?_ | refine rt ?_ | refine rf ?_ | refine rs ?_ | refine And.intro ?_ ?_) | omega | simp (maxSteps := 1000000) only [go_sem, simprocAttr, ↓reduceIte, elemA, hel, sws, List.length_map])
                refine VcDraw.lex [] [] (by kernel_rfl) (by kernel_rfl) ?_
                (repeat' first | with_reducible (first | intro _ | refine rc ?_ | refine rl ?_ | refine rh ?_ | refine ru ?_ | refine rt ?_ | refine rf ?_ | refine rs ?_ | refine And.intro ?_ ?_) | omega | simp (maxSteps := 1000000) only [go_sem, simprocAttr, ↓reduceIte, hsa, hsb, Int.toNat_natCast])
                refine QV.intro (.bool (s.o.isPrefixOf (a.drop i))) ?_ ?_
                · (repeat' first | with_reducible (first | intro _ | refine rc ?_ | refine rl ?_ | refine rh ?_ | refine ru ?_ | refine rt ?_ | refine rf ?_ | refine rs ?_ | refine And.intro ?_ ?_) | omega | simp (maxSteps := 1000000) only [go_sem, simprocAttr, ↓reduceIte])
                  refine VcCall.k k1 ?_
                  (repeat' first | with_reducible (first | intro _ | refine rc ?_ | refine rl ?_ | refine rh ?_ | refine ru ?_ | refine rt ?_ | refine rf ?_ | refine rs ?_ | refine And.intro ?_ ?_) | omega | simp (maxSteps := 1000000) only [go_sem, simprocAttr, ↓reduceIte])
                cases hp1 : s.o.isPrefixOf (a.drop i) with
                | false =>
                  rw [hp1, Bool.false_and] at hf
                  simp only [hf, Bool.false_eq_true, if_false] at hstp
                  (repeat' first | with_reducible (first | intro _ | refine rc ?_ | refine rl ?_ | refine rh ?_ | refine ru ?_ | refine rt ?_ | refine rf ?_ | refine rs ?_ | refine And.intro ?_ ?_) | omega | simp (maxSteps := 1000000) only [go_sem, simprocAttr, ↓reduceIte, hsa, hsb, Int.toNat_natCast])
                  refine QV.intro (.bool false) ?_ ?_
                  · (repeat' first | with_reducible (first | intro _ | refine rc ?_ | refine rl ?_ | refine rh ?_ | refine ru ?_ | refine rt ?_ | refine rf ?_ | refine rs ?_ | refine And.intro ?_ ?_) | omega | simp (maxSteps := 1000000) only [go_sem, simprocAttr, ↓reduceIte])
                  (repeat' first | with_reducible (first | intro _ | refine rc ?_ | refine rl ?_ | refine rh ?_ | refine ru ?_ | refine rt ?_ | refine rf ?_ | refine rs ?_ | refine And.intro ?_ ?_) | omega | simp (maxSteps := 1000000) only [go_sem, simprocAttr, ↓reduceIte])
                  refine ⟨(k + 1, best), Ent.auto0 rfl ?_ ?_, ⟨by dsimp only; omega, hx.2.1, hx.2.2.1, hstp.symm⟩, by dsimp only; omega⟩ <;> simp only [go_sem, reduceCtorEq, reduceIte, Nat.reduceEqDiff, Nat.reduceLT, Nat.reduceLeDiff, Int.natCast_succ, sws]
                | true =>
                  rw [hp1, Bool.true_and] at hf
                  have hl1 := prefix_len hp1
                  rw [List.length_drop] at hl1
                  (repeat' first | with_reducible (first | intro _ | refine rc ?_ | refine rl ?_ | refine rh ?_ | refine ru ?_ | refine rt ?_ | refine rf ?_ | refine rs ?_ | refine And.intro ?_ ?_) | omega | simp (maxSteps := 1000000) only [go_sem, simprocAttr, ↓reduceIte, hsa, hsb, Int.toNat_natCast])
                  refine QV.intro (.bool (s.n.isPrefixOf (b.drop j))) ?_ ?_
                  · (repeat' first | with_reducible (first | intro _ | refine rc ?_ | refine rl ?_ | refine rh ?_ | refine ru ?_ | refine rt ?_ | refine rf ?_ | refine rs ?_ | refine And.intro ?_ ?_) | omega | simp (maxSteps := 1000000) only [go_sem, simprocAttr, ↓reduceIte, hsa, hsb, Int.toNat_natCast])
                    refine VcCall.k k2 ?_
                    (repeat' first | with_reducible (first | intro _ | refine rc ?_ | refine rl ?_ | refine rh ?_ | refine ru ?_ | refine rt ?_ | refine rf ?_ | refine rs ?_ | refine And.intro ?_ ?_) | omega | simp (maxSteps := 1000000) only [go_sem, simprocAttr, ↓reduceIte])
                  cases hp2 : s.n.isPrefixOf (b.drop j) with
                  | false =>
                    rw [hp2] at hf
                    simp only [hf, Bool.false_eq_true, if_false] at hstp
                    (repeat' first | with_reducible (first | intro _ | refine rc ?_ | refine rl ?_ | refine rh ?_ | refine ru ?_ | refine rt ?_ | refine rf ?_ | refine rs ?_ | refine And.intro ?_ ?_) | omega | simp (maxSteps := 1000000) only [go_sem, simprocAttr, ↓reduceIte])
                    refine ⟨(k + 1, best), Ent.auto0 rfl ?_ ?_, ⟨by dsimp only; omega, hx.2.1, hx.2.2.1, hstp.symm⟩, by dsimp only; omega⟩ <;> simp only [go_sem, reduceCtorEq, reduceIte, Nat.reduceEqDiff, Nat.reduceLT, Nat.reduceLeDiff, Int.natCast_succ, sws]
                  | true =>
                    have hl2 := prefix_len hp2
                    rw [List.length_drop] at hl2
                    rw [hp2] at hf
                    simp only [hf, if_true] at hstp
                    have hQ1 : (i + s.o.length) * (b.length + 1) + (b.length + 1) ≤ N := by
                      rw [← hN, ← Nat.succ_mul]; exact Nat.mul_le_mul_right _ (by omega)
                    have hQ2 : P + (b.length + 1) ≤ (i + s.o.length) * (b.length + 1) := by
                      rw [← hPw]; exact Nat.mul_le_mul_right _ (by omega)
                    have hQ3 : ∀ q, q < b.length + 1 → cellD sw a b ((i + s.o.length) * (b.length + 1) + q) = dist sw (a.drop (i + s.o.length)) (b.drop q) := fun q h => cellD_at sw a b h
                    have mul3 : ((i : Int) + (s.o.length : Int)) * ((b.length : Int) + 1) = (((i + s.o.length) * (b.length + 1) : Nat) : Int) := by simp
                    generalize (i + s.o.length) * (b.length + 1) = Q at *
                    have rs : (tab sw a b (P + (j + 1))).getD (Q + j + s.n.length) 0 = dist sw (a.drop (i + s.o.length)) (b.drop (j + s.n.length)) := by
                      rw [tab_get (by omega) (by omega), Nat.add_assoc]; exact hQ3 _ (by omega)
                    have ts : ((Q : Int) + j + (s.n.length : Int)).toNat = Q + j + s.n.length := by omega
                    have bs := dist_bd hg _ (a.drop (i + s.o.length)) (b.drop (j + s.n.length)) (Nat.le_refl _)
                    simp only [List.length_drop] at bs
                    rw [hby] at hstp
                    generalize dist sw (a.drop (i + s.o.length)) (b.drop (j + s.n.length)) = ds at *
                    (repeat' first | with_reducible (first | intro _ | refine rc ?_ | refine rl ?_ | refine rh ?_ | refine ru ?_ | refine rt ?_ | refine rf ?_ | refine rs ?_ | refine And.intro ?_ ?_) | omega | simp (maxSteps := 1000000) only [go_sem, simprocAttr, ↓reduceIte])
                    refine VcDraw.lex [] [] (by kernel_rfl) (by kernel_rfl) ?_
                    (repeat' first | with_reducible (first | intro _ | refine rc ?_ | refine rl ?_ | refine rh ?_ | refine ru ?_ | refine rt ?_ | refine rf ?_ | refine rs ?_ | refine And.intro ?_ ?_) | omega | simp (maxSteps := 1000000) only [go_sem, simprocAttr, ↓reduceIte, mul3, hlen, ts, rs, elemA])
                    refine ⟨(k + 1, min best (s.c + ds)), Ent.auto0 rfl ?_ ?_, ⟨by dsimp only; omega, by dsimp only; omega, by dsimp only; omega, hstp.symm⟩, by dsimp only; omega⟩ <;> simp only [go_sem, reduceCtorEq, reduceIte, Nat.reduceEqDiff, Nat.reduceLT, Nat.reduceLeDiff, Int.natCast_succ, sws]
              · have ek : k = (under sw (a.getD i 0)).length := by omega
                have hfin := hx.2.2.2
                rw [ek, List.drop_length] at hfin
                have hfin' : best = dist sw (a.drop i) (b.drop j) := hfin
                (repeat' first | with_reducible (first | intro _ | refine rc ?_ | refine rl ?_ | refine rh ?_ | refine ru ?_ | refine rt ?_ | refine rf ?_ | refine rs ?_ | refine And.intro ?_ ?_) | omega | simp (maxSteps := 1000000) only [go_sem, simprocAttr, ↓reduceIte, sws, List.length_map, mul1, tn0, hlen, hst _ hfin'])
                refine ⟨j, Ent.auto0 rfl ?_ ?_, by omega, by omega⟩ <;> simp only [go_sem, reduceCtorEq, reduceIte, Nat.reduceEqDiff, Nat.reduceLT, Nat.reduceLeDiff, Int.natCast_succ]
end Go.Fv.Y

namespace Go.Fv.Y
open Go Go.Proofs
set_option linter.unusedSimpArgs false
set_option linter.unusedVariables false
set_option linter.unnecessarySimpa false
set_option maxRecDepth 8000

end Go.Fv.Y

namespace Go.Fv.Y
open Go Go.Proofs
set_option linter.unusedSimpArgs false
set_option linter.unusedVariables false
set_option linter.unnecessarySimpa false
set_option maxRecDepth 8000

instance : FNoId Mx.av := ⟨fun _ => rfl⟩
instance {l : List Mx} : RowNoId (mxs l) := inferInstanceAs (RowNoId (.objs 3 (l.map Mx.av)))

end Go.Fv.Y
