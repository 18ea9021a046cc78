/-
  A part of the proof of the claim: walks over the program's functions and the plain laws that these need. No condition of its own.
-/
import Derived.Test.YtjomdjmmpohaeaaDoorWDistancesCardPart7
namespace Go.Fv.W
open Go Go.Proofs
set_option linter.unusedSimpArgs false
set_option linter.unusedVariables false
set_option linter.unnecessarySimpa false
set_option maxRecDepth 8000

theorem sl_elem (l : List Sl) {i : Nat} (h : i < l.length) : (l.map Sl.av).getD i [] = [.int .i64 (l.getD i Sl.zero).at_, .str (l.getD i Sl.zero).o, .str (l.getD i Sl.zero).n, .int .i64 (l.getD i Sl.zero).c] := by
  rw [getD_lt (by simpa using h), getD_lt h, List.getElem_map]; rfl
set_option maxHeartbeats 4000000 in
theorem equalSl_ok (a b : List Sl) : FnOk Tryd.prog 16 [.ro (sls a), .ro (sls b)] (.bool (decide (a = b))) [] := by
  refine FnOk.of_vc Tryd.func16 rfl (by decide) (by simp [Tryd.f16]) [.tmp 4] rfl fun w0 T0 _ => ?_
  simp only [Tryd.f16, argEnv]
  (repeat' first | (with_reducible refine Asm.intro fun _ => ?_) | ((with_reducible refine Chk.intro ?_ ?_); (· first | omega | (with_reducible refine Chk.intro ?_ ?_ <;> omega) | (simp; done) | (simp; omega))) | (with_reducible refine AnyI.i64 fun _ _ => ?_) | ((with_reducible refine LetW.i64 ?_ ?_ ?_); (· omega); (· omega)) | ((with_reducible refine Ite.decide (fun _ => ?_) (fun _ => ?_)) <;> first | (exfalso; omega) | skip) | (with_reducible refine Ite.bool (fun _ => ?_) (fun _ => ?_)) | (with_reducible refine And.intro ?_ ?_) | omega | simp (maxSteps := 1000000) only [go_sem, reduceCtorEq, Nat.reduceLT, Nat.reduceLeDiff, reduceIte, ↓reduceIte, Nat.reduceEqDiff, Nat.reduceAdd, Nat.reduceMul, Nat.reduceSub, Int.reduceLE, Int.reduceLT, Int.reduceNeg, Int.reduceToNat, sls, List.length_map])
  · rename_i h
    have hne : a ≠ b := by intro e; subst e; exact h rfl
    refine Ret.auto 0 ?_ rfl ?_ <;> simp only [go_sem, reduceCtorEq, reduceIte, Nat.reduceEqDiff, Nat.reduceLT, Nat.reduceLeDiff, Int.natCast_succ, Post, hne]
  rename_i h
  have hl : a.length = b.length := by omega
  refine VcLoop.intro (fun i : Nat => ⟨26, [(0, .ro (sls a)), (1, .ro (sls b)), (12, .int .i64 a.length), (13, .int .i64 i)], [], 0⟩) (fun i => i ≤ a.length ∧ ∀ j, j < i → a.getD j Sl.zero = b.getD j Sl.zero) (fun i => a.length - i) 0 ?_ ⟨by omega, fun j hj => by omega⟩ fun i hi => ?_
  · refine Ent.auto0 rfl ?_ ?_ <;> simp only [go_sem, reduceCtorEq, reduceIte, Nat.reduceEqDiff, Nat.reduceLT, Nat.reduceLeDiff, Int.natCast_succ, sls]
  by_cases hlt : i < a.length
  · have e1 := sl_elem a hlt
    have e2 := sl_elem b (i := i) (by omega)
    have hs : ∀ x y : Sl, (x.at_ : Int) = y.at_ ∧ x.o = y.o ∧ x.n = y.n ∧ x.c = y.c ↔ x = y := by
      rintro ⟨x1, x2, x3, x4⟩ ⟨y1, y2, y3, y4⟩
      simp only [Sl.mk.injEq]
      constructor
      · rintro ⟨h1, h2⟩; exact ⟨by omega, h2⟩
      · rintro ⟨h1, h2⟩; exact ⟨by omega, h2⟩
    generalize hx : a.getD i Sl.zero = x at *
    generalize hy : b.getD i Sl.zero = y at *
    have hs := hs x y
    (repeat' first | (with_reducible refine Asm.intro fun _ => ?_) | ((with_reducible refine Chk.intro ?_ ?_); (· first | omega | (with_reducible refine Chk.intro ?_ ?_ <;> omega) | (simp; done) | (simp; omega))) | (with_reducible refine AnyI.i64 fun _ _ => ?_) | ((with_reducible refine LetW.i64 ?_ ?_ ?_); (· omega); (· omega)) | ((with_reducible refine Ite.decide (fun _ => ?_) (fun _ => ?_)) <;> first | (exfalso; omega) | skip) | (with_reducible refine Ite.bool (fun _ => ?_) (fun _ => ?_)) | (with_reducible refine And.intro ?_ ?_) | omega | simp (maxSteps := 1000000) only [go_sem, reduceCtorEq, Nat.reduceLT, Nat.reduceLeDiff, reduceIte, ↓reduceIte, Nat.reduceEqDiff, Nat.reduceAdd, Nat.reduceMul, Nat.reduceSub, Int.reduceLE, Int.reduceLT, Int.reduceNeg, Int.reduceToNat, elemA, e1, e2, sls, List.length_map, hl])
    refine VcDraw.lex [] [] (by kernel_rfl) (by kernel_rfl) ?_
    (repeat' first | (with_reducible refine Asm.intro fun _ => ?_) | ((with_reducible refine Chk.intro ?_ ?_); (· first | omega | (with_reducible refine Chk.intro ?_ ?_ <;> omega) | (simp; done) | (simp; omega))) | (with_reducible refine AnyI.i64 fun _ _ => ?_) | ((with_reducible refine LetW.i64 ?_ ?_ ?_); (· omega); (· omega)) | ((with_reducible refine Ite.decide (fun _ => ?_) (fun _ => ?_)) <;> first | (exfalso; omega) | skip) | (with_reducible refine Ite.bool (fun _ => ?_) (fun _ => ?_)) | (with_reducible refine And.intro ?_ ?_) | omega | simp (maxSteps := 1000000) only [go_sem, reduceCtorEq, Nat.reduceLT, Nat.reduceLeDiff, reduceIte, ↓reduceIte, Nat.reduceEqDiff, Nat.reduceAdd, Nat.reduceMul, Nat.reduceSub, Int.reduceLE, Int.reduceLT, Int.reduceNeg, Int.reduceToNat, elemA, e1, e2, sls, List.length_map, hl])
    · have hne : a ≠ b := by
        intro e; subst e
        exact absurd (hs.2 (by rw [← hx, ← hy])) (by assumption)
      refine Ret.auto 0 ?_ rfl ?_ <;> simp only [go_sem, reduceCtorEq, reduceIte, Nat.reduceEqDiff, Nat.reduceLT, Nat.reduceLeDiff, Int.natCast_succ, Post, hne]
    · have hxy : x = y := hs.1 (Decidable.of_not_not (by assumption))
      refine ⟨i + 1, Ent.auto0 rfl ?_ ?_, ⟨by omega, fun j hj => ?_⟩, by omega⟩
      · simp only [go_sem, reduceCtorEq, reduceIte, Nat.reduceEqDiff, Nat.reduceLT, Nat.reduceLeDiff, Int.natCast_succ, sls]
      · simp only [go_sem, reduceCtorEq, reduceIte, Nat.reduceEqDiff, Nat.reduceLT, Nat.reduceLeDiff, Int.natCast_succ, sls]
      · by_cases e : j = i
        · subst e; rw [hx, hy, hxy]
        · exact hi.2 j (by omega)
  · have e : i = a.length := by omega
    subst e
    have hab : a = b := eq_of_getD Sl.zero hl fun j hj => hi.2 j (by omega)
    (repeat' first | (with_reducible refine Asm.intro fun _ => ?_) | ((with_reducible refine Chk.intro ?_ ?_); (· first | omega | (with_reducible refine Chk.intro ?_ ?_ <;> omega) | (simp; done) | (simp; omega))) | (with_reducible refine AnyI.i64 fun _ _ => ?_) | ((with_reducible refine LetW.i64 ?_ ?_ ?_); (· omega); (· omega)) | ((with_reducible refine Ite.decide (fun _ => ?_) (fun _ => ?_)) <;> first | (exfalso; omega) | skip) | (with_reducible refine Ite.bool (fun _ => ?_) (fun _ => ?_)) | (with_reducible refine And.intro ?_ ?_) | omega | simp (maxSteps := 1000000) only [go_sem, reduceCtorEq, Nat.reduceLT, Nat.reduceLeDiff, reduceIte, ↓reduceIte, Nat.reduceEqDiff, Nat.reduceAdd, Nat.reduceMul, Nat.reduceSub, Int.reduceLE, Int.reduceLT, Int.reduceNeg, Int.reduceToNat, sls, List.length_map])
    refine Ret.auto 0 ?_ rfl ?_ <;> simp only [go_sem, reduceCtorEq, reduceIte, Nat.reduceEqDiff, Nat.reduceLT, Nat.reduceLeDiff, Int.natCast_succ, Post, hab]

/-- A script that stays inside of its text. -/
def SlOk (a : List UInt8) : Nat → List Sl → Prop
  | p, [] => p ≤ a.length
  | p, s :: l => p ≤ s.at_ ∧ s.at_ + s.o.length ≤ a.length ∧ 0 ≤ s.c ∧ s.c ≤ 100 ∧ SlOk a (s.at_ + s.o.length) l
theorem script_inside {sw : List Sw} (hg : GoodSw sw) (a : List UInt8) : ∀ (k i p : Nat) (y : List UInt8), (a.drop i).length + y.length ≤ k → p ≤ i → i ≤ a.length → SlOk a p (script sw i (a.drop i) y)
  | 0, i, p, y, h, hp, hi => by
    have hx : a.drop i = [] := List.eq_nil_of_length_eq_zero (by omega)
    have hy : y = [] := List.eq_nil_of_length_eq_zero (by omega)
    subst hy
    rw [hx, script_nil]
    exact Nat.le_trans hp hi
  | k + 1, i, p, y, h, hp, hi => by
    by_cases hne : a.drop i = [] ∧ y = []
    · obtain ⟨hx, hy⟩ := hne
      subst hy
      rw [hx, script_nil]
      exact Nat.le_trans hp hi
    · rw [script_eq hg hne]
      have hb := pick_bd hg hne
      generalize pick sw (a.drop i) y = q at *
      have hqa : q.a ≤ a.length - i := by simpa using hb.1
      have hln : (a.drop (i + q.a)).length + (y.drop q.b).length ≤ k := by simp at h ⊢; omega
      rw [List.drop_drop]
      split
      · rw [List.nil_append]
        exact script_inside hg a k (i + q.a) p (y.drop q.b) hln (by omega) (by omega)
      · rw [List.cons_append, List.nil_append]
        have e : (List.take q.a (a.drop i)).length = q.a := by simp; omega
        refine ⟨hp, ?_, hb.2.2.2.1, hb.2.2.2.2, ?_⟩
        · show i + (List.take q.a (a.drop i)).length ≤ a.length
          rw [e]; omega
        · show SlOk a (i + (List.take q.a (a.drop i)).length) _
          rw [e]
          exact script_inside hg a k (i + q.a) (i + q.a) (y.drop q.b) hln (by omega) (by omega)
theorem script_len {sw : List Sw} (hg : GoodSw sw) (a : List UInt8) : ∀ (k i : Nat) (x y : List UInt8), x.length + y.length ≤ k → (script sw i x y).length ≤ x.length + y.length
  | 0, i, x, y, h => by
    have hx : x = [] := List.eq_nil_of_length_eq_zero (by omega)
    have hy : y = [] := List.eq_nil_of_length_eq_zero (by omega)
    subst hx; subst hy
    rw [script_nil]; simp
  | k + 1, i, x, y, h => by
    by_cases hne : x = [] ∧ y = []
    · obtain ⟨rfl, rfl⟩ := hne
      rw [script_nil]; simp
    · rw [script_eq hg hne]
      have hb := pick_bd hg hne
      generalize pick sw x y = q at *
      have ih := script_len hg a k (i + q.a) (x.drop q.a) (y.drop q.b) (by simp; omega)
      simp only [List.length_drop] at ih
      rw [List.length_append]
      split <;> simp <;> omega
theorem costs_drop (l : List Sl) {i : Nat} (h : i < l.length) : costs (l.drop i) = (l.getD i Sl.zero).c + costs (l.drop (i + 1)) := by
  rw [List.drop_eq_getElem_cons h, getD_lt h]; rfl
theorem made_drop (a : List UInt8) (l : List Sl) {i : Nat} (h : i < l.length) (p : Nat) : madeOf a p (l.drop i) = (a.drop p).take ((l.getD i Sl.zero).at_ - p) ++ (l.getD i Sl.zero).n ++ madeOf a ((l.getD i Sl.zero).at_ + (l.getD i Sl.zero).o.length) (l.drop (i + 1)) := by
  rw [List.drop_eq_getElem_cons h, getD_lt h]; rfl
theorem inside_drop (a : List UInt8) (l : List Sl) {i : Nat} (h : i < l.length) (p : Nat) (hs : SlOk a p (l.drop i)) : p ≤ (l.getD i Sl.zero).at_ ∧ (l.getD i Sl.zero).at_ + (l.getD i Sl.zero).o.length ≤ a.length ∧ 0 ≤ (l.getD i Sl.zero).c ∧ (l.getD i Sl.zero).c ≤ 100 ∧ SlOk a ((l.getD i Sl.zero).at_ + (l.getD i Sl.zero).o.length) (l.drop (i + 1)) := by
  rw [List.drop_eq_getElem_cons h] at hs
  rw [getD_lt h]; exact hs

set_option maxHeartbeats 16000000 in
theorem distancesMatch_ok (a b : List UInt8) (l0 : List Mx) (raw : Bool) : FnOk Tryd.prog 3 [.str a, .str b, .ro (mxs l0), .bool raw] (.bool true) [] := by
  have k0 := mixes_ok l0
  refine FnOk.of_vc Tryd.func3 rfl (by decide) (by simp [Tryd.f3]) [.tmp 8] rfl fun w0 T0 _ => ?_
  simp only [Tryd.f3, argEnv]
  (repeat' first | (with_reducible refine Asm.intro fun _ => ?_) | ((with_reducible refine Chk.intro ?_ ?_); (· first | omega | (with_reducible refine Chk.intro ?_ ?_ <;> omega) | (simp; done) | (simp; omega))) | (with_reducible refine AnyI.i64 fun _ _ => ?_) | ((with_reducible refine LetW.i64 ?_ ?_ ?_); (· omega); (· omega)) | ((with_reducible refine Ite.decide (fun _ => ?_) (fun _ => ?_)) <;> first | (exfalso; omega) | skip) | (with_reducible refine Ite.bool (fun _ => ?_) (fun _ => ?_)) | (with_reducible refine And.intro ?_ ?_) | omega | simp (maxSteps := 1000000) only [go_sem, reduceCtorEq, Nat.reduceLT, Nat.reduceLeDiff, reduceIte, ↓reduceIte, Nat.reduceEqDiff, Nat.reduceAdd, Nat.reduceMul, Nat.reduceSub, Int.reduceLE, Int.reduceLT, Int.reduceNeg, Int.reduceToNat])
  refine VcCall.fr (FnFr.of_ok landed_ok rfl rfl) (by simp only [noIdR_ok, argOkL, argOk, allOk, argOkN, List.drop_zero, lk, reduceIte, reduceCtorEq, Nat.reduceEqDiff, Option.some.injEq, Item.row.injEq, Item.box.injEq, AV.ro.injEq, exists_eq_left, exists_and_left, exists_eq_left', exists_eq_right, and_assoc, and_true, true_and, List.cons.injEq, exists_eq', exists_eq]) 0 rfl (by simp [rowsB]) ?_
  cases raw
  case' false =>
    (repeat' first | (with_reducible refine Asm.intro fun _ => ?_) | ((with_reducible refine Chk.intro ?_ ?_); (· first | omega | (with_reducible refine Chk.intro ?_ ?_ <;> omega) | (simp; done) | (simp; omega))) | (with_reducible refine AnyI.i64 fun _ _ => ?_) | ((with_reducible refine LetW.i64 ?_ ?_ ?_); (· omega); (· omega)) | ((with_reducible refine Ite.decide (fun _ => ?_) (fun _ => ?_)) <;> first | (exfalso; omega) | skip) | (with_reducible refine Ite.bool (fun _ => ?_) (fun _ => ?_)) | (with_reducible refine And.intro ?_ ?_) | omega | simp (maxSteps := 1000000) only [go_sem, reduceCtorEq, Nat.reduceLT, Nat.reduceLeDiff, reduceIte, ↓reduceIte, Nat.reduceEqDiff, Nat.reduceAdd, Nat.reduceMul, Nat.reduceSub, Int.reduceLE, Int.reduceLT, Int.reduceNeg, Int.reduceToNat])
    refine VcCall.ro (.ro (mxs (mixSel [] (l0.take 12)))) (FnFr.of_ok k0 rfl (by simp [noRoRows, noRoItem, noRoRow, noRoL, noRo, mxs, Mx.av])) (by simp only [noIdR_ok, argOkL, argOk, allOk, argOkN, List.drop_zero, lk, reduceIte, reduceCtorEq, Nat.reduceEqDiff, Option.some.injEq, Item.row.injEq, Item.box.injEq, AV.ro.injEq, exists_eq_left, exists_and_left, exists_eq_left', exists_eq_right, and_assoc, and_true, true_and, List.cons.injEq, exists_eq', exists_eq]) (by simp [outOk, argOk, argOkN, lk, noIdR_ok]) rfl ?_
    generalize mixSel [] (l0.take 12) = l
  case' true =>
    (repeat' first | (with_reducible refine Asm.intro fun _ => ?_) | ((with_reducible refine Chk.intro ?_ ?_); (· first | omega | (with_reducible refine Chk.intro ?_ ?_ <;> omega) | (simp; done) | (simp; omega))) | (with_reducible refine AnyI.i64 fun _ _ => ?_) | ((with_reducible refine LetW.i64 ?_ ?_ ?_); (· omega); (· omega)) | ((with_reducible refine Ite.decide (fun _ => ?_) (fun _ => ?_)) <;> first | (exfalso; omega) | skip) | (with_reducible refine Ite.bool (fun _ => ?_) (fun _ => ?_)) | (with_reducible refine And.intro ?_ ?_) | omega | simp (maxSteps := 1000000) only [go_sem, reduceCtorEq, Nat.reduceLT, Nat.reduceLeDiff, reduceIte, ↓reduceIte, Nat.reduceEqDiff, Nat.reduceAdd, Nat.reduceMul, Nat.reduceSub, Int.reduceLE, Int.reduceLT, Int.reduceNeg, Int.reduceToNat])
    generalize l0 = l
  all_goals
    have c1 := mixesError_ok l
    have c2 := checkMixes_ok l
    have c3 := distance_ok l a b
    have c4 := script_ok l a b
    have hd0 : distErr l a b ≠ 0 → distOut l a b = 0 ∧ scrOut l a b = [] := fun h => ⟨if_neg h, if_neg h⟩
    by_cases hlen : 200 < a.length ∨ 200 < b.length
    · have hE : distErr l a b = 4 := if_pos hlen
      obtain ⟨o1, o2⟩ := hd0 (by rw [hE]; decide)
      rw [hE, o1] at c3
      rw [hE, o2] at c4
      have hcd : (200 : Int) < (a.length : Int) ∨ (200 : Int) < (b.length : Int) := by omega
      (repeat' first | (with_reducible refine Asm.intro fun _ => ?_) | ((with_reducible refine Chk.intro ?_ ?_); (· first | omega | (with_reducible refine Chk.intro ?_ ?_ <;> omega) | (simp; done) | (simp; omega))) | (with_reducible refine AnyI.i64 fun _ _ => ?_) | ((with_reducible refine LetW.i64 ?_ ?_ ?_); (· omega); (· omega)) | ((with_reducible refine Ite.decide (fun _ => ?_) (fun _ => ?_)) <;> first | (exfalso; omega) | skip) | (with_reducible refine Ite.bool (fun _ => ?_) (fun _ => ?_)) | (with_reducible refine And.intro ?_ ?_) | omega | simp (maxSteps := 1000000) only [go_sem, reduceCtorEq, Nat.reduceLT, Nat.reduceLeDiff, reduceIte, ↓reduceIte, Nat.reduceEqDiff, Nat.reduceAdd, Nat.reduceMul, Nat.reduceSub, Int.reduceLE, Int.reduceLT, Int.reduceNeg, Int.reduceToNat])
      refine VcCall.fr (FnFr.of_ok c1 rfl rfl) (by simp only [noIdR_ok, argOkL, argOk, allOk, argOkN, List.drop_zero, lk, reduceIte, reduceCtorEq, Nat.reduceEqDiff, Option.some.injEq, Item.row.injEq, Item.box.injEq, AV.ro.injEq, exists_eq_left, exists_and_left, exists_eq_left', exists_eq_right, and_assoc, and_true, true_and, List.cons.injEq, exists_eq', exists_eq]) 0 rfl (by simp [rowsB]) ?_
      (repeat' first | (with_reducible refine Asm.intro fun _ => ?_) | ((with_reducible refine Chk.intro ?_ ?_); (· first | omega | (with_reducible refine Chk.intro ?_ ?_ <;> omega) | (simp; done) | (simp; omega))) | (with_reducible refine AnyI.i64 fun _ _ => ?_) | ((with_reducible refine LetW.i64 ?_ ?_ ?_); (· omega); (· omega)) | ((with_reducible refine Ite.decide (fun _ => ?_) (fun _ => ?_)) <;> first | (exfalso; omega) | skip) | (with_reducible refine Ite.bool (fun _ => ?_) (fun _ => ?_)) | (with_reducible refine And.intro ?_ ?_) | omega | simp (maxSteps := 1000000) only [go_sem, reduceCtorEq, Nat.reduceLT, Nat.reduceLeDiff, reduceIte, ↓reduceIte, Nat.reduceEqDiff, Nat.reduceAdd, Nat.reduceMul, Nat.reduceSub, Int.reduceLE, Int.reduceLT, Int.reduceNeg, Int.reduceToNat])
      refine VcCall.fr (FnFr.of_ok c2 rfl rfl) (by simp only [noIdR_ok, argOkL, argOk, allOk, argOkN, List.drop_zero, lk, reduceIte, reduceCtorEq, Nat.reduceEqDiff, Option.some.injEq, Item.row.injEq, Item.box.injEq, AV.ro.injEq, exists_eq_left, exists_and_left, exists_eq_left', exists_eq_right, and_assoc, and_true, true_and, List.cons.injEq, exists_eq', exists_eq]) 0 rfl (by simp [rowsB]) ?_
      (repeat' first | (with_reducible refine Asm.intro fun _ => ?_) | ((with_reducible refine Chk.intro ?_ ?_); (· first | omega | (with_reducible refine Chk.intro ?_ ?_ <;> omega) | (simp; done) | (simp; omega))) | (with_reducible refine AnyI.i64 fun _ _ => ?_) | ((with_reducible refine LetW.i64 ?_ ?_ ?_); (· omega); (· omega)) | ((with_reducible refine Ite.decide (fun _ => ?_) (fun _ => ?_)) <;> first | (exfalso; omega) | skip) | (with_reducible refine Ite.bool (fun _ => ?_) (fun _ => ?_)) | (with_reducible refine And.intro ?_ ?_) | omega | simp (maxSteps := 1000000) only [go_sem, reduceCtorEq, Nat.reduceLT, Nat.reduceLeDiff, reduceIte, ↓reduceIte, Nat.reduceEqDiff, Nat.reduceAdd, Nat.reduceMul, Nat.reduceSub, Int.reduceLE, Int.reduceLT, Int.reduceNeg, Int.reduceToNat, hcd])
      refine VcCall.fr (FnFr.of_ok c3 rfl rfl) (by simp only [noIdR_ok, argOkL, argOk, allOk, argOkN, List.drop_zero, lk, reduceIte, reduceCtorEq, Nat.reduceEqDiff, Option.some.injEq, Item.row.injEq, Item.box.injEq, AV.ro.injEq, exists_eq_left, exists_and_left, exists_eq_left', exists_eq_right, and_assoc, and_true, true_and, List.cons.injEq, exists_eq', exists_eq]) 0 rfl (by simp [rowsB]) ?_
      (repeat' first | (with_reducible refine Asm.intro fun _ => ?_) | ((with_reducible refine Chk.intro ?_ ?_); (· first | omega | (with_reducible refine Chk.intro ?_ ?_ <;> omega) | (simp; done) | (simp; omega))) | (with_reducible refine AnyI.i64 fun _ _ => ?_) | ((with_reducible refine LetW.i64 ?_ ?_ ?_); (· omega); (· omega)) | ((with_reducible refine Ite.decide (fun _ => ?_) (fun _ => ?_)) <;> first | (exfalso; omega) | skip) | (with_reducible refine Ite.bool (fun _ => ?_) (fun _ => ?_)) | (with_reducible refine And.intro ?_ ?_) | omega | simp (maxSteps := 1000000) only [go_sem, reduceCtorEq, Nat.reduceLT, Nat.reduceLeDiff, reduceIte, ↓reduceIte, Nat.reduceEqDiff, Nat.reduceAdd, Nat.reduceMul, Nat.reduceSub, Int.reduceLE, Int.reduceLT, Int.reduceNeg, Int.reduceToNat])
      refine VcCall.ro (.tup [.ro (sls []), .int .i64 4]) (FnFr.of_ok c4 rfl (by simp [noRoRows, noRoItem, noRoRow, noRoL, noRo, sls, Sl.av])) (by simp only [noIdR_ok, argOkL, argOk, allOk, argOkN, List.drop_zero, lk, reduceIte, reduceCtorEq, Nat.reduceEqDiff, Option.some.injEq, Item.row.injEq, Item.box.injEq, AV.ro.injEq, exists_eq_left, exists_and_left, exists_eq_left', exists_eq_right, and_assoc, and_true, true_and, List.cons.injEq, exists_eq', exists_eq]) (by simp [outOk, argOkL, allOk, argOk, argOkN, lk, noIdR_ok]) rfl ?_
      (repeat' first | (with_reducible refine Asm.intro fun _ => ?_) | ((with_reducible refine Chk.intro ?_ ?_); (· first | omega | (with_reducible refine Chk.intro ?_ ?_ <;> omega) | (simp; done) | (simp; omega))) | (with_reducible refine AnyI.i64 fun _ _ => ?_) | ((with_reducible refine LetW.i64 ?_ ?_ ?_); (· omega); (· omega)) | ((with_reducible refine Ite.decide (fun _ => ?_) (fun _ => ?_)) <;> first | (exfalso; omega) | skip) | (with_reducible refine Ite.bool (fun _ => ?_) (fun _ => ?_)) | (with_reducible refine And.intro ?_ ?_) | omega | simp (maxSteps := 1000000) only [go_sem, reduceCtorEq, Nat.reduceLT, Nat.reduceLeDiff, reduceIte, ↓reduceIte, Nat.reduceEqDiff, Nat.reduceAdd, Nat.reduceMul, Nat.reduceSub, Int.reduceLE, Int.reduceLT, Int.reduceNeg, Int.reduceToNat, sls, List.map_nil, List.length_nil])
      refine Ret.auto 0 ?_ rfl ?_ <;> simp only [go_sem, reduceCtorEq, reduceIte, Nat.reduceEqDiff, Nat.reduceLT, Nat.reduceLeDiff, Int.natCast_succ, Post]
    have hE : distErr l a b = mixErr l := if_neg hlen
    have hcd : ¬ ((200 : Int) < (a.length : Int) ∨ (200 : Int) < (b.length : Int)) := by omega
    by_cases hm : mixErr l = 0
    · obtain ⟨g1, g2, g3⟩ := mix_good hm
      have hml := (mixErr_zero hm).1
      have o1 : distOut l a b = dist (swL l) a b := if_pos (by rw [hE]; exact hm)
      have o2 : scrOut l a b = script (swL l) 0 a b := if_pos (by rw [hE]; exact hm)
      have c5 := refScript_ok l g1 (by omega) a b (by omega) (by omega)
      have c6 := equalSl_ok (script (swL l) 0 a b) (script (swL l) 0 a b)
      have c7 := distance_ok l b a
      have c8 := distance_ok l a a
      have e7 : distErr l b a = 0 := by unfold distErr; rw [if_neg (by omega)]; exact hm
      have e8 : distErr l a a = 0 := by unfold distErr; rw [if_neg (by omega)]; exact hm
      have o7 : distOut l b a = dist (swL l) a b := by unfold distOut; rw [if_pos e7]; exact (dist_sym g1 _ a b (Nat.le_refl _)).symm
      have o8 : distOut l a a = 0 := by unfold distOut; rw [if_pos e8]; exact dist_self g1 a
      have hcost := script_costs g1 _ 0 a b (Nat.le_refl _)
      have hmade := script_made g1 a _ 0 0 b (Nat.le_refl _) (Nat.le_refl _) (Nat.zero_le _)
      have hins := script_inside g1 a _ 0 0 b (Nat.le_refl _) (Nat.le_refl _) (Nat.zero_le _)
      have hsl := script_len g1 a _ 0 a b (Nat.le_refl _)
      have hdb := dist_bd g1 _ a b (Nat.le_refl _)
      rw [List.drop_zero] at hmade hins
      rw [Nat.sub_zero, List.take_zero, List.nil_append] at hmade
      rw [hE, hm, o1] at c3
      rw [hE, hm, o2] at c4
      rw [e7, o7] at c7
      rw [e8, o8] at c8
      rw [hm] at c1 c2
      simp only [decide_true] at c6
      generalize script (swL l) 0 a b = s at *
      generalize dist (swL l) a b = d at *
      (repeat' first | (with_reducible refine Asm.intro fun _ => ?_) | ((with_reducible refine Chk.intro ?_ ?_); (· first | omega | (with_reducible refine Chk.intro ?_ ?_ <;> omega) | (simp; done) | (simp; omega))) | (with_reducible refine AnyI.i64 fun _ _ => ?_) | ((with_reducible refine LetW.i64 ?_ ?_ ?_); (· omega); (· omega)) | ((with_reducible refine Ite.decide (fun _ => ?_) (fun _ => ?_)) <;> first | (exfalso; omega) | skip) | (with_reducible refine Ite.bool (fun _ => ?_) (fun _ => ?_)) | (with_reducible refine And.intro ?_ ?_) | omega | simp (maxSteps := 1000000) only [go_sem, reduceCtorEq, Nat.reduceLT, Nat.reduceLeDiff, reduceIte, ↓reduceIte, Nat.reduceEqDiff, Nat.reduceAdd, Nat.reduceMul, Nat.reduceSub, Int.reduceLE, Int.reduceLT, Int.reduceNeg, Int.reduceToNat])
      refine VcCall.fr (FnFr.of_ok c1 rfl rfl) (by simp only [noIdR_ok, argOkL, argOk, allOk, argOkN, List.drop_zero, lk, reduceIte, reduceCtorEq, Nat.reduceEqDiff, Option.some.injEq, Item.row.injEq, Item.box.injEq, AV.ro.injEq, exists_eq_left, exists_and_left, exists_eq_left', exists_eq_right, and_assoc, and_true, true_and, List.cons.injEq, exists_eq', exists_eq]) 0 rfl (by simp [rowsB]) ?_
      (repeat' first | (with_reducible refine Asm.intro fun _ => ?_) | ((with_reducible refine Chk.intro ?_ ?_); (· first | omega | (with_reducible refine Chk.intro ?_ ?_ <;> omega) | (simp; done) | (simp; omega))) | (with_reducible refine AnyI.i64 fun _ _ => ?_) | ((with_reducible refine LetW.i64 ?_ ?_ ?_); (· omega); (· omega)) | ((with_reducible refine Ite.decide (fun _ => ?_) (fun _ => ?_)) <;> first | (exfalso; omega) | skip) | (with_reducible refine Ite.bool (fun _ => ?_) (fun _ => ?_)) | (with_reducible refine And.intro ?_ ?_) | omega | simp (maxSteps := 1000000) only [go_sem, reduceCtorEq, Nat.reduceLT, Nat.reduceLeDiff, reduceIte, ↓reduceIte, Nat.reduceEqDiff, Nat.reduceAdd, Nat.reduceMul, Nat.reduceSub, Int.reduceLE, Int.reduceLT, Int.reduceNeg, Int.reduceToNat])
      refine VcCall.fr (FnFr.of_ok c2 rfl rfl) (by simp only [noIdR_ok, argOkL, argOk, allOk, argOkN, List.drop_zero, lk, reduceIte, reduceCtorEq, Nat.reduceEqDiff, Option.some.injEq, Item.row.injEq, Item.box.injEq, AV.ro.injEq, exists_eq_left, exists_and_left, exists_eq_left', exists_eq_right, and_assoc, and_true, true_and, List.cons.injEq, exists_eq', exists_eq]) 0 rfl (by simp [rowsB]) ?_
      (repeat' first | (with_reducible refine Asm.intro fun _ => ?_) | ((with_reducible refine Chk.intro ?_ ?_); (· first | omega | (with_reducible refine Chk.intro ?_ ?_ <;> omega) | (simp; done) | (simp; omega))) | (with_reducible refine AnyI.i64 fun _ _ => ?_) | ((with_reducible refine LetW.i64 ?_ ?_ ?_); (· omega); (· omega)) | ((with_reducible refine Ite.decide (fun _ => ?_) (fun _ => ?_)) <;> first | (exfalso; omega) | skip) | (with_reducible refine Ite.bool (fun _ => ?_) (fun _ => ?_)) | (with_reducible refine And.intro ?_ ?_) | omega | simp (maxSteps := 1000000) only [go_sem, reduceCtorEq, Nat.reduceLT, Nat.reduceLeDiff, reduceIte, ↓reduceIte, Nat.reduceEqDiff, Nat.reduceAdd, Nat.reduceMul, Nat.reduceSub, Int.reduceLE, Int.reduceLT, Int.reduceNeg, Int.reduceToNat, hcd])
      refine VcCall.fr (FnFr.of_ok c3 rfl rfl) (by simp only [noIdR_ok, argOkL, argOk, allOk, argOkN, List.drop_zero, lk, reduceIte, reduceCtorEq, Nat.reduceEqDiff, Option.some.injEq, Item.row.injEq, Item.box.injEq, AV.ro.injEq, exists_eq_left, exists_and_left, exists_eq_left', exists_eq_right, and_assoc, and_true, true_and, List.cons.injEq, exists_eq', exists_eq]) 0 rfl (by simp [rowsB]) ?_
      (repeat' first | (with_reducible refine Asm.intro fun _ => ?_) | ((with_reducible refine Chk.intro ?_ ?_); (· first | omega | (with_reducible refine Chk.intro ?_ ?_ <;> omega) | (simp; done) | (simp; omega))) | (with_reducible refine AnyI.i64 fun _ _ => ?_) | ((with_reducible refine LetW.i64 ?_ ?_ ?_); (· omega); (· omega)) | ((with_reducible refine Ite.decide (fun _ => ?_) (fun _ => ?_)) <;> first | (exfalso; omega) | skip) | (with_reducible refine Ite.bool (fun _ => ?_) (fun _ => ?_)) | (with_reducible refine And.intro ?_ ?_) | omega | simp (maxSteps := 1000000) only [go_sem, reduceCtorEq, Nat.reduceLT, Nat.reduceLeDiff, reduceIte, ↓reduceIte, Nat.reduceEqDiff, Nat.reduceAdd, Nat.reduceMul, Nat.reduceSub, Int.reduceLE, Int.reduceLT, Int.reduceNeg, Int.reduceToNat])
      refine VcCall.ro (.tup [.ro (sls s), .int .i64 0]) (FnFr.of_ok c4 rfl (by simp [noRoRows, noRoItem, noRoRow, noRoL, noRo, sls, Sl.av])) (by simp only [noIdR_ok, argOkL, argOk, allOk, argOkN, List.drop_zero, lk, reduceIte, reduceCtorEq, Nat.reduceEqDiff, Option.some.injEq, Item.row.injEq, Item.box.injEq, AV.ro.injEq, exists_eq_left, exists_and_left, exists_eq_left', exists_eq_right, and_assoc, and_true, true_and, List.cons.injEq, exists_eq', exists_eq]) (by simp [outOk, argOkL, allOk, argOk, argOkN, lk, noIdR_ok]) rfl ?_
      (repeat' first | (with_reducible refine Asm.intro fun _ => ?_) | ((with_reducible refine Chk.intro ?_ ?_); (· first | omega | (with_reducible refine Chk.intro ?_ ?_ <;> omega) | (simp; done) | (simp; omega))) | (with_reducible refine AnyI.i64 fun _ _ => ?_) | ((with_reducible refine LetW.i64 ?_ ?_ ?_); (· omega); (· omega)) | ((with_reducible refine Ite.decide (fun _ => ?_) (fun _ => ?_)) <;> first | (exfalso; omega) | skip) | (with_reducible refine Ite.bool (fun _ => ?_) (fun _ => ?_)) | (with_reducible refine And.intro ?_ ?_) | omega | simp (maxSteps := 1000000) only [go_sem, reduceCtorEq, Nat.reduceLT, Nat.reduceLeDiff, reduceIte, ↓reduceIte, Nat.reduceEqDiff, Nat.reduceAdd, Nat.reduceMul, Nat.reduceSub, Int.reduceLE, Int.reduceLT, Int.reduceNeg, Int.reduceToNat])
      refine VcCall.ro (.tup [.ro (sls s), .int .i64 d]) (FnFr.of_ok c5 rfl (by simp [noRoRows, noRoItem, noRoRow, noRoL, noRo, sls, Sl.av])) (by simp only [noIdR_ok, argOkL, argOk, allOk, argOkN, List.drop_zero, lk, reduceIte, reduceCtorEq, Nat.reduceEqDiff, Option.some.injEq, Item.row.injEq, Item.box.injEq, AV.ro.injEq, exists_eq_left, exists_and_left, exists_eq_left', exists_eq_right, and_assoc, and_true, true_and, List.cons.injEq, exists_eq', exists_eq]) (by simp [outOk, argOkL, allOk, argOk, argOkN, lk, noIdR_ok]) rfl ?_
      (repeat' first | (with_reducible refine Asm.intro fun _ => ?_) | ((with_reducible refine Chk.intro ?_ ?_); (· first | omega | (with_reducible refine Chk.intro ?_ ?_ <;> omega) | (simp; done) | (simp; omega))) | (with_reducible refine AnyI.i64 fun _ _ => ?_) | ((with_reducible refine LetW.i64 ?_ ?_ ?_); (· omega); (· omega)) | ((with_reducible refine Ite.decide (fun _ => ?_) (fun _ => ?_)) <;> first | (exfalso; omega) | skip) | (with_reducible refine Ite.bool (fun _ => ?_) (fun _ => ?_)) | (with_reducible refine And.intro ?_ ?_) | omega | simp (maxSteps := 1000000) only [go_sem, reduceCtorEq, Nat.reduceLT, Nat.reduceLeDiff, reduceIte, ↓reduceIte, Nat.reduceEqDiff, Nat.reduceAdd, Nat.reduceMul, Nat.reduceSub, Int.reduceLE, Int.reduceLT, Int.reduceNeg, Int.reduceToNat])
      refine VcCall.fr (FnFr.of_ok c6 rfl rfl) (by simp only [noIdR_ok, argOkL, argOk, allOk, argOkN, List.drop_zero, lk, reduceIte, reduceCtorEq, Nat.reduceEqDiff, Option.some.injEq, Item.row.injEq, Item.box.injEq, AV.ro.injEq, exists_eq_left, exists_and_left, exists_eq_left', exists_eq_right, and_assoc, and_true, true_and, List.cons.injEq, exists_eq', exists_eq]) 0 rfl (by simp [rowsB]) ?_
      (repeat' first | (with_reducible refine Asm.intro fun _ => ?_) | ((with_reducible refine Chk.intro ?_ ?_); (· first | omega | (with_reducible refine Chk.intro ?_ ?_ <;> omega) | (simp; done) | (simp; omega))) | (with_reducible refine AnyI.i64 fun _ _ => ?_) | ((with_reducible refine LetW.i64 ?_ ?_ ?_); (· omega); (· omega)) | ((with_reducible refine Ite.decide (fun _ => ?_) (fun _ => ?_)) <;> first | (exfalso; omega) | skip) | (with_reducible refine Ite.bool (fun _ => ?_) (fun _ => ?_)) | (with_reducible refine And.intro ?_ ?_) | omega | simp (maxSteps := 1000000) only [go_sem, reduceCtorEq, Nat.reduceLT, Nat.reduceLeDiff, reduceIte, ↓reduceIte, Nat.reduceEqDiff, Nat.reduceAdd, Nat.reduceMul, Nat.reduceSub, Int.reduceLE, Int.reduceLT, Int.reduceNeg, Int.reduceToNat])
      refine VcCall.fr (FnFr.of_ok c7 rfl rfl) (by simp only [noIdR_ok, argOkL, argOk, allOk, argOkN, List.drop_zero, lk, reduceIte, reduceCtorEq, Nat.reduceEqDiff, Option.some.injEq, Item.row.injEq, Item.box.injEq, AV.ro.injEq, exists_eq_left, exists_and_left, exists_eq_left', exists_eq_right, and_assoc, and_true, true_and, List.cons.injEq, exists_eq', exists_eq]) 0 rfl (by simp [rowsB]) ?_
      (repeat' first | (with_reducible refine Asm.intro fun _ => ?_) | ((with_reducible refine Chk.intro ?_ ?_); (· first | omega | (with_reducible refine Chk.intro ?_ ?_ <;> omega) | (simp; done) | (simp; omega))) | (with_reducible refine AnyI.i64 fun _ _ => ?_) | ((with_reducible refine LetW.i64 ?_ ?_ ?_); (· omega); (· omega)) | ((with_reducible refine Ite.decide (fun _ => ?_) (fun _ => ?_)) <;> first | (exfalso; omega) | skip) | (with_reducible refine Ite.bool (fun _ => ?_) (fun _ => ?_)) | (with_reducible refine And.intro ?_ ?_) | omega | simp (maxSteps := 1000000) only [go_sem, reduceCtorEq, Nat.reduceLT, Nat.reduceLeDiff, reduceIte, ↓reduceIte, Nat.reduceEqDiff, Nat.reduceAdd, Nat.reduceMul, Nat.reduceSub, Int.reduceLE, Int.reduceLT, Int.reduceNeg, Int.reduceToNat, sls, List.length_map])
      refine VcLoop.intro (fun x : Nat × Int × List UInt8 × Nat => ⟨161, [(99, .int .i64 x.1), (98, .int .i64 s.length), (97, .ro (sls s)), (17, .int .i64 x.2.1), (18, .str x.2.2.1), (19, .int .i64 x.2.2.2), (0, .str a), (1, .str b), (2, .ro (mxs l)), (9, .int .i64 0), (10, .int .i64 d), (16, .int .i64 d)], [], 0⟩)
        (fun x => x.1 ≤ s.length ∧ 0 ≤ x.2.1 ∧ x.2.1 ≤ 100 * x.1 ∧ x.2.1 + costs (s.drop x.1) = d ∧ x.2.2.1 ++ madeOf a x.2.2.2 (s.drop x.1) = b ∧ SlOk a x.2.2.2 (s.drop x.1)) (fun x => s.length - x.1) (0, 0, [], 0) ?_ ⟨Nat.zero_le _, Int.le_refl _, by simp, by simpa using hcost, by simpa using hmade, by simpa using hins⟩ fun x hx => ?_
      · refine Ent.auto0 rfl ?_ ?_ <;> simp only [go_sem, reduceCtorEq, reduceIte, Nat.reduceEqDiff, Nat.reduceLT, Nat.reduceLeDiff, Int.natCast_succ, sls, Int.natCast_zero]
      obtain ⟨i, sum, made, p⟩ := x
      dsimp only at hx
      obtain ⟨hi, hs0, hs1, hsc, hmd, hio⟩ := hx
      have hmlen : made.length ≤ b.length := by rw [← hmd]; simp
      by_cases hlt : i < s.length
      · have hel := sl_elem s hlt
        have q1 := costs_drop s hlt
        have q2 := made_drop a s hlt p
        have q3 := inside_drop a s hlt p hio
        generalize s.getD i Sl.zero = z at *
        obtain ⟨zt, zo, zn, zc⟩ := z
        dsimp only at hel q1 q2 q3
        obtain ⟨r1, r2, r3, r4, r5⟩ := q3
        rw [q1] at hsc
        rw [q2] at hmd
        have hznl : zn.length ≤ b.length := by rw [← hmd]; simp; omega
        have htk : (List.take (zt - p) (a.drop p)).length ≤ a.length := by simp; omega
        (repeat' first | (with_reducible refine Asm.intro fun _ => ?_) | ((with_reducible refine Chk.intro ?_ ?_); (· first | omega | (with_reducible refine Chk.intro ?_ ?_ <;> omega) | (simp; done) | (simp; omega))) | (with_reducible refine AnyI.i64 fun _ _ => ?_) | ((with_reducible refine LetW.i64 ?_ ?_ ?_); (· omega); (· omega)) | ((with_reducible refine Ite.decide (fun _ => ?_) (fun _ => ?_)) <;> first | (exfalso; omega) | skip) | (with_reducible refine Ite.bool (fun _ => ?_) (fun _ => ?_)) | (with_reducible refine And.intro ?_ ?_) | omega | simp (maxSteps := 1000000) only [go_sem, reduceCtorEq, Nat.reduceLT, Nat.reduceLeDiff, reduceIte, ↓reduceIte, Nat.reduceEqDiff, Nat.reduceAdd, Nat.reduceMul, Nat.reduceSub, Int.reduceLE, Int.reduceLT, Int.reduceNeg, Int.reduceToNat, elemA, hel, sls, List.length_map])
        refine VcDraw.lex [] [] (by kernel_rfl) (by kernel_rfl) ?_
        (repeat' first | (with_reducible refine Asm.intro fun _ => ?_) | ((with_reducible refine Chk.intro ?_ ?_); (· first | omega | (with_reducible refine Chk.intro ?_ ?_ <;> omega) | (simp; done) | (simp; omega))) | (with_reducible refine AnyI.i64 fun _ _ => ?_) | ((with_reducible refine LetW.i64 ?_ ?_ ?_); (· omega); (· omega)) | ((with_reducible refine Ite.decide (fun _ => ?_) (fun _ => ?_)) <;> first | (exfalso; omega) | skip) | (with_reducible refine Ite.bool (fun _ => ?_) (fun _ => ?_)) | (with_reducible refine And.intro ?_ ?_) | omega | simp (maxSteps := 1000000) only [go_sem, reduceCtorEq, Nat.reduceLT, Nat.reduceLeDiff, reduceIte, ↓reduceIte, Nat.reduceEqDiff, Nat.reduceAdd, Nat.reduceMul, Nat.reduceSub, Int.reduceLE, Int.reduceLT, Int.reduceNeg, Int.reduceToNat, Int.toNat_natCast])
        refine ⟨(i + 1, sum + zc, made ++ ((a.drop p).take (zt - p) ++ zn), zt + zo.length), ?_, ⟨by dsimp only; omega, by dsimp only; omega, by dsimp only; omega, by dsimp only; omega, ?_, r5⟩, by dsimp only; omega⟩
        · refine Ent.auto0 rfl ?_ ?_ <;> simp only [go_sem, reduceCtorEq, reduceIte, Nat.reduceEqDiff, Nat.reduceLT, Nat.reduceLeDiff, Int.natCast_succ, sls, Int.natCast_add]
        · dsimp only
          rw [List.append_assoc]; exact hmd
      · have e : i = s.length := by omega
        subst e
        rw [List.drop_length] at hsc hmd hio
        have hpl : p ≤ a.length := hio
        have hsum : sum = d := by
          have : costs [] = 0 := rfl
          rw [this] at hsc; omega
        have hmd' : made ++ a.drop p = b := hmd
        have htk : List.take (a.length - p) (a.drop p) = a.drop p := List.take_of_length_le (by simp)
        have hdl : (a.drop p).length ≤ a.length := by simp
        subst hsum
        (repeat' first | (with_reducible refine Asm.intro fun _ => ?_) | ((with_reducible refine Chk.intro ?_ ?_); (· first | omega | (with_reducible refine Chk.intro ?_ ?_ <;> omega) | (simp; done) | (simp; omega))) | (with_reducible refine AnyI.i64 fun _ _ => ?_) | ((with_reducible refine LetW.i64 ?_ ?_ ?_); (· omega); (· omega)) | ((with_reducible refine Ite.decide (fun _ => ?_) (fun _ => ?_)) <;> first | (exfalso; omega) | skip) | (with_reducible refine Ite.bool (fun _ => ?_) (fun _ => ?_)) | (with_reducible refine And.intro ?_ ?_) | omega | simp (maxSteps := 1000000) only [go_sem, reduceCtorEq, Nat.reduceLT, Nat.reduceLeDiff, reduceIte, ↓reduceIte, Nat.reduceEqDiff, Nat.reduceAdd, Nat.reduceMul, Nat.reduceSub, Int.reduceLE, Int.reduceLT, Int.reduceNeg, Int.reduceToNat, elemA, sls, List.length_map, Int.toNat_natCast, htk, hmd'])
        refine VcCall.fr (FnFr.of_ok c8 rfl rfl) (by simp only [noIdR_ok, argOkL, argOk, allOk, argOkN, List.drop_zero, lk, reduceIte, reduceCtorEq, Nat.reduceEqDiff, Option.some.injEq, Item.row.injEq, Item.box.injEq, AV.ro.injEq, exists_eq_left, exists_and_left, exists_eq_left', exists_eq_right, and_assoc, and_true, true_and, List.cons.injEq, exists_eq', exists_eq]) 0 rfl (by simp [rowsB]) ?_
        (repeat' first | (with_reducible refine Asm.intro fun _ => ?_) | ((with_reducible refine Chk.intro ?_ ?_); (· first | omega | (with_reducible refine Chk.intro ?_ ?_ <;> omega) | (simp; done) | (simp; omega))) | (with_reducible refine AnyI.i64 fun _ _ => ?_) | ((with_reducible refine LetW.i64 ?_ ?_ ?_); (· omega); (· omega)) | ((with_reducible refine Ite.decide (fun _ => ?_) (fun _ => ?_)) <;> first | (exfalso; omega) | skip) | (with_reducible refine Ite.bool (fun _ => ?_) (fun _ => ?_)) | (with_reducible refine And.intro ?_ ?_) | omega | simp (maxSteps := 1000000) only [go_sem, reduceCtorEq, Nat.reduceLT, Nat.reduceLeDiff, reduceIte, ↓reduceIte, Nat.reduceEqDiff, Nat.reduceAdd, Nat.reduceMul, Nat.reduceSub, Int.reduceLE, Int.reduceLT, Int.reduceNeg, Int.reduceToNat])
        refine Ret.auto 0 ?_ rfl ?_ <;> simp only [go_sem, reduceCtorEq, reduceIte, Nat.reduceEqDiff, Nat.reduceLT, Nat.reduceLeDiff, Int.natCast_succ, Post]
    · obtain ⟨o1, o2⟩ := hd0 (by rw [hE]; exact hm)
      rw [hE, o1] at c3
      rw [hE, o2] at c4
      (repeat' first | (with_reducible refine Asm.intro fun _ => ?_) | ((with_reducible refine Chk.intro ?_ ?_); (· first | omega | (with_reducible refine Chk.intro ?_ ?_ <;> omega) | (simp; done) | (simp; omega))) | (with_reducible refine AnyI.i64 fun _ _ => ?_) | ((with_reducible refine LetW.i64 ?_ ?_ ?_); (· omega); (· omega)) | ((with_reducible refine Ite.decide (fun _ => ?_) (fun _ => ?_)) <;> first | (exfalso; omega) | skip) | (with_reducible refine Ite.bool (fun _ => ?_) (fun _ => ?_)) | (with_reducible refine And.intro ?_ ?_) | omega | simp (maxSteps := 1000000) only [go_sem, reduceCtorEq, Nat.reduceLT, Nat.reduceLeDiff, reduceIte, ↓reduceIte, Nat.reduceEqDiff, Nat.reduceAdd, Nat.reduceMul, Nat.reduceSub, Int.reduceLE, Int.reduceLT, Int.reduceNeg, Int.reduceToNat])
      refine VcCall.fr (FnFr.of_ok c1 rfl rfl) (by simp only [noIdR_ok, argOkL, argOk, allOk, argOkN, List.drop_zero, lk, reduceIte, reduceCtorEq, Nat.reduceEqDiff, Option.some.injEq, Item.row.injEq, Item.box.injEq, AV.ro.injEq, exists_eq_left, exists_and_left, exists_eq_left', exists_eq_right, and_assoc, and_true, true_and, List.cons.injEq, exists_eq', exists_eq]) 0 rfl (by simp [rowsB]) ?_
      (repeat' first | (with_reducible refine Asm.intro fun _ => ?_) | ((with_reducible refine Chk.intro ?_ ?_); (· first | omega | (with_reducible refine Chk.intro ?_ ?_ <;> omega) | (simp; done) | (simp; omega))) | (with_reducible refine AnyI.i64 fun _ _ => ?_) | ((with_reducible refine LetW.i64 ?_ ?_ ?_); (· omega); (· omega)) | ((with_reducible refine Ite.decide (fun _ => ?_) (fun _ => ?_)) <;> first | (exfalso; omega) | skip) | (with_reducible refine Ite.bool (fun _ => ?_) (fun _ => ?_)) | (with_reducible refine And.intro ?_ ?_) | omega | simp (maxSteps := 1000000) only [go_sem, reduceCtorEq, Nat.reduceLT, Nat.reduceLeDiff, reduceIte, ↓reduceIte, Nat.reduceEqDiff, Nat.reduceAdd, Nat.reduceMul, Nat.reduceSub, Int.reduceLE, Int.reduceLT, Int.reduceNeg, Int.reduceToNat])
      refine VcCall.fr (FnFr.of_ok c2 rfl rfl) (by simp only [noIdR_ok, argOkL, argOk, allOk, argOkN, List.drop_zero, lk, reduceIte, reduceCtorEq, Nat.reduceEqDiff, Option.some.injEq, Item.row.injEq, Item.box.injEq, AV.ro.injEq, exists_eq_left, exists_and_left, exists_eq_left', exists_eq_right, and_assoc, and_true, true_and, List.cons.injEq, exists_eq', exists_eq]) 0 rfl (by simp [rowsB]) ?_
      (repeat' first | (with_reducible refine Asm.intro fun _ => ?_) | ((with_reducible refine Chk.intro ?_ ?_); (· first | omega | (with_reducible refine Chk.intro ?_ ?_ <;> omega) | (simp; done) | (simp; omega))) | (with_reducible refine AnyI.i64 fun _ _ => ?_) | ((with_reducible refine LetW.i64 ?_ ?_ ?_); (· omega); (· omega)) | ((with_reducible refine Ite.decide (fun _ => ?_) (fun _ => ?_)) <;> first | (exfalso; omega) | skip) | (with_reducible refine Ite.bool (fun _ => ?_) (fun _ => ?_)) | (with_reducible refine And.intro ?_ ?_) | omega | simp (maxSteps := 1000000) only [go_sem, reduceCtorEq, Nat.reduceLT, Nat.reduceLeDiff, reduceIte, ↓reduceIte, Nat.reduceEqDiff, Nat.reduceAdd, Nat.reduceMul, Nat.reduceSub, Int.reduceLE, Int.reduceLT, Int.reduceNeg, Int.reduceToNat, hcd])
      refine VcCall.fr (FnFr.of_ok c3 rfl rfl) (by simp only [noIdR_ok, argOkL, argOk, allOk, argOkN, List.drop_zero, lk, reduceIte, reduceCtorEq, Nat.reduceEqDiff, Option.some.injEq, Item.row.injEq, Item.box.injEq, AV.ro.injEq, exists_eq_left, exists_and_left, exists_eq_left', exists_eq_right, and_assoc, and_true, true_and, List.cons.injEq, exists_eq', exists_eq]) 0 rfl (by simp [rowsB]) ?_
      (repeat' first | (with_reducible refine Asm.intro fun _ => ?_) | ((with_reducible refine Chk.intro ?_ ?_); (· first | omega | (with_reducible refine Chk.intro ?_ ?_ <;> omega) | (simp; done) | (simp; omega))) | (with_reducible refine AnyI.i64 fun _ _ => ?_) | ((with_reducible refine LetW.i64 ?_ ?_ ?_); (· omega); (· omega)) | ((with_reducible refine Ite.decide (fun _ => ?_) (fun _ => ?_)) <;> first | (exfalso; omega) | skip) | (with_reducible refine Ite.bool (fun _ => ?_) (fun _ => ?_)) | (with_reducible refine And.intro ?_ ?_) | omega | simp (maxSteps := 1000000) only [go_sem, reduceCtorEq, Nat.reduceLT, Nat.reduceLeDiff, reduceIte, ↓reduceIte, Nat.reduceEqDiff, Nat.reduceAdd, Nat.reduceMul, Nat.reduceSub, Int.reduceLE, Int.reduceLT, Int.reduceNeg, Int.reduceToNat])
      refine VcCall.ro (.tup [.ro (sls []), .int .i64 (mixErr l)]) (FnFr.of_ok c4 rfl (by simp [noRoRows, noRoItem, noRoRow, noRoL, noRo, sls, Sl.av])) (by simp only [noIdR_ok, argOkL, argOk, allOk, argOkN, List.drop_zero, lk, reduceIte, reduceCtorEq, Nat.reduceEqDiff, Option.some.injEq, Item.row.injEq, Item.box.injEq, AV.ro.injEq, exists_eq_left, exists_and_left, exists_eq_left', exists_eq_right, and_assoc, and_true, true_and, List.cons.injEq, exists_eq', exists_eq]) (by simp [outOk, argOkL, allOk, argOk, argOkN, lk, noIdR_ok]) rfl ?_
      (repeat' first | (with_reducible refine Asm.intro fun _ => ?_) | ((with_reducible refine Chk.intro ?_ ?_); (· first | omega | (with_reducible refine Chk.intro ?_ ?_ <;> omega) | (simp; done) | (simp; omega))) | (with_reducible refine AnyI.i64 fun _ _ => ?_) | ((with_reducible refine LetW.i64 ?_ ?_ ?_); (· omega); (· omega)) | ((with_reducible refine Ite.decide (fun _ => ?_) (fun _ => ?_)) <;> first | (exfalso; omega) | skip) | (with_reducible refine Ite.bool (fun _ => ?_) (fun _ => ?_)) | (with_reducible refine And.intro ?_ ?_) | omega | simp (maxSteps := 1000000) only [go_sem, reduceCtorEq, Nat.reduceLT, Nat.reduceLeDiff, reduceIte, ↓reduceIte, Nat.reduceEqDiff, Nat.reduceAdd, Nat.reduceMul, Nat.reduceSub, Int.reduceLE, Int.reduceLT, Int.reduceNeg, Int.reduceToNat, sls, List.map_nil, List.length_nil, hm])
      refine Ret.auto 0 ?_ rfl ?_ <;> simp only [go_sem, reduceCtorEq, reduceIte, Nat.reduceEqDiff, Nat.reduceLT, Nat.reduceLeDiff, Int.natCast_succ, Post]
end Go.Fv.W
