/-
  A part of the proof of the claim: walks over the program's functions and the plain laws that these need. No condition of its own.
-/
import Derived.Test.YtjomdjmmpohaeaaDoorWErrorsCardPart2
import Derived.Test.YtjomdjmmpohaeaaDoorFvPart9
import Derived.Test.YtjomdjmmpohaeaaDoorFvPart6
/- Split. -/

namespace Go.Fv.W
open Go Go.Proofs
set_option linter.unusedSimpArgs false
set_option linter.unusedVariables false
set_option linter.unnecessarySimpa false
set_option maxRecDepth 8000

theorem lastW_nil : LastW [] := fun h => absurd h (by simp)
theorem lastW_snoc (l : List Tok) (m : Bytes) : LastW (l ++ [(m, true)]) := fun _ => by
  simp [List.getD]
theorem flush_eq (out : List Tok) (b : Bytes) : flush out b = addT out b false := rfl

structure SpI where
  i : Nat
  o : Nat
  out : List Tok
set_option maxHeartbeats 8000000 in
theorem split_ok (s : List UInt8) (hs : s.length ≤ 1048576) : FnOk Tryd.prog 26 [.str s] (.own 0) [(0, .row 54 (tkR (toks s [] [])))] := by
  refine FnOk.of_vc Tryd.func26 rfl (by decide) (by simp [Tryd.f26]) [.tmp 2] rfl fun w0 T0 _ => ?_
  simp only [Tryd.f26, argEnv]
  (repeat' first | (with_reducible refine Asm.intro fun _ => ?_) | ((with_reducible refine Chk.intro ?_ ?_); (· first | omega | (with_reducible refine Chk.intro ?_ ?_ <;> omega) | (simp; done) | (simp; omega))) | (with_reducible refine AnyI.i64 fun _ _ => ?_) | ((with_reducible refine LetW.i64 ?_ ?_ ?_); (· omega); (· omega)) | ((with_reducible refine Ite.decide (fun _ => ?_) (fun _ => ?_)) <;> first | (exfalso; omega) | skip) | (with_reducible refine Ite.bool (fun _ => ?_) (fun _ => ?_)) | (with_reducible refine And.intro ?_ ?_) | omega | simp (maxSteps := 1000000) only [go_sem, reduceCtorEq, Nat.reduceLT, Nat.reduceLeDiff, reduceIte, ↓reduceIte, Nat.reduceEqDiff, Nat.reduceAdd, Nat.reduceMul, Nat.reduceSub, Int.reduceLE, Int.reduceLT, Int.reduceNeg, Int.reduceToNat])
  refine VcLoop.intro (fun x : SpI => ⟨69, [(6, .int .i64 x.i), (5, .int .i64 x.o), (4, .fn 57 [.ptr 0 0]), (3, .ptr 0 0), (0, .str s)], [(0, .box 51 [.own 1]), (1, .row 54 (tkR x.out))], 2⟩) (fun x => x.o ≤ x.i ∧ x.i ≤ s.length ∧ toks (s.drop x.i) (sub s x.o x.i) x.out = toks s [] [] ∧ LastW x.out ∧ x.out.length ≤ 2 * x.i) (fun x => s.length - x.i) ⟨0, 0, []⟩ ?_ ⟨Nat.le_refl _, Nat.zero_le _, by rw [sub_self]; rfl, lastW_nil, Nat.le_refl _⟩ fun x hx => ?_
  · refine Ent.trans (Ent.nilBox (P := Tryd.prog) 1 0 54 e54 rfl rfl) (Ent.auto0 rfl ?_ ?_) <;> simp only [go_sem, reduceCtorEq, reduceIte, Nat.reduceEqDiff, Nat.reduceLT, Nat.reduceLeDiff, Int.natCast_succ, zrow, tkR, put, List.set_cons_zero, List.set_cons_succ, Nat.zero_mul, List.range_zero, List.map_nil, List.replicate_zero]
  obtain ⟨i, o, out⟩ := x
  obtain ⟨hoi, hil, ht, hL, hol⟩ := hx
  dsimp only at hoi hil ht hL hol ⊢
  (repeat' first | (with_reducible refine Asm.intro fun _ => ?_) | ((with_reducible refine Chk.intro ?_ ?_); (· first | omega | (with_reducible refine Chk.intro ?_ ?_ <;> omega) | (simp; done) | (simp; omega))) | (with_reducible refine AnyI.i64 fun _ _ => ?_) | ((with_reducible refine LetW.i64 ?_ ?_ ?_); (· omega); (· omega)) | ((with_reducible refine Ite.decide (fun _ => ?_) (fun _ => ?_)) <;> first | (exfalso; omega) | skip) | (with_reducible refine Ite.bool (fun _ => ?_) (fun _ => ?_)) | (with_reducible refine And.intro ?_ ?_) | omega | simp (maxSteps := 1000000) only [go_sem, reduceCtorEq, Nat.reduceLT, Nat.reduceLeDiff, reduceIte, ↓reduceIte, Nat.reduceEqDiff, Nat.reduceAdd, Nat.reduceMul, Nat.reduceSub, Int.reduceLE, Int.reduceLT, Int.reduceNeg, Int.reduceToNat, Int.toNat_natCast])
  · refine VcCall.fr (FnFr.of_ok (inWord_ok (s.getD i 0)) rfl rfl) (by simp only [noIdR_ok, argOkL, argOk, allOk, argOkN, List.drop_zero, lk, reduceIte, reduceCtorEq, Nat.reduceEqDiff, Option.some.injEq, Item.row.injEq, Item.box.injEq, AV.ro.injEq, exists_eq_left, exists_and_left, exists_eq_left', exists_eq_right, and_assoc, and_true, true_and, List.cons.injEq, exists_eq', exists_eq]) 0 rfl (by simp [rowsB]) ?_
    have hlt : i < s.length := by omega
    cases hc : inW (s.getD i 0) with
    | false =>
      (repeat' first | (with_reducible refine Asm.intro fun _ => ?_) | ((with_reducible refine Chk.intro ?_ ?_); (· first | omega | (with_reducible refine Chk.intro ?_ ?_ <;> omega) | (simp; done) | (simp; omega))) | (with_reducible refine AnyI.i64 fun _ _ => ?_) | ((with_reducible refine LetW.i64 ?_ ?_ ?_); (· omega); (· omega)) | ((with_reducible refine Ite.decide (fun _ => ?_) (fun _ => ?_)) <;> first | (exfalso; omega) | skip) | (with_reducible refine Ite.bool (fun _ => ?_) (fun _ => ?_)) | (with_reducible refine And.intro ?_ ?_) | omega | simp (maxSteps := 1000000) only [go_sem, reduceCtorEq, Nat.reduceLT, Nat.reduceLeDiff, reduceIte, ↓reduceIte, Nat.reduceEqDiff, Nat.reduceAdd, Nat.reduceMul, Nat.reduceSub, Int.reduceLE, Int.reduceLT, Int.reduceNeg, Int.reduceToNat, hc])
      refine ⟨⟨i + 1, o, out⟩, Ent.auto0 rfl ?_ ?_, ⟨Nat.le_succ_of_le hoi, hlt, ?_, hL, by dsimp only; omega⟩, by dsimp only; omega⟩
      · simp only [go_sem, reduceCtorEq, reduceIte, Nat.reduceEqDiff, Nat.reduceLT, Nat.reduceLeDiff, Int.natCast_succ]
      · simp only [go_sem, reduceCtorEq, reduceIte, Nat.reduceEqDiff, Nat.reduceLT, Nat.reduceLeDiff, Int.natCast_succ, tkR]
      · rw [← step_other hlt hoi hc]; exact ht
    | true =>
      (repeat' first | (with_reducible refine Asm.intro fun _ => ?_) | ((with_reducible refine Chk.intro ?_ ?_); (· first | omega | (with_reducible refine Chk.intro ?_ ?_ <;> omega) | (simp; done) | (simp; omega))) | (with_reducible refine AnyI.i64 fun _ _ => ?_) | ((with_reducible refine LetW.i64 ?_ ?_ ?_); (· omega); (· omega)) | ((with_reducible refine Ite.decide (fun _ => ?_) (fun _ => ?_)) <;> first | (exfalso; omega) | skip) | (with_reducible refine Ite.bool (fun _ => ?_) (fun _ => ?_)) | (with_reducible refine And.intro ?_ ?_) | omega | simp (maxSteps := 1000000) only [go_sem, reduceCtorEq, Nat.reduceLT, Nat.reduceLeDiff, reduceIte, ↓reduceIte, Nat.reduceEqDiff, Nat.reduceAdd, Nat.reduceMul, Nat.reduceSub, Int.reduceLE, Int.reduceLT, Int.reduceNeg, Int.reduceToNat, hc])
      refine VcLoop.intro (fun k : Nat => ⟨69, [(7, .int .i64 k), (6, .int .i64 i), (5, .int .i64 o), (4, .fn 57 [.ptr 0 0]), (3, .ptr 0 0), (0, .str s)], [(0, .box 51 [.own 1]), (1, .row 54 (tkR out))], 2⟩) (fun k => i ≤ k ∧ k ≤ s.length ∧ ∀ j, i ≤ j → j < k → inW (s.getD j 0) = true) (fun k => s.length - k) i ?_ ⟨Nat.le_refl _, hil, fun j h1 h2 => absurd h2 (by omega)⟩ fun k hk => ?_
      · refine Ent.auto0 rfl ?_ ?_ <;> simp only [go_sem, reduceCtorEq, reduceIte, Nat.reduceEqDiff, Nat.reduceLT, Nat.reduceLeDiff, Int.natCast_succ, tkR]
      obtain ⟨hk1, hk2, hr⟩ := hk
      by_cases hkl : k < s.length
      · have hkl2 : (k : Int) < s.length := by omega
        (repeat' first | (with_reducible refine Asm.intro fun _ => ?_) | ((with_reducible refine Chk.intro ?_ ?_); (· first | omega | (with_reducible refine Chk.intro ?_ ?_ <;> omega) | (simp; done) | (simp; omega))) | (with_reducible refine AnyI.i64 fun _ _ => ?_) | ((with_reducible refine LetW.i64 ?_ ?_ ?_); (· omega); (· omega)) | ((with_reducible refine Ite.decide (fun _ => ?_) (fun _ => ?_)) <;> first | (exfalso; omega) | skip) | (with_reducible refine Ite.bool (fun _ => ?_) (fun _ => ?_)) | (with_reducible refine And.intro ?_ ?_) | omega | simp (maxSteps := 1000000) only [go_sem, reduceCtorEq, Nat.reduceLT, Nat.reduceLeDiff, reduceIte, ↓reduceIte, Nat.reduceEqDiff, Nat.reduceAdd, Nat.reduceMul, Nat.reduceSub, Int.reduceLE, Int.reduceLT, Int.reduceNeg, Int.reduceToNat, hkl2, Int.toNat_natCast])
        refine VcCall.fr (FnFr.of_ok (inWord_ok (s.getD k 0)) rfl rfl) (by simp only [noIdR_ok, argOkL, argOk, allOk, argOkN, List.drop_zero, lk, reduceIte, reduceCtorEq, Nat.reduceEqDiff, Option.some.injEq, Item.row.injEq, Item.box.injEq, AV.ro.injEq, exists_eq_left, exists_and_left, exists_eq_left', exists_eq_right, and_assoc, and_true, true_and, List.cons.injEq, exists_eq', exists_eq]) 0 rfl (by simp [rowsB]) ?_
        cases hW : inW (s.getD k 0) with
        | true =>
          (repeat' first | (with_reducible refine Asm.intro fun _ => ?_) | ((with_reducible refine Chk.intro ?_ ?_); (· first | omega | (with_reducible refine Chk.intro ?_ ?_ <;> omega) | (simp; done) | (simp; omega))) | (with_reducible refine AnyI.i64 fun _ _ => ?_) | ((with_reducible refine LetW.i64 ?_ ?_ ?_); (· omega); (· omega)) | ((with_reducible refine Ite.decide (fun _ => ?_) (fun _ => ?_)) <;> first | (exfalso; omega) | skip) | (with_reducible refine Ite.bool (fun _ => ?_) (fun _ => ?_)) | (with_reducible refine And.intro ?_ ?_) | omega | simp (maxSteps := 1000000) only [go_sem, reduceCtorEq, Nat.reduceLT, Nat.reduceLeDiff, reduceIte, ↓reduceIte, Nat.reduceEqDiff, Nat.reduceAdd, Nat.reduceMul, Nat.reduceSub, Int.reduceLE, Int.reduceLT, Int.reduceNeg, Int.reduceToNat, hW])
          refine ⟨k + 1, Ent.auto0 rfl ?_ ?_, ⟨by omega, by omega, fun j h1 h2 => ?_⟩, by omega⟩
          · simp only [go_sem, reduceCtorEq, reduceIte, Nat.reduceEqDiff, Nat.reduceLT, Nat.reduceLeDiff, Int.natCast_succ]
          · simp only [go_sem, reduceCtorEq, reduceIte, Nat.reduceEqDiff, Nat.reduceLT, Nat.reduceLeDiff, Int.natCast_succ, tkR]
          · by_cases hj : j = k
            · rw [hj]; exact hW
            · exact hr j h1 (by omega)
        | false =>
          have he : k < s.length → inW (s.getD k 0) = false := fun _ => hW
          have hik : i < k := by
            by_cases h : i = k
            · subst h; exact absurd hc (by rw [hW]; decide)
            · omega
          obtain ⟨row, hR⟩ : ∃ row, (s.drop i).take (k - i) = row := ⟨_, rfl⟩
          have hR2 : sub s i k = row := hR
          have hrl : row.length = k - i := by rw [← hR2]; exact sub_len (by omega) (by omega)
          (repeat' first | (with_reducible refine Asm.intro fun _ => ?_) | ((with_reducible refine Chk.intro ?_ ?_); (· first | omega | (with_reducible refine Chk.intro ?_ ?_ <;> omega) | (simp; done) | (simp; omega))) | (with_reducible refine AnyI.i64 fun _ _ => ?_) | ((with_reducible refine LetW.i64 ?_ ?_ ?_); (· omega); (· omega)) | ((with_reducible refine Ite.decide (fun _ => ?_) (fun _ => ?_)) <;> first | (exfalso; omega) | skip) | (with_reducible refine Ite.bool (fun _ => ?_) (fun _ => ?_)) | (with_reducible refine And.intro ?_ ?_) | omega | simp (maxSteps := 1000000) only [go_sem, reduceCtorEq, Nat.reduceLT, Nat.reduceLeDiff, reduceIte, ↓reduceIte, Nat.reduceEqDiff, Nat.reduceAdd, Nat.reduceMul, Nat.reduceSub, Int.reduceLE, Int.reduceLT, Int.reduceNeg, Int.reduceToNat, hR, hW])
          refine VcCall.fr (FnFr.of_ok (trim_ok row (by omega)) rfl rfl) (by simp only [noIdR_ok, argOkL, argOk, allOk, argOkN, List.drop_zero, lk, reduceIte, reduceCtorEq, Nat.reduceEqDiff, Option.some.injEq, Item.row.injEq, Item.box.injEq, AV.ro.injEq, exists_eq_left, exists_and_left, exists_eq_left', exists_eq_right, and_assoc, and_true, true_and, List.cons.injEq, exists_eq', exists_eq]) 0 rfl (by simp [rowsB]) ?_
          (repeat' first | (with_reducible refine Asm.intro fun _ => ?_) | ((with_reducible refine Chk.intro ?_ ?_); (· first | omega | (with_reducible refine Chk.intro ?_ ?_ <;> omega) | (simp; done) | (simp; omega))) | (with_reducible refine AnyI.i64 fun _ _ => ?_) | ((with_reducible refine LetW.i64 ?_ ?_ ?_); (· omega); (· omega)) | ((with_reducible refine Ite.decide (fun _ => ?_) (fun _ => ?_)) <;> first | (exfalso; omega) | skip) | (with_reducible refine Ite.bool (fun _ => ?_) (fun _ => ?_)) | (with_reducible refine And.intro ?_ ?_) | omega | simp (maxSteps := 1000000) only [go_sem, reduceCtorEq, Nat.reduceLT, Nat.reduceLeDiff, reduceIte, ↓reduceIte, Nat.reduceEqDiff, Nat.reduceAdd, Nat.reduceMul, Nat.reduceSub, Int.reduceLE, Int.reduceLT, Int.reduceNeg, Int.reduceToNat])
          have hml := preN_le row
          refine VcCall.fr (FnFr.of_ok (isWord_ok (midQ row) (by omega)) rfl rfl) (by simp only [noIdR_ok, argOkL, argOk, allOk, argOkN, List.drop_zero, lk, reduceIte, reduceCtorEq, Nat.reduceEqDiff, Option.some.injEq, Item.row.injEq, Item.box.injEq, AV.ro.injEq, exists_eq_left, exists_and_left, exists_eq_left', exists_eq_right, and_assoc, and_true, true_and, List.cons.injEq, exists_eq', exists_eq]) 0 rfl (by simp [rowsB]) ?_
          cases hw : isWd (midQ row) with
          | false =>
            (repeat' first | (with_reducible refine Asm.intro fun _ => ?_) | ((with_reducible refine Chk.intro ?_ ?_); (· first | omega | (with_reducible refine Chk.intro ?_ ?_ <;> omega) | (simp; done) | (simp; omega))) | (with_reducible refine AnyI.i64 fun _ _ => ?_) | ((with_reducible refine LetW.i64 ?_ ?_ ?_); (· omega); (· omega)) | ((with_reducible refine Ite.decide (fun _ => ?_) (fun _ => ?_)) <;> first | (exfalso; omega) | skip) | (with_reducible refine Ite.bool (fun _ => ?_) (fun _ => ?_)) | (with_reducible refine And.intro ?_ ?_) | omega | simp (maxSteps := 1000000) only [go_sem, reduceCtorEq, Nat.reduceLT, Nat.reduceLeDiff, reduceIte, ↓reduceIte, Nat.reduceEqDiff, Nat.reduceAdd, Nat.reduceMul, Nat.reduceSub, Int.reduceLE, Int.reduceLT, Int.reduceNeg, Int.reduceToNat, hw])
            refine ⟨⟨k, o, out⟩, Ent.auto0 rfl ?_ ?_, ⟨by dsimp only; omega, hk2, ?_, hL, by dsimp only; omega⟩, by dsimp only; omega⟩
            · simp only [go_sem, reduceCtorEq, reduceIte, Nat.reduceEqDiff, Nat.reduceLT, Nat.reduceLeDiff, Int.natCast_succ]
            · simp only [go_sem, reduceCtorEq, reduceIte, Nat.reduceEqDiff, Nat.reduceLT, Nat.reduceLeDiff, Int.natCast_succ, tkR]
            · rw [← step_row hlt hoi hik hk2 hr he out (by rw [hR2]; exact hw)]; exact ht
          | true =>
            have hne : midQ row ≠ [] := by
              intro h; rw [h, isWd_nil] at hw; cases hw
            have kI := index_ok row (midQ row) (by omega)
            rw [index_mid hne] at kI
            have hst := step_word hlt hoi hik hk2 hr he out (by rw [hR2]; exact hw)
            rw [hR2] at hst
            have eF : ((i : Int) + (preN row : Int)).toNat = i + preN row := by omega
            obtain ⟨p, hp⟩ : ∃ p, preN row = p := ⟨_, rfl⟩
            rw [hp] at kI hst eF hml
            have hbl := sub_len (s := s) (a := o) (b := i + p) (by omega) (by omega)
            obtain ⟨b, hb⟩ : ∃ b, sub s o (i + p) = b := ⟨_, rfl⟩
            rw [hb] at hst hbl
            have hb2 : (s.drop o).take (i + p - o) = b := hb
            have k1 := add_ok out b false (by omega) (fun _ => hL)
            have k2 := add_ok (addT out b false) (midQ row) true (by have := addT_len out b false; omega) (fun h => by cases h)
            rw [show addT (addT out b false) (midQ row) true = flush out b ++ [(midQ row, true)] from if_neg hne] at k2
            generalize midQ row = m at *
            (repeat' first | (with_reducible refine Asm.intro fun _ => ?_) | ((with_reducible refine Chk.intro ?_ ?_); (· first | omega | (with_reducible refine Chk.intro ?_ ?_ <;> omega) | (simp; done) | (simp; omega))) | (with_reducible refine AnyI.i64 fun _ _ => ?_) | ((with_reducible refine LetW.i64 ?_ ?_ ?_); (· omega); (· omega)) | ((with_reducible refine Ite.decide (fun _ => ?_) (fun _ => ?_)) <;> first | (exfalso; omega) | skip) | (with_reducible refine Ite.bool (fun _ => ?_) (fun _ => ?_)) | (with_reducible refine And.intro ?_ ?_) | omega | simp (maxSteps := 1000000) only [go_sem, reduceCtorEq, Nat.reduceLT, Nat.reduceLeDiff, reduceIte, ↓reduceIte, Nat.reduceEqDiff, Nat.reduceAdd, Nat.reduceMul, Nat.reduceSub, Int.reduceLE, Int.reduceLT, Int.reduceNeg, Int.reduceToNat, hw])
            refine VcCall.fr (FnFr.of_ok kI rfl rfl) (by simp only [noIdR_ok, argOkL, argOk, allOk, argOkN, List.drop_zero, lk, reduceIte, reduceCtorEq, Nat.reduceEqDiff, Option.some.injEq, Item.row.injEq, Item.box.injEq, AV.ro.injEq, exists_eq_left, exists_and_left, exists_eq_left', exists_eq_right, and_assoc, and_true, true_and, List.cons.injEq, exists_eq', exists_eq]) 0 rfl (by simp [rowsB]) ?_
            (repeat' first | (with_reducible refine Asm.intro fun _ => ?_) | ((with_reducible refine Chk.intro ?_ ?_); (· first | omega | (with_reducible refine Chk.intro ?_ ?_ <;> omega) | (simp; done) | (simp; omega))) | (with_reducible refine AnyI.i64 fun _ _ => ?_) | ((with_reducible refine LetW.i64 ?_ ?_ ?_); (· omega); (· omega)) | ((with_reducible refine Ite.decide (fun _ => ?_) (fun _ => ?_)) <;> first | (exfalso; omega) | skip) | (with_reducible refine Ite.bool (fun _ => ?_) (fun _ => ?_)) | (with_reducible refine And.intro ?_ ?_) | omega | simp (maxSteps := 1000000) only [go_sem, reduceCtorEq, Nat.reduceLT, Nat.reduceLeDiff, reduceIte, ↓reduceIte, Nat.reduceEqDiff, Nat.reduceAdd, Nat.reduceMul, Nat.reduceSub, Int.reduceLE, Int.reduceLT, Int.reduceNeg, Int.reduceToNat, eF, hb2, Int.toNat_natCast])
            refine VcCall.io [0, 1] k1 (by decide) (by simp [renL, ren, ioN]) rfl (by simp [subOk, ioN, lk, Item.ren, Item.below, ren, renL, belowL, Fv.below, tkR, renR_ok, belowR_ok]) covA2 3 (by decide) rfl (by simp [rowsB, Item.below, Fv.below, belowL, tkR, belowR_ok]) ?_
            (repeat' first | (with_reducible refine Asm.intro fun _ => ?_) | ((with_reducible refine Chk.intro ?_ ?_); (· first | omega | (with_reducible refine Chk.intro ?_ ?_ <;> omega) | (simp; done) | (simp; omega))) | (with_reducible refine AnyI.i64 fun _ _ => ?_) | ((with_reducible refine LetW.i64 ?_ ?_ ?_); (· omega); (· omega)) | ((with_reducible refine Ite.decide (fun _ => ?_) (fun _ => ?_)) <;> first | (exfalso; omega) | skip) | (with_reducible refine Ite.bool (fun _ => ?_) (fun _ => ?_)) | (with_reducible refine And.intro ?_ ?_) | omega | simp (maxSteps := 1000000) only [go_sem, reduceCtorEq, Nat.reduceLT, Nat.reduceLeDiff, reduceIte, ↓reduceIte, Nat.reduceEqDiff, Nat.reduceAdd, Nat.reduceMul, Nat.reduceSub, Int.reduceLE, Int.reduceLT, Int.reduceNeg, Int.reduceToNat, S.ioS, ioRows, ioN, delL, Item.ren, ren, renL, tkR, List.length_cons, List.length_nil, List.getElem?_cons_zero, List.getElem?_cons_succ, List.getElem?_nil, List.cons_append, List.nil_append, Nat.reduceAdd, Nat.sub_self, Nat.add_zero, List.filter, eF, hb2])
            refine VcCall.io [0, 2] k2 (by decide) (by simp [renL, ren, ioN]) rfl (by simp [subOk, ioN, lk, Item.ren, Item.below, ren, renL, belowL, Fv.below, tkR, renR_ok, belowR_ok]) covA2 3 (by decide) rfl (by simp [rowsB, Item.below, Fv.below, belowL, tkR, belowR_ok]) ?_
            (repeat' first | (with_reducible refine Asm.intro fun _ => ?_) | ((with_reducible refine Chk.intro ?_ ?_); (· first | omega | (with_reducible refine Chk.intro ?_ ?_ <;> omega) | (simp; done) | (simp; omega))) | (with_reducible refine AnyI.i64 fun _ _ => ?_) | ((with_reducible refine LetW.i64 ?_ ?_ ?_); (· omega); (· omega)) | ((with_reducible refine Ite.decide (fun _ => ?_) (fun _ => ?_)) <;> first | (exfalso; omega) | skip) | (with_reducible refine Ite.bool (fun _ => ?_) (fun _ => ?_)) | (with_reducible refine And.intro ?_ ?_) | omega | simp (maxSteps := 1000000) only [go_sem, reduceCtorEq, Nat.reduceLT, Nat.reduceLeDiff, reduceIte, ↓reduceIte, Nat.reduceEqDiff, Nat.reduceAdd, Nat.reduceMul, Nat.reduceSub, Int.reduceLE, Int.reduceLT, Int.reduceNeg, Int.reduceToNat, S.ioS, ioRows, ioN, delL, Item.ren, ren, renL, tkR, List.length_cons, List.length_nil, List.getElem?_cons_zero, List.getElem?_cons_succ, List.getElem?_nil, List.cons_append, List.nil_append, Nat.reduceAdd, Nat.sub_self, Nat.add_zero, List.filter])
            refine ⟨⟨k, i + p + m.length, flush out b ++ [(m, true)]⟩, Ent.auto0 rfl ?_ ?_, ⟨by dsimp only; omega, hk2, ?_, lastW_snoc _ _, ?_⟩, by dsimp only; omega⟩
            · simp only [go_sem, reduceCtorEq, reduceIte, Nat.reduceEqDiff, Nat.reduceLT, Nat.reduceLeDiff, Int.natCast_succ, Int.natCast_add]
            · simp only [go_sem, reduceCtorEq, reduceIte, Nat.reduceEqDiff, Nat.reduceLT, Nat.reduceLeDiff, Int.natCast_succ, tkR]
            · rw [← hst]; exact ht
            · have := addT_len out b false
              show (addT out b false ++ [(m, true)]).length ≤ 2 * k
              rw [List.length_append, List.length_singleton]; omega
      · have hkl2 : ¬ (k : Int) < s.length := by omega
        have he : k < s.length → inW (s.getD k 0) = false := fun h => absurd h hkl
        have hik : i < k := by
          by_cases h : i = k
          · subst h; exact absurd hc (by omega)
          · omega
        obtain ⟨row, hR⟩ : ∃ row, (s.drop i).take (k - i) = row := ⟨_, rfl⟩
        have hR2 : sub s i k = row := hR
        have hrl : row.length = k - i := by rw [← hR2]; exact sub_len (by omega) (by omega)
        (repeat' first | (with_reducible refine Asm.intro fun _ => ?_) | ((with_reducible refine Chk.intro ?_ ?_); (· first | omega | (with_reducible refine Chk.intro ?_ ?_ <;> omega) | (simp; done) | (simp; omega))) | (with_reducible refine AnyI.i64 fun _ _ => ?_) | ((with_reducible refine LetW.i64 ?_ ?_ ?_); (· omega); (· omega)) | ((with_reducible refine Ite.decide (fun _ => ?_) (fun _ => ?_)) <;> first | (exfalso; omega) | skip) | (with_reducible refine Ite.bool (fun _ => ?_) (fun _ => ?_)) | (with_reducible refine And.intro ?_ ?_) | omega | simp (maxSteps := 1000000) only [go_sem, reduceCtorEq, Nat.reduceLT, Nat.reduceLeDiff, reduceIte, ↓reduceIte, Nat.reduceEqDiff, Nat.reduceAdd, Nat.reduceMul, Nat.reduceSub, Int.reduceLE, Int.reduceLT, Int.reduceNeg, Int.reduceToNat, hR, hkl2])
        refine VcCall.fr (FnFr.of_ok (trim_ok row (by omega)) rfl rfl) (by simp only [noIdR_ok, argOkL, argOk, allOk, argOkN, List.drop_zero, lk, reduceIte, reduceCtorEq, Nat.reduceEqDiff, Option.some.injEq, Item.row.injEq, Item.box.injEq, AV.ro.injEq, exists_eq_left, exists_and_left, exists_eq_left', exists_eq_right, and_assoc, and_true, true_and, List.cons.injEq, exists_eq', exists_eq]) 0 rfl (by simp [rowsB]) ?_
        (repeat' first | (with_reducible refine Asm.intro fun _ => ?_) | ((with_reducible refine Chk.intro ?_ ?_); (· first | omega | (with_reducible refine Chk.intro ?_ ?_ <;> omega) | (simp; done) | (simp; omega))) | (with_reducible refine AnyI.i64 fun _ _ => ?_) | ((with_reducible refine LetW.i64 ?_ ?_ ?_); (· omega); (· omega)) | ((with_reducible refine Ite.decide (fun _ => ?_) (fun _ => ?_)) <;> first | (exfalso; omega) | skip) | (with_reducible refine Ite.bool (fun _ => ?_) (fun _ => ?_)) | (with_reducible refine And.intro ?_ ?_) | omega | simp (maxSteps := 1000000) only [go_sem, reduceCtorEq, Nat.reduceLT, Nat.reduceLeDiff, reduceIte, ↓reduceIte, Nat.reduceEqDiff, Nat.reduceAdd, Nat.reduceMul, Nat.reduceSub, Int.reduceLE, Int.reduceLT, Int.reduceNeg, Int.reduceToNat])
        have hml := preN_le row
        refine VcCall.fr (FnFr.of_ok (isWord_ok (midQ row) (by omega)) rfl rfl) (by simp only [noIdR_ok, argOkL, argOk, allOk, argOkN, List.drop_zero, lk, reduceIte, reduceCtorEq, Nat.reduceEqDiff, Option.some.injEq, Item.row.injEq, Item.box.injEq, AV.ro.injEq, exists_eq_left, exists_and_left, exists_eq_left', exists_eq_right, and_assoc, and_true, true_and, List.cons.injEq, exists_eq', exists_eq]) 0 rfl (by simp [rowsB]) ?_
        cases hw : isWd (midQ row) with
        | false =>
          (repeat' first | (with_reducible refine Asm.intro fun _ => ?_) | ((with_reducible refine Chk.intro ?_ ?_); (· first | omega | (with_reducible refine Chk.intro ?_ ?_ <;> omega) | (simp; done) | (simp; omega))) | (with_reducible refine AnyI.i64 fun _ _ => ?_) | ((with_reducible refine LetW.i64 ?_ ?_ ?_); (· omega); (· omega)) | ((with_reducible refine Ite.decide (fun _ => ?_) (fun _ => ?_)) <;> first | (exfalso; omega) | skip) | (with_reducible refine Ite.bool (fun _ => ?_) (fun _ => ?_)) | (with_reducible refine And.intro ?_ ?_) | omega | simp (maxSteps := 1000000) only [go_sem, reduceCtorEq, Nat.reduceLT, Nat.reduceLeDiff, reduceIte, ↓reduceIte, Nat.reduceEqDiff, Nat.reduceAdd, Nat.reduceMul, Nat.reduceSub, Int.reduceLE, Int.reduceLT, Int.reduceNeg, Int.reduceToNat, hw])
          refine ⟨⟨k, o, out⟩, Ent.auto0 rfl ?_ ?_, ⟨by dsimp only; omega, hk2, ?_, hL, by dsimp only; omega⟩, by dsimp only; omega⟩
          · simp only [go_sem, reduceCtorEq, reduceIte, Nat.reduceEqDiff, Nat.reduceLT, Nat.reduceLeDiff, Int.natCast_succ]
          · simp only [go_sem, reduceCtorEq, reduceIte, Nat.reduceEqDiff, Nat.reduceLT, Nat.reduceLeDiff, Int.natCast_succ, tkR]
          · rw [← step_row hlt hoi hik hk2 hr he out (by rw [hR2]; exact hw)]; exact ht
        | true =>
          have hne : midQ row ≠ [] := by
            intro h; rw [h, isWd_nil] at hw; cases hw
          have kI := index_ok row (midQ row) (by omega)
          rw [index_mid hne] at kI
          have hst := step_word hlt hoi hik hk2 hr he out (by rw [hR2]; exact hw)
          rw [hR2] at hst
          have eF : ((i : Int) + (preN row : Int)).toNat = i + preN row := by omega
          obtain ⟨p, hp⟩ : ∃ p, preN row = p := ⟨_, rfl⟩
          rw [hp] at kI hst eF hml
          have hbl := sub_len (s := s) (a := o) (b := i + p) (by omega) (by omega)
          obtain ⟨b, hb⟩ : ∃ b, sub s o (i + p) = b := ⟨_, rfl⟩
          rw [hb] at hst hbl
          have hb2 : (s.drop o).take (i + p - o) = b := hb
          have k1 := add_ok out b false (by omega) (fun _ => hL)
          have k2 := add_ok (addT out b false) (midQ row) true (by have := addT_len out b false; omega) (fun h => by cases h)
          rw [show addT (addT out b false) (midQ row) true = flush out b ++ [(midQ row, true)] from if_neg hne] at k2
          generalize midQ row = m at *
          (repeat' first | (with_reducible refine Asm.intro fun _ => ?_) | ((with_reducible refine Chk.intro ?_ ?_); (· first | omega | (with_reducible refine Chk.intro ?_ ?_ <;> omega) | (simp; done) | (simp; omega))) | (with_reducible refine AnyI.i64 fun _ _ => ?_) | ((with_reducible refine LetW.i64 ?_ ?_ ?_); (· omega); (· omega)) | ((with_reducible refine Ite.decide (fun _ => ?_) (fun _ => ?_)) <;> first | (exfalso; omega) | skip) | (with_reducible refine Ite.bool (fun _ => ?_) (fun _ => ?_)) | (with_reducible refine And.intro ?_ ?_) | omega | simp (maxSteps := 1000000) only [go_sem, reduceCtorEq, Nat.reduceLT, Nat.reduceLeDiff, reduceIte, ↓reduceIte, Nat.reduceEqDiff, Nat.reduceAdd, Nat.reduceMul, Nat.reduceSub, Int.reduceLE, Int.reduceLT, Int.reduceNeg, Int.reduceToNat, hw])
          refine VcCall.fr (FnFr.of_ok kI rfl rfl) (by simp only [noIdR_ok, argOkL, argOk, allOk, argOkN, List.drop_zero, lk, reduceIte, reduceCtorEq, Nat.reduceEqDiff, Option.some.injEq, Item.row.injEq, Item.box.injEq, AV.ro.injEq, exists_eq_left, exists_and_left, exists_eq_left', exists_eq_right, and_assoc, and_true, true_and, List.cons.injEq, exists_eq', exists_eq]) 0 rfl (by simp [rowsB]) ?_
          (repeat' first | (with_reducible refine Asm.intro fun _ => ?_) | ((with_reducible refine Chk.intro ?_ ?_); (· first | omega | (with_reducible refine Chk.intro ?_ ?_ <;> omega) | (simp; done) | (simp; omega))) | (with_reducible refine AnyI.i64 fun _ _ => ?_) | ((with_reducible refine LetW.i64 ?_ ?_ ?_); (· omega); (· omega)) | ((with_reducible refine Ite.decide (fun _ => ?_) (fun _ => ?_)) <;> first | (exfalso; omega) | skip) | (with_reducible refine Ite.bool (fun _ => ?_) (fun _ => ?_)) | (with_reducible refine And.intro ?_ ?_) | omega | simp (maxSteps := 1000000) only [go_sem, reduceCtorEq, Nat.reduceLT, Nat.reduceLeDiff, reduceIte, ↓reduceIte, Nat.reduceEqDiff, Nat.reduceAdd, Nat.reduceMul, Nat.reduceSub, Int.reduceLE, Int.reduceLT, Int.reduceNeg, Int.reduceToNat, eF, hb2, Int.toNat_natCast])
          refine VcCall.io [0, 1] k1 (by decide) (by simp [renL, ren, ioN]) rfl (by simp [subOk, ioN, lk, Item.ren, Item.below, ren, renL, belowL, Fv.below, tkR, renR_ok, belowR_ok]) covA2 3 (by decide) rfl (by simp [rowsB, Item.below, Fv.below, belowL, tkR, belowR_ok]) ?_
          (repeat' first | (with_reducible refine Asm.intro fun _ => ?_) | ((with_reducible refine Chk.intro ?_ ?_); (· first | omega | (with_reducible refine Chk.intro ?_ ?_ <;> omega) | (simp; done) | (simp; omega))) | (with_reducible refine AnyI.i64 fun _ _ => ?_) | ((with_reducible refine LetW.i64 ?_ ?_ ?_); (· omega); (· omega)) | ((with_reducible refine Ite.decide (fun _ => ?_) (fun _ => ?_)) <;> first | (exfalso; omega) | skip) | (with_reducible refine Ite.bool (fun _ => ?_) (fun _ => ?_)) | (with_reducible refine And.intro ?_ ?_) | omega | simp (maxSteps := 1000000) only [go_sem, reduceCtorEq, Nat.reduceLT, Nat.reduceLeDiff, reduceIte, ↓reduceIte, Nat.reduceEqDiff, Nat.reduceAdd, Nat.reduceMul, Nat.reduceSub, Int.reduceLE, Int.reduceLT, Int.reduceNeg, Int.reduceToNat, S.ioS, ioRows, ioN, delL, Item.ren, ren, renL, tkR, List.length_cons, List.length_nil, List.getElem?_cons_zero, List.getElem?_cons_succ, List.getElem?_nil, List.cons_append, List.nil_append, Nat.reduceAdd, Nat.sub_self, Nat.add_zero, List.filter, eF, hb2])
          refine VcCall.io [0, 2] k2 (by decide) (by simp [renL, ren, ioN]) rfl (by simp [subOk, ioN, lk, Item.ren, Item.below, ren, renL, belowL, Fv.below, tkR, renR_ok, belowR_ok]) covA2 3 (by decide) rfl (by simp [rowsB, Item.below, Fv.below, belowL, tkR, belowR_ok]) ?_
          (repeat' first | (with_reducible refine Asm.intro fun _ => ?_) | ((with_reducible refine Chk.intro ?_ ?_); (· first | omega | (with_reducible refine Chk.intro ?_ ?_ <;> omega) | (simp; done) | (simp; omega))) | (with_reducible refine AnyI.i64 fun _ _ => ?_) | ((with_reducible refine LetW.i64 ?_ ?_ ?_); (· omega); (· omega)) | ((with_reducible refine Ite.decide (fun _ => ?_) (fun _ => ?_)) <;> first | (exfalso; omega) | skip) | (with_reducible refine Ite.bool (fun _ => ?_) (fun _ => ?_)) | (with_reducible refine And.intro ?_ ?_) | omega | simp (maxSteps := 1000000) only [go_sem, reduceCtorEq, Nat.reduceLT, Nat.reduceLeDiff, reduceIte, ↓reduceIte, Nat.reduceEqDiff, Nat.reduceAdd, Nat.reduceMul, Nat.reduceSub, Int.reduceLE, Int.reduceLT, Int.reduceNeg, Int.reduceToNat, S.ioS, ioRows, ioN, delL, Item.ren, ren, renL, tkR, List.length_cons, List.length_nil, List.getElem?_cons_zero, List.getElem?_cons_succ, List.getElem?_nil, List.cons_append, List.nil_append, Nat.reduceAdd, Nat.sub_self, Nat.add_zero, List.filter])
          refine ⟨⟨k, i + p + m.length, flush out b ++ [(m, true)]⟩, Ent.auto0 rfl ?_ ?_, ⟨by dsimp only; omega, hk2, ?_, lastW_snoc _ _, ?_⟩, by dsimp only; omega⟩
          · simp only [go_sem, reduceCtorEq, reduceIte, Nat.reduceEqDiff, Nat.reduceLT, Nat.reduceLeDiff, Int.natCast_succ, Int.natCast_add]
          · simp only [go_sem, reduceCtorEq, reduceIte, Nat.reduceEqDiff, Nat.reduceLT, Nat.reduceLeDiff, Int.natCast_succ, tkR]
          · rw [← hst]; exact ht
          · have := addT_len out b false
            show (addT out b false ++ [(m, true)]).length ≤ 2 * k
            rw [List.length_append, List.length_singleton]; omega
  · have e : i = s.length := by omega
    subst e
    rw [List.drop_of_length_le (Nat.le_refl _), toks_nil] at ht
    obtain ⟨b, hb⟩ : ∃ b, sub s o s.length = b := ⟨_, rfl⟩
    have hb2 : (s.drop o).take (s.length - o) = b := hb
    have hbl := sub_len (s := s) (a := o) (b := s.length) hoi (Nat.le_refl _)
    rw [hb] at hbl ht
    have k1 := add_ok out b false (by omega) (fun _ => hL)
    rw [show addT out b false = toks s [] [] from ht] at k1
    rw [hb2]
    refine VcCall.io [0, 1] k1 (by decide) (by simp [renL, ren, ioN]) rfl (by simp [subOk, ioN, lk, Item.ren, Item.below, ren, renL, belowL, Fv.below, tkR, renR_ok, belowR_ok]) covA2 3 (by decide) rfl (by simp [rowsB, Item.below, Fv.below, belowL, tkR, belowR_ok]) ?_
    (repeat' first | (with_reducible refine Asm.intro fun _ => ?_) | ((with_reducible refine Chk.intro ?_ ?_); (· first | omega | (with_reducible refine Chk.intro ?_ ?_ <;> omega) | (simp; done) | (simp; omega))) | (with_reducible refine AnyI.i64 fun _ _ => ?_) | ((with_reducible refine LetW.i64 ?_ ?_ ?_); (· omega); (· omega)) | ((with_reducible refine Ite.decide (fun _ => ?_) (fun _ => ?_)) <;> first | (exfalso; omega) | skip) | (with_reducible refine Ite.bool (fun _ => ?_) (fun _ => ?_)) | (with_reducible refine And.intro ?_ ?_) | omega | simp (maxSteps := 1000000) only [go_sem, reduceCtorEq, Nat.reduceLT, Nat.reduceLeDiff, reduceIte, ↓reduceIte, Nat.reduceEqDiff, Nat.reduceAdd, Nat.reduceMul, Nat.reduceSub, Int.reduceLE, Int.reduceLT, Int.reduceNeg, Int.reduceToNat, S.ioS, ioRows, ioN, delL, Item.ren, ren, renL, tkR, List.length_cons, List.length_nil, List.getElem?_cons_zero, List.getElem?_cons_succ, List.getElem?_nil, List.cons_append, List.nil_append, Nat.reduceAdd, Nat.sub_self, Nat.add_zero, List.filter, hb2])
    refine Ret.auto 1 ?_ rfl ?_ <;> simp only [go_sem, reduceCtorEq, reduceIte, Nat.reduceEqDiff, Nat.reduceLT, Nat.reduceLeDiff, Int.natCast_succ, Post, tkR]
end Go.Fv.W

/- wordsOf. -/

namespace Go.Fv.W
open Go Go.Proofs
set_option linter.unusedSimpArgs false
set_option linter.unusedVariables false
set_option linter.unnecessarySimpa false
set_option maxRecDepth 8000

def wds (l : List Tok) : List Bytes := (l.filter (·.2)).map (·.1)
theorem wds_take (l : List Tok) {i : Nat} (h : i < l.length) : wds (l.take (i + 1)) = wds (l.take i) ++ (if (l.getD i ([], false)).2 = true then [(l.getD i ([], false)).1] else []) := by
  rw [List.take_succ_eq_append_getElem h, getD_lt h]
  unfold wds
  rw [List.filter_append, List.map_append]
  congr 1
  by_cases hw : (l[i]).2 = true
  · rw [if_pos hw]; simp [hw]
  · rw [if_neg hw]; simp [hw]
theorem flush_len (out : List Tok) (b : Bytes) : (flush out b).length ≤ out.length + 1 := by
  unfold flush; split <;> simp
theorem toks_len : ∀ (n : Nat) (s btw : Bytes) (out : List Tok), s.length ≤ n → (toks s btw out).length ≤ out.length + 2 * s.length + 1
  | 0, s, btw, out, h => by
    have : s = [] := List.eq_nil_of_length_eq_zero (by omega)
    subst this
    rw [toks_nil]; have := flush_len out btw; simp; omega
  | n + 1, [], btw, out, h => by rw [toks_nil]; have := flush_len out btw; simp; omega
  | n + 1, c :: s, btw, out, h => by
    cases hc : inW c with
    | false =>
      rw [toks_other hc]
      have := toks_len n s (btw ++ [c]) out (by simpa using h)
      simp only [List.length_cons]; omega
    | true =>
      have hd := drop_lt (s := s) hc
      by_cases hw : isWd (midQ ((c :: s).takeWhile inW)) = true
      · rw [toks_word hc _ _ hw]
        have h1 := toks_len n ((c :: s).dropWhile inW) (postQ (dropQ ((c :: s).takeWhile inW))) (flush out (btw ++ preQ ((c :: s).takeWhile inW)) ++ [(midQ ((c :: s).takeWhile inW), true)]) (by omega)
        have h2 := flush_len out (btw ++ preQ ((c :: s).takeWhile inW))
        simp only [List.length_append, List.length_singleton] at h1
        omega
      · rw [toks_row hc _ _ hw]
        have h1 := toks_len n ((c :: s).dropWhile inW) (btw ++ (c :: s).takeWhile inW) out (by omega)
        omega
theorem wds_len (l : List Tok) : (wds l).length ≤ l.length := by
  unfold wds; rw [List.length_map]; exact List.length_filter_le _ _
set_option maxHeartbeats 4000000 in
theorem wordsOf_ok (s : List UInt8) (hs : s.length ≤ 1048576) (l : List Tok) (hl : toks s [] [] = l) : FnOk Tryd.prog 71 [.str s] (.own 0) [(0, .row 9 (.strs (wds l)))] := by
  have c1 := split_ok s hs
  rw [hl] at c1
  have hll := toks_len _ s [] [] (Nat.le_refl _)
  rw [hl] at hll
  simp only [List.length_nil] at hll
  refine FnOk.of_vc Tryd.func71 rfl (by decide) (by simp [Tryd.f71]) [.tmp 2] rfl fun w0 T0 _ => ?_
  simp only [Tryd.f71, argEnv]
  (repeat' first | (with_reducible refine Asm.intro fun _ => ?_) | ((with_reducible refine Chk.intro ?_ ?_); (· first | omega | (with_reducible refine Chk.intro ?_ ?_ <;> omega) | (simp; done) | (simp; omega))) | (with_reducible refine AnyI.i64 fun _ _ => ?_) | ((with_reducible refine LetW.i64 ?_ ?_ ?_); (· omega); (· omega)) | ((with_reducible refine Ite.decide (fun _ => ?_) (fun _ => ?_)) <;> first | (exfalso; omega) | skip) | (with_reducible refine Ite.bool (fun _ => ?_) (fun _ => ?_)) | (with_reducible refine And.intro ?_ ?_) | omega | simp (maxSteps := 1000000) only [go_sem, reduceCtorEq, Nat.reduceLT, Nat.reduceLeDiff, reduceIte, ↓reduceIte, Nat.reduceEqDiff, Nat.reduceAdd, Nat.reduceMul, Nat.reduceSub, Int.reduceLE, Int.reduceLT, Int.reduceNeg, Int.reduceToNat])
  refine VcCall.ro (.ro (tkR l)) (FnFr.of_ok c1 rfl (by simp [noRoRows, noRoItem, noRoRow, noRoL, noRo, tkR, tkAv])) (by simp only [noIdR_ok, argOkL, argOk, allOk, argOkN, List.drop_zero, lk, reduceIte, reduceCtorEq, Nat.reduceEqDiff, Option.some.injEq, Item.row.injEq, Item.box.injEq, AV.ro.injEq, exists_eq_left, exists_and_left, exists_eq_left', exists_eq_right, and_assoc, and_true, true_and, List.cons.injEq, exists_eq', exists_eq]) (by simp [outOk, argOkL, allOk, argOk, argOkN, lk, noIdR_ok, tkR]) rfl ?_
  (repeat' first | (with_reducible refine Asm.intro fun _ => ?_) | ((with_reducible refine Chk.intro ?_ ?_); (· first | omega | (with_reducible refine Chk.intro ?_ ?_ <;> omega) | (simp; done) | (simp; omega))) | (with_reducible refine AnyI.i64 fun _ _ => ?_) | ((with_reducible refine LetW.i64 ?_ ?_ ?_); (· omega); (· omega)) | ((with_reducible refine Ite.decide (fun _ => ?_) (fun _ => ?_)) <;> first | (exfalso; omega) | skip) | (with_reducible refine Ite.bool (fun _ => ?_) (fun _ => ?_)) | (with_reducible refine And.intro ?_ ?_) | omega | simp (maxSteps := 1000000) only [go_sem, reduceCtorEq, Nat.reduceLT, Nat.reduceLeDiff, reduceIte, ↓reduceIte, Nat.reduceEqDiff, Nat.reduceAdd, Nat.reduceMul, Nat.reduceSub, Int.reduceLE, Int.reduceLT, Int.reduceNeg, Int.reduceToNat, tkR, List.length_map])
  refine VcLoop.intro (fun i : Nat => ⟨22, [(9, .int .i64 i), (8, .int .i64 l.length), (7, .ro (tkR l)), (3, .own 0)], [(0, .row 9 (.strs (wds (l.take i))))], 1⟩) (fun i => i ≤ l.length) (fun i => l.length - i) 0 ?_ (Nat.zero_le _) fun i hi => ?_
  · refine Ent.auto0 rfl ?_ ?_
    · simp only [go_sem, reduceCtorEq, reduceIte, Nat.reduceEqDiff, Nat.reduceLT, Nat.reduceLeDiff, Int.natCast_succ, tkR]
    · simp only [go_sem, reduceCtorEq, reduceIte, Nat.reduceEqDiff, Nat.reduceLT, Nat.reduceLeDiff, Int.natCast_succ, tkR]
      rfl
  by_cases hlt : i < l.length
  · have hel := tk_elem l hlt
    have hst := wds_take l hlt
    have hwl := wds_len (l.take i)
    have hwl2 : (l.take i).length ≤ l.length := by simp; omega
    generalize l.getD i ([], false) = z at *
    obtain ⟨z1, z2⟩ := z
    dsimp only at hel hst
    cases z2 with
    | true =>
      rw [if_pos rfl] at hst
      (repeat' first | (with_reducible refine Asm.intro fun _ => ?_) | ((with_reducible refine Chk.intro ?_ ?_); (· first | omega | (with_reducible refine Chk.intro ?_ ?_ <;> omega) | (simp; done) | (simp; omega))) | (with_reducible refine AnyI.i64 fun _ _ => ?_) | ((with_reducible refine LetW.i64 ?_ ?_ ?_); (· omega); (· omega)) | ((with_reducible refine Ite.decide (fun _ => ?_) (fun _ => ?_)) <;> first | (exfalso; omega) | skip) | (with_reducible refine Ite.bool (fun _ => ?_) (fun _ => ?_)) | (with_reducible refine And.intro ?_ ?_) | omega | simp (maxSteps := 1000000) only [go_sem, reduceCtorEq, Nat.reduceLT, Nat.reduceLeDiff, reduceIte, ↓reduceIte, Nat.reduceEqDiff, Nat.reduceAdd, Nat.reduceMul, Nat.reduceSub, Int.reduceLE, Int.reduceLT, Int.reduceNeg, Int.reduceToNat, elemA, hel, tkR, List.length_map])
      refine ⟨i + 1, Ent.auto0 rfl ?_ ?_, by omega, by omega⟩ <;> simp only [go_sem, reduceCtorEq, reduceIte, Nat.reduceEqDiff, Nat.reduceLT, Nat.reduceLeDiff, Int.natCast_succ, tkR, hst]
    | false =>
      rw [if_neg (by decide), List.append_nil] at hst
      (repeat' first | (with_reducible refine Asm.intro fun _ => ?_) | ((with_reducible refine Chk.intro ?_ ?_); (· first | omega | (with_reducible refine Chk.intro ?_ ?_ <;> omega) | (simp; done) | (simp; omega))) | (with_reducible refine AnyI.i64 fun _ _ => ?_) | ((with_reducible refine LetW.i64 ?_ ?_ ?_); (· omega); (· omega)) | ((with_reducible refine Ite.decide (fun _ => ?_) (fun _ => ?_)) <;> first | (exfalso; omega) | skip) | (with_reducible refine Ite.bool (fun _ => ?_) (fun _ => ?_)) | (with_reducible refine And.intro ?_ ?_) | omega | simp (maxSteps := 1000000) only [go_sem, reduceCtorEq, Nat.reduceLT, Nat.reduceLeDiff, reduceIte, ↓reduceIte, Nat.reduceEqDiff, Nat.reduceAdd, Nat.reduceMul, Nat.reduceSub, Int.reduceLE, Int.reduceLT, Int.reduceNeg, Int.reduceToNat, elemA, hel, tkR, List.length_map])
      refine ⟨i + 1, Ent.auto0 rfl ?_ ?_, by omega, by omega⟩ <;> simp only [go_sem, reduceCtorEq, reduceIte, Nat.reduceEqDiff, Nat.reduceLT, Nat.reduceLeDiff, Int.natCast_succ, tkR, hst]
  · have e : i = l.length := by omega
    subst e
    (repeat' first | (with_reducible refine Asm.intro fun _ => ?_) | ((with_reducible refine Chk.intro ?_ ?_); (· first | omega | (with_reducible refine Chk.intro ?_ ?_ <;> omega) | (simp; done) | (simp; omega))) | (with_reducible refine AnyI.i64 fun _ _ => ?_) | ((with_reducible refine LetW.i64 ?_ ?_ ?_); (· omega); (· omega)) | ((with_reducible refine Ite.decide (fun _ => ?_) (fun _ => ?_)) <;> first | (exfalso; omega) | skip) | (with_reducible refine Ite.bool (fun _ => ?_) (fun _ => ?_)) | (with_reducible refine And.intro ?_ ?_) | omega | simp (maxSteps := 1000000) only [go_sem, reduceCtorEq, Nat.reduceLT, Nat.reduceLeDiff, reduceIte, ↓reduceIte, Nat.reduceEqDiff, Nat.reduceAdd, Nat.reduceMul, Nat.reduceSub, Int.reduceLE, Int.reduceLT, Int.reduceNeg, Int.reduceToNat, tkR, List.length_map])
    refine Ret.auto 1 ?_ rfl ?_ <;> simp only [go_sem, reduceCtorEq, reduceIte, Nat.reduceEqDiff, Nat.reduceLT, Nat.reduceLeDiff, Int.natCast_succ, Post, List.take_of_length_le, Nat.le_refl]
end Go.Fv.W

/- Distances of words: what the table, the script and their references compute, in plain words. -/

namespace Go.Fv.W
open Go
set_option linter.unusedSimpArgs false
set_option linter.unusedVariables false
set_option linter.unnecessarySimpa false

structure Mx where
  f : List UInt8
  t : List UInt8
  c : Int
deriving DecidableEq
/-- A mix in one direction. -/
structure Sw where
  o : List UInt8
  n : List UInt8
  c : Int
deriving DecidableEq
structure St where
  a : Nat
  b : Nat
  c : Int
deriving DecidableEq
def swL (l : List Mx) : List Sw := l.flatMap fun m => [⟨m.f, m.t, m.c⟩, ⟨m.t, m.f, m.c⟩]
structure GoodSw (sw : List Sw) : Prop where
  o : ∀ s, s ∈ sw → s.o ≠ []
  n : ∀ s, s ∈ sw → s.n ≠ []
  ne : ∀ s, s ∈ sw → s.o ≠ s.n
  c0 : ∀ s, s ∈ sw → 0 ≤ s.c
  c1 : ∀ s, s ∈ sw → s.c ≤ 100
  sy : ∀ s, s ∈ sw → (⟨s.n, s.o, s.c⟩ : Sw) ∈ sw

def swSteps (sw : List Sw) (x y : List UInt8) : List St := (sw.filter fun s => s.o.isPrefixOf x && s.n.isPrefixOf y).map fun s => ⟨s.o.length, s.n.length, s.c⟩
/-- The steps at two places, in their order. -/
def steps (sw : List Sw) (x y : List UInt8) : List St :=
  (if x ≠ [] ∧ y ≠ [] ∧ x.headD 0 = y.headD 0 then [⟨1, 1, 0⟩] else []) ++ swSteps sw x y ++ (if x ≠ [] ∧ y ≠ [] then [⟨1, 1, 100⟩] else []) ++ (if x ≠ [] then [⟨1, 0, 100⟩] else []) ++ (if y ≠ [] then [⟨0, 1, 100⟩] else [])
def minL : List Int → Int
  | [] => 0
  | [x] => x
  | x :: y :: l => min x (minL (y :: l))
theorem minL_le : ∀ (l : List Int) (v : Int), v ∈ l → minL l ≤ v
  | [x], v, h => by simp at h; subst h; exact Int.le_refl _
  | x :: y :: l, v, h => by
    simp only [minL]
    cases List.mem_cons.1 h with
    | inl e => subst e; omega
    | inr e => have := minL_le (y :: l) v e; omega
theorem minL_mem : ∀ (l : List Int), l ≠ [] → minL l ∈ l
  | [x], _ => by simp [minL]
  | x :: y :: l, _ => by
    simp only [minL]
    have := minL_mem (y :: l) (by simp)
    rcases Int.le_total x (minL (y :: l)) with h | h
    · rw [Int.min_eq_left h]; exact .head _
    · rw [Int.min_eq_right h]; exact .tail _ this
theorem minL_unique {l : List Int} {v : Int} (h : v ∈ l) (hle : ∀ u, u ∈ l → v ≤ u) : minL l = v := by
  have h1 := minL_le l v h
  have h2 := hle _ (minL_mem l (by intro e; subst e; simp at h))
  omega

def distF (sw : List Sw) : Nat → List UInt8 → List UInt8 → Int
  | 0, _, _ => 0
  | k + 1, x, y => minL ((steps sw x y).map fun s => s.c + distF sw k (x.drop s.a) (y.drop s.b))
def dist (sw : List Sw) (x y : List UInt8) : Int := distF sw (x.length + y.length) x y

section
variable {sw : List Sw} (hg : GoodSw sw)
theorem step_cases {x y : List UInt8} {s : St} (h : s ∈ steps sw x y) :
    (x ≠ [] ∧ y ≠ [] ∧ x.headD 0 = y.headD 0 ∧ s = ⟨1, 1, 0⟩) ∨ (∃ q, q ∈ sw ∧ q.o.isPrefixOf x = true ∧ q.n.isPrefixOf y = true ∧ s = ⟨q.o.length, q.n.length, q.c⟩) ∨ (x ≠ [] ∧ y ≠ [] ∧ s = ⟨1, 1, 100⟩) ∨ (x ≠ [] ∧ s = ⟨1, 0, 100⟩) ∨ (y ≠ [] ∧ s = ⟨0, 1, 100⟩) := by
  simp only [steps, swSteps, List.mem_append, List.mem_map, List.mem_filter, Bool.and_eq_true] at h
  rcases h with (((h | ⟨q, ⟨h1, h2, h3⟩, rfl⟩) | h) | h) | h
  · split at h
    · rename_i hc; simp at h; exact .inl ⟨hc.1, hc.2.1, hc.2.2, h⟩
    · simp at h
  · exact .inr (.inl ⟨q, h1, h2, h3, rfl⟩)
  · split at h
    · rename_i hc; simp at h; exact .inr (.inr (.inl ⟨hc.1, hc.2, h⟩))
    · simp at h
  · split at h
    · rename_i hc; simp at h; exact .inr (.inr (.inr (.inl ⟨hc, h⟩)))
    · simp at h
  · split at h
    · rename_i hc; simp at h; exact .inr (.inr (.inr (.inr ⟨hc, h⟩)))
    · simp at h
theorem pos_of_ne {x : List UInt8} (h : x ≠ []) : 1 ≤ x.length := by cases x with
  | nil => exact absurd rfl h
  | cons => simp
theorem prefix_len {o x : List UInt8} (h : o.isPrefixOf x = true) : o.length ≤ x.length := (List.isPrefixOf_iff_prefix.1 h).length_le
include hg
theorem step_bd {x y : List UInt8} {s : St} (h : s ∈ steps sw x y) : s.a ≤ x.length ∧ s.b ≤ y.length ∧ 1 ≤ s.a + s.b ∧ 0 ≤ s.c ∧ s.c ≤ 100 := by
  rcases step_cases h with ⟨h1, h2, _, rfl⟩ | ⟨q, h1, h2, h3, rfl⟩ | ⟨h1, h2, rfl⟩ | ⟨h1, rfl⟩ | ⟨h1, rfl⟩
  · exact ⟨pos_of_ne h1, pos_of_ne h2, by simp, by simp, by simp⟩
  · have := pos_of_ne (hg.o q h1)
    exact ⟨prefix_len h2, prefix_len h3, by show 1 ≤ q.o.length + q.n.length; omega, hg.c0 q h1, hg.c1 q h1⟩
  · exact ⟨pos_of_ne h1, pos_of_ne h2, by simp, by simp, by simp⟩
  · exact ⟨pos_of_ne h1, by simp, by simp, by simp, by simp⟩
  · exact ⟨by simp, pos_of_ne h1, by simp, by simp, by simp⟩
omit hg in
theorem steps_nil (ho : ∀ s, s ∈ sw → s.o ≠ []) : steps sw [] [] = [] := by
  have : swSteps sw [] [] = [] := by
    unfold swSteps
    rw [List.map_eq_nil_iff, List.filter_eq_nil_iff]
    intro s hs
    have := ho s hs
    cases hq : s.o with
    | nil => exact absurd hq this
    | cons => simp [List.isPrefixOf]
  simp [steps, this]
theorem distF_fuel : ∀ (k : Nat) (x y : List UInt8), x.length + y.length ≤ k → distF sw k x y = dist sw x y
  | 0, x, y, h => by
    have e : x.length + y.length = 0 := by omega
    unfold dist; rw [e]
  | k + 1, x, y, h => by
    unfold dist
    cases hn : x.length + y.length with
    | zero =>
      have hx : x = [] := List.eq_nil_of_length_eq_zero (by omega)
      have hy : y = [] := List.eq_nil_of_length_eq_zero (by omega)
      subst hx; subst hy
      simp [distF, steps_nil hg.o, minL]
    | succ m =>
      simp only [distF]
      congr 1
      refine List.map_congr_left fun s hs => ?_
      have hb := step_bd hg hs
      have hl : (x.drop s.a).length + (y.drop s.b).length + (s.a + s.b) = x.length + y.length := by simp; omega
      rw [distF_fuel k _ _ (by omega), distF_fuel m _ _ (by omega)]
theorem dist_eq {x y : List UInt8} (h : ¬ (x = [] ∧ y = [])) : dist sw x y = minL ((steps sw x y).map fun s => s.c + dist sw (x.drop s.a) (y.drop s.b)) := by
  conv => lhs; unfold dist
  cases hn : x.length + y.length with
  | zero =>
    have hx : x = [] := List.eq_nil_of_length_eq_zero (by omega)
    have hy : y = [] := List.eq_nil_of_length_eq_zero (by omega)
    exact absurd ⟨hx, hy⟩ h
  | succ m =>
    simp only [distF]
    congr 1
    refine List.map_congr_left fun s hs => ?_
    have hb := step_bd hg hs
    have hl : (x.drop s.a).length + (y.drop s.b).length + (s.a + s.b) = x.length + y.length := by simp; omega
    rw [distF_fuel hg m _ _ (by omega)]
omit hg in
theorem dist_nil : dist sw [] [] = 0 := rfl
omit hg in
theorem steps_ne {x y : List UInt8} (h : ¬ (x = [] ∧ y = [])) : steps sw x y ≠ [] := by
  intro e
  by_cases hx : x = []
  · have hy : y ≠ [] := fun e => h ⟨hx, e⟩
    have : (⟨0, 1, 100⟩ : St) ∈ steps sw x y := by simp [steps, hy]
    rw [e] at this; simp at this
  · have : (⟨1, 0, 100⟩ : St) ∈ steps sw x y := by simp [steps, hx]
    rw [e] at this; simp at this
omit hg in
theorem steps_eq {x y : List UInt8} (h1 : x ≠ []) (h2 : y ≠ []) (h3 : x.headD 0 = y.headD 0) : (⟨1, 1, 0⟩ : St) ∈ steps sw x y := by
  have : (⟨1, 1, 0⟩ : St) ∈ (if x ≠ [] ∧ y ≠ [] ∧ x.headD 0 = y.headD 0 then [(⟨1, 1, 0⟩ : St)] else []) := by rw [if_pos ⟨h1, h2, h3⟩]; simp
  unfold steps
  simp only [List.mem_append]
  exact .inl (.inl (.inl (.inl this)))
/-- The distance is not more than by any step. -/
theorem dist_le {x y : List UInt8} {s : St} (h : s ∈ steps sw x y) : dist sw x y ≤ s.c + dist sw (x.drop s.a) (y.drop s.b) := by
  have hne : ¬ (x = [] ∧ y = []) := by
    rintro ⟨rfl, rfl⟩
    rw [steps_nil hg.o] at h; simp at h
  rw [dist_eq hg hne]
  exact minL_le _ _ (List.mem_map.2 ⟨s, h, rfl⟩)
theorem dist_step {x y : List UInt8} (h : ¬ (x = [] ∧ y = [])) : ∃ s, s ∈ steps sw x y ∧ s.c + dist sw (x.drop s.a) (y.drop s.b) = dist sw x y := by
  have := minL_mem ((steps sw x y).map fun s => s.c + dist sw (x.drop s.a) (y.drop s.b)) (by simpa using steps_ne h)
  rw [← dist_eq hg h] at this
  obtain ⟨s, hs, he⟩ := List.mem_map.1 this
  exact ⟨s, hs, he⟩
theorem dist_bd : ∀ (k : Nat) (x y : List UInt8), x.length + y.length ≤ k → 0 ≤ dist sw x y ∧ dist sw x y ≤ 100 * (x.length + y.length : Nat)
  | 0, x, y, h => by
    have hx : x = [] := List.eq_nil_of_length_eq_zero (by omega)
    have hy : y = [] := List.eq_nil_of_length_eq_zero (by omega)
    subst hx; subst hy
    simp [dist_nil]
  | k + 1, x, y, h => by
    by_cases hne : x = [] ∧ y = []
    · obtain ⟨rfl, rfl⟩ := hne; simp [dist_nil]
    · obtain ⟨s, hs, he⟩ := dist_step hg hne
      have hb := step_bd hg hs
      have hl : (x.drop s.a).length + (y.drop s.b).length + (s.a + s.b) = x.length + y.length := by simp; omega
      have ih := dist_bd k (x.drop s.a) (y.drop s.b) (by omega)
      refine ⟨by omega, ?_⟩
      have h1 : (∃ s, s ∈ steps sw x y ∧ (s = ⟨1, 0, 100⟩ ∨ s = ⟨0, 1, 100⟩)) := by
        by_cases hx : x = []
        · have hy : y ≠ [] := fun e => hne ⟨hx, e⟩
          exact ⟨⟨0, 1, 100⟩, by simp [steps, hy], .inr rfl⟩
        · exact ⟨⟨1, 0, 100⟩, by simp [steps, hx], .inl rfl⟩
      obtain ⟨q, hq, hq2⟩ := h1
      have hle := dist_le hg hq
      have hb2 := step_bd hg hq
      have hl2 : (x.drop q.a).length + (y.drop q.b).length + (q.a + q.b) = x.length + y.length := by simp; omega
      have ih2 := dist_bd k (x.drop q.a) (y.drop q.b) (by omega)
      have hc : q.c = 100 ∧ q.a + q.b = 1 := by rcases hq2 with rfl | rfl <;> exact ⟨rfl, rfl⟩
      omega
theorem dist_left (y : List UInt8) : dist sw [] y = 100 * (y.length : Int) := by
  induction y with
  | nil => rfl
  | cons c y ih =>
    have hsw : swSteps sw [] (c :: y) = [] := by
      unfold swSteps
      rw [List.map_eq_nil_iff, List.filter_eq_nil_iff]
      intro s hs
      have := hg.o s hs
      cases hq : s.o with
      | nil => exact absurd hq this
      | cons => simp [List.isPrefixOf]
    rw [dist_eq hg (by simp)]
    simp [steps, hsw, minL, ih]
    omega
theorem dist_right (x : List UInt8) : dist sw x [] = 100 * (x.length : Int) := by
  induction x with
  | nil => rfl
  | cons c x ih =>
    have hsw : swSteps sw (c :: x) [] = [] := by
      unfold swSteps
      rw [List.map_eq_nil_iff, List.filter_eq_nil_iff]
      intro s hs
      have := hg.n s hs
      cases hq : s.n with
      | nil => exact absurd hq this
      | cons => simp [List.isPrefixOf]
    rw [dist_eq hg (by simp)]
    simp [steps, hsw, minL, ih]
    omega
theorem dist_self : ∀ (x : List UInt8), dist sw x x = 0
  | [] => rfl
  | c :: x => by
    have h := dist_le hg (x := c :: x) (y := c :: x) (s := ⟨1, 1, 0⟩) (by simp [steps])
    have ih := dist_self x
    have hb := dist_bd hg _ (c :: x) (c :: x) (Nat.le_refl _)
    simp only [List.drop_succ_cons, List.drop_zero] at h
    omega
theorem steps_sym {x y : List UInt8} {s : St} (h : s ∈ steps sw x y) : (⟨s.b, s.a, s.c⟩ : St) ∈ steps sw y x := by
  rcases step_cases h with ⟨h1, h2, h3, rfl⟩ | ⟨q, h1, h2, h3, rfl⟩ | ⟨h1, h2, rfl⟩ | ⟨h1, rfl⟩ | ⟨h1, rfl⟩
  · have : (⟨1, 1, 0⟩ : St) ∈ (if y ≠ [] ∧ x ≠ [] ∧ y.headD 0 = x.headD 0 then [(⟨1, 1, 0⟩ : St)] else []) := by rw [if_pos ⟨h2, h1, h3.symm⟩]; simp
    unfold steps
    simp only [List.mem_append]
    exact .inl (.inl (.inl (.inl this)))
  · have : (⟨q.n.length, q.o.length, q.c⟩ : St) ∈ swSteps sw y x := List.mem_map.2 ⟨⟨q.n, q.o, q.c⟩, List.mem_filter.2 ⟨hg.sy q h1, by simp [h2, h3]⟩, rfl⟩
    simp [steps, this]
  · simp [steps, h1, h2]
  · simp [steps, h1]
  · simp [steps, h1]
theorem dist_sym : ∀ (k : Nat) (x y : List UInt8), x.length + y.length ≤ k → dist sw x y = dist sw y x
  | 0, x, y, h => by
    have hx : x = [] := List.eq_nil_of_length_eq_zero (by omega)
    have hy : y = [] := List.eq_nil_of_length_eq_zero (by omega)
    subst hx; subst hy; rfl
  | k + 1, x, y, h => by
    by_cases hne : x = [] ∧ y = []
    · obtain ⟨rfl, rfl⟩ := hne; rfl
    · obtain ⟨s, hs, he⟩ := dist_step hg hne
      obtain ⟨q, hq, hqe⟩ := dist_step hg (x := y) (y := x) (fun e => hne ⟨e.2, e.1⟩)
      have hb := step_bd hg hs
      have hb2 := step_bd hg hq
      have l1 := dist_le hg (steps_sym hg hs)
      have l2 := dist_le hg (steps_sym hg hq)
      have e1 := dist_sym k (x.drop s.a) (y.drop s.b) (by simp; omega)
      have e2 := dist_sym k (y.drop q.a) (x.drop q.b) (by simp; omega)
      simp only at l1 l2
      omega
end

/-! ### The script -/
structure Sl where
  at_ : Nat
  o : List UInt8
  n : List UInt8
  c : Int
deriving DecidableEq
def pick (sw : List Sw) (x y : List UInt8) : St := ((steps sw x y).find? fun s => decide (s.c + dist sw (x.drop s.a) (y.drop s.b) = dist sw x y)).getD ⟨0, 1, 100⟩
def scr (sw : List Sw) : Nat → Nat → List UInt8 → List UInt8 → List Sl
  | 0, _, _, _ => []
  | k + 1, i, x, y => if x = [] ∧ y = [] then [] else
    (if x.take (pick sw x y).a = y.take (pick sw x y).b then [] else [⟨i, x.take (pick sw x y).a, y.take (pick sw x y).b, (pick sw x y).c⟩]) ++ scr sw k (i + (pick sw x y).a) (x.drop (pick sw x y).a) (y.drop (pick sw x y).b)
def script (sw : List Sw) (i : Nat) (x y : List UInt8) : List Sl := scr sw (x.length + y.length) i x y
section
variable {sw : List Sw} (hg : GoodSw sw)
include hg
theorem pick_mem {x y : List UInt8} (h : ¬ (x = [] ∧ y = [])) : pick sw x y ∈ steps sw x y ∧ (pick sw x y).c + dist sw (x.drop (pick sw x y).a) (y.drop (pick sw x y).b) = dist sw x y := by
  unfold pick
  obtain ⟨s, hs, he⟩ := dist_step hg h
  cases hq : (steps sw x y).find? fun s => decide (s.c + dist sw (x.drop s.a) (y.drop s.b) = dist sw x y) with
  | none =>
    rw [List.find?_eq_none] at hq
    exact absurd (by simpa using he) (hq s hs)
  | some q =>
    have h1 := List.mem_of_find?_eq_some hq
    have h2 := List.find?_some hq
    exact ⟨h1, by simpa using h2⟩
theorem pick_bd {x y : List UInt8} (h : ¬ (x = [] ∧ y = [])) : (pick sw x y).a ≤ x.length ∧ (pick sw x y).b ≤ y.length ∧ 1 ≤ (pick sw x y).a + (pick sw x y).b ∧ 0 ≤ (pick sw x y).c ∧ (pick sw x y).c ≤ 100 := step_bd hg (pick_mem hg h).1
theorem scr_fuel : ∀ (k i : Nat) (x y : List UInt8), x.length + y.length ≤ k → scr sw k i x y = script sw i x y
  | 0, i, x, y, h => by
    have e : x.length + y.length = 0 := by omega
    unfold script; rw [e]
  | k + 1, i, x, y, h => by
    unfold script
    cases hn : x.length + y.length with
    | zero =>
      have hx : x = [] := List.eq_nil_of_length_eq_zero (by omega)
      have hy : y = [] := List.eq_nil_of_length_eq_zero (by omega)
      subst hx; subst hy
      simp [scr]
    | succ m =>
      simp only [scr]
      split
      · rfl
      · rename_i hne
        have hb := pick_bd hg hne
        have hl : (x.drop (pick sw x y).a).length + (y.drop (pick sw x y).b).length + ((pick sw x y).a + (pick sw x y).b) = x.length + y.length := by simp; omega
        rw [scr_fuel k _ _ _ (by omega), scr_fuel m _ _ _ (by omega)]
omit hg in
theorem script_nil (i : Nat) : script sw i [] [] = [] := rfl
theorem script_eq {i : Nat} {x y : List UInt8} (h : ¬ (x = [] ∧ y = [])) : script sw i x y =
    (if x.take (pick sw x y).a = y.take (pick sw x y).b then [] else [⟨i, x.take (pick sw x y).a, y.take (pick sw x y).b, (pick sw x y).c⟩]) ++ script sw (i + (pick sw x y).a) (x.drop (pick sw x y).a) (y.drop (pick sw x y).b) := by
  conv => lhs; unfold script
  cases hn : x.length + y.length with
  | zero =>
    have hx : x = [] := List.eq_nil_of_length_eq_zero (by omega)
    have hy : y = [] := List.eq_nil_of_length_eq_zero (by omega)
    exact absurd ⟨hx, hy⟩ h
  | succ m =>
    simp only [scr, if_neg h]
    have hb := pick_bd hg h
    have hl : (x.drop (pick sw x y).a).length + (y.drop (pick sw x y).b).length + ((pick sw x y).a + (pick sw x y).b) = x.length + y.length := by simp; omega
    rw [scr_fuel hg m _ _ _ (by omega)]
/-- Where nothing is said, the step is one byte that stays. -/
theorem pick_same {x y : List UInt8} (h : ¬ (x = [] ∧ y = [])) : x.take (pick sw x y).a = y.take (pick sw x y).b ↔ ((pick sw x y).a = 1 ∧ (pick sw x y).b = 1 ∧ x.headD 0 = y.headD 0) := by
  obtain ⟨hm, he⟩ := pick_mem hg h
  have hb := step_bd hg hm
  rcases step_cases hm with ⟨h1, h2, h3, hs⟩ | ⟨q, h1, h2, h3, hs⟩ | ⟨h1, h2, hs⟩ | ⟨h1, hs⟩ | ⟨h1, hs⟩
  · rw [hs]
    cases x with
    | nil => exact absurd rfl h1
    | cons c x => cases y with
      | nil => exact absurd rfl h2
      | cons d y => simpa using h3
  · rw [hs]
    have e1 : x.take q.o.length = q.o := by
      obtain ⟨z, rfl⟩ := List.isPrefixOf_iff_prefix.1 h2; simp
    have e2 : y.take q.n.length = q.n := by
      obtain ⟨z, rfl⟩ := List.isPrefixOf_iff_prefix.1 h3; simp
    simp only [e1, e2]
    constructor
    · intro e; exact absurd e (hg.ne q h1)
    · rintro ⟨l1, l2, l3⟩
      exfalso
      refine hg.ne q h1 ?_
      obtain ⟨z, rfl⟩ := List.isPrefixOf_iff_prefix.1 h2
      obtain ⟨u, rfl⟩ := List.isPrefixOf_iff_prefix.1 h3
      match ho : q.o, hn : q.n, l1, l2 with
      | [c], [d], _, _ =>
        rw [ho, hn] at l3
        simpa using l3
  · rw [hs]
    cases x with
    | nil => exact absurd rfl h1
    | cons c x => cases y with
      | nil => exact absurd rfl h2
      | cons d y => simp
  · rw [hs]
    cases x with
    | nil => exact absurd rfl h1
    | cons c x => simp
  · rw [hs]
    cases y with
    | nil => exact absurd rfl h1
    | cons c x => simp
theorem pick_free {x y : List UInt8} (h : ¬ (x = [] ∧ y = [])) (hs : x.take (pick sw x y).a = y.take (pick sw x y).b) : (pick sw x y).c = 0 := by
  obtain ⟨h1, h2, h3⟩ := (pick_same hg h).1 hs
  obtain ⟨hm, he⟩ := pick_mem hg h
  have hb := step_bd hg hm
  have hx : x ≠ [] := by intro e; subst e; simp at hb; omega
  have hy : y ≠ [] := by intro e; subst e; simp at hb; omega
  have := dist_le hg (x := x) (y := y) (s := ⟨1, 1, 0⟩) (steps_eq hx hy h3)
  rw [h1, h2] at he
  simp only at this
  omega
def costs (l : List Sl) : Int := (l.map (·.c)).foldr (· + ·) 0
omit hg in
theorem costs_cons (s : Sl) (l : List Sl) : costs (s :: l) = s.c + costs l := rfl
theorem script_costs : ∀ (k i : Nat) (x y : List UInt8), x.length + y.length ≤ k → costs (script sw i x y) = dist sw x y
  | 0, i, x, y, h => by
    have hx : x = [] := List.eq_nil_of_length_eq_zero (by omega)
    have hy : y = [] := List.eq_nil_of_length_eq_zero (by omega)
    subst hx; subst hy; rfl
  | k + 1, i, x, y, h => by
    by_cases hne : x = [] ∧ y = []
    · obtain ⟨rfl, rfl⟩ := hne; rfl
    · rw [script_eq hg hne]
      have hb := pick_bd hg hne
      obtain ⟨hm, he⟩ := pick_mem hg hne
      have ih := script_costs k (i + (pick sw x y).a) (x.drop (pick sw x y).a) (y.drop (pick sw x y).b) (by simp; omega)
      split
      · rename_i hs
        have := pick_free hg hne hs
        rw [List.nil_append, ih]; omega
      · rw [List.cons_append, List.nil_append, costs_cons, ih]; exact he
/-- What a script makes of a text, from a place of it on. -/
def madeOf (a : List UInt8) : Nat → List Sl → List UInt8
  | i, [] => a.drop i
  | i, s :: l => (a.drop i).take (s.at_ - i) ++ s.n ++ madeOf a (s.at_ + s.o.length) l
theorem script_made (a : List UInt8) : ∀ (k i p : Nat) (y : List UInt8), (a.drop i).length + y.length ≤ k → p ≤ i → i ≤ a.length → madeOf a p (script sw i (a.drop i) y) = (a.drop p).take (i - p) ++ y
  | 0, i, p, y, h, hp, hi => by
    have hx : a.drop i = [] := List.eq_nil_of_length_eq_zero (by omega)
    have hy : y = [] := List.eq_nil_of_length_eq_zero (by omega)
    have hl : i = a.length := by simp at hx; omega
    subst hy
    rw [hx, script_nil, madeOf, hl, List.append_nil, List.take_of_length_le (by simp)]
  | k + 1, i, p, y, h, hp, hi => by
    by_cases hne : a.drop i = [] ∧ y = []
    · obtain ⟨hx, hy⟩ := hne
      have hl : i = a.length := by simp at hx; omega
      subst hy
      rw [hx, script_nil, madeOf, hl, List.append_nil, List.take_of_length_le (by simp)]
    · rw [script_eq hg hne]
      have hb := pick_bd hg hne
      have hs := pick_same hg hne
      generalize pick sw (a.drop i) y = q at *
      have hqa : q.a ≤ a.length - i := by simpa using hb.1
      have hdd : (a.drop i).drop q.a = a.drop (i + q.a) := by rw [List.drop_drop]
      have hyy : y.take q.b ++ y.drop q.b = y := List.take_append_drop _ _
      have hln : (a.drop (i + q.a)).length + (y.drop q.b).length ≤ k := by simp at h ⊢; omega
      rw [hdd]
      split
      · rename_i hsame
        rw [List.nil_append, script_made a k (i + q.a) p (y.drop q.b) hln (by omega) (by omega)]
        conv => rhs; rw [← hyy, ← hsame]
        rw [← List.append_assoc]
        congr 1
        have : i + q.a - p = (i - p) + q.a := by omega
        rw [this, List.take_add, List.drop_drop]
        congr 3; omega
      · rw [List.cons_append, List.nil_append, madeOf]
        simp only [List.length_take, List.length_drop]
        have e : i + min q.a (a.length - i) = i + q.a := by omega
        rw [e, script_made a k (i + q.a) (i + q.a) (y.drop q.b) hln (by omega) (by omega), Nat.sub_self, List.take_zero, List.nil_append, List.append_assoc, hyy]
end
end Go.Fv.W

/- Lists of mixes: what is wrong with them, in plain words. -/

namespace Go.Fv.W
open Go
set_option linter.unusedSimpArgs false
set_option linter.unusedVariables false
set_option linter.unnecessarySimpa false

def partOk (s : List UInt8) : Bool := decide (1 ≤ s.length) && decide (s.length ≤ 3)
abbrev Key := List UInt8 × List UInt8
def Mx.key (m : Mx) : Key := (m.f, m.t)
def mixE (seen : List Key) (m : Mx) : Int :=
  if partOk m.f = false ∨ partOk m.t = false ∨ m.f = m.t then 2 else if m.c < 0 ∨ 100 < m.c then 3 else if m.key ∈ seen then 6 else 0
def mixEs (seen : List Key) : List Mx → Int
  | [] => 0
  | m :: l => if mixE seen m = 0 then mixEs (seen ++ [m.key]) l else mixE seen m
def mixErr (l : List Mx) : Int := if 200 < l.length then 4 else mixEs [] l
theorem mixE_zero {seen : List Key} {m : Mx} (h : mixE seen m = 0) : partOk m.f = true ∧ partOk m.t = true ∧ m.f ≠ m.t ∧ 0 ≤ m.c ∧ m.c ≤ 100 ∧ m.key ∉ seen := by
  unfold mixE at h
  split at h
  · omega
  · rename_i h1
    split at h
    · omega
    · rename_i h2
      split at h
      · omega
      · rename_i h3
        simp only [not_or, Bool.not_eq_false] at h1
        exact ⟨h1.1, h1.2.1, h1.2.2, by omega, by omega, h3⟩
theorem mixEs_zero : ∀ {l : List Mx} {seen : List Key}, mixEs seen l = 0 → ∀ m, m ∈ l → partOk m.f = true ∧ partOk m.t = true ∧ m.f ≠ m.t ∧ 0 ≤ m.c ∧ m.c ≤ 100
  | x :: l, seen, h, m, hm => by
    simp only [mixEs] at h
    split at h
    · rename_i h1
      cases List.mem_cons.1 hm with
      | inl e => subst e; have := mixE_zero h1; exact ⟨this.1, this.2.1, this.2.2.1, this.2.2.2.1, this.2.2.2.2.1⟩
      | inr e => exact mixEs_zero h m e
    · rename_i h1; exact absurd h h1
theorem mixErr_zero {l : List Mx} (h : mixErr l = 0) : l.length ≤ 200 ∧ ∀ m, m ∈ l → partOk m.f = true ∧ partOk m.t = true ∧ m.f ≠ m.t ∧ 0 ≤ m.c ∧ m.c ≤ 100 := by
  unfold mixErr at h
  split at h
  · omega
  · rename_i h1; exact ⟨by omega, mixEs_zero h⟩
theorem mem_swL {l : List Mx} {s : Sw} : s ∈ swL l ↔ ∃ m, m ∈ l ∧ (s = ⟨m.f, m.t, m.c⟩ ∨ s = ⟨m.t, m.f, m.c⟩) := by
  simp [swL, List.mem_flatMap]
theorem part_ne {s : List UInt8} (h : partOk s = true) : s ≠ [] := by
  rintro rfl; simp [partOk] at h
theorem part_len {s : List UInt8} (h : partOk s = true) : 1 ≤ s.length ∧ s.length ≤ 3 := by simpa [partOk] using h
theorem good_swL {l : List Mx} (h : ∀ m, m ∈ l → partOk m.f = true ∧ partOk m.t = true ∧ m.f ≠ m.t ∧ 0 ≤ m.c ∧ m.c ≤ 100) : GoodSw (swL l) := by
  have key : ∀ s, s ∈ swL l → s.o ≠ [] ∧ s.n ≠ [] ∧ s.o ≠ s.n ∧ 0 ≤ s.c ∧ s.c ≤ 100 ∧ (⟨s.n, s.o, s.c⟩ : Sw) ∈ swL l := by
    intro s hs
    obtain ⟨m, hm, hq⟩ := mem_swL.1 hs
    obtain ⟨h1, h2, h3, h4, h5⟩ := h m hm
    rcases hq with rfl | rfl
    · exact ⟨part_ne h1, part_ne h2, h3, h4, h5, mem_swL.2 ⟨m, hm, .inr rfl⟩⟩
    · exact ⟨part_ne h2, part_ne h1, fun e => h3 e.symm, h4, h5, mem_swL.2 ⟨m, hm, .inl rfl⟩⟩
  exact ⟨fun s hs => (key s hs).1, fun s hs => (key s hs).2.1, fun s hs => (key s hs).2.2.1, fun s hs => (key s hs).2.2.2.1, fun s hs => (key s hs).2.2.2.2.1, fun s hs => (key s hs).2.2.2.2.2⟩
theorem mixEs_app : ∀ (l : List Mx) (m : Mx) (seen : List Key), mixEs seen l = 0 → mixEs seen (l ++ [m]) = mixE (seen ++ l.map Mx.key) m
  | [], m, seen, _ => by
    simp only [List.nil_append, mixEs, List.map_nil, List.append_nil]
    split
    · rename_i h; exact h.symm
    · rfl
  | x :: l, m, seen, h => by
    simp only [mixEs] at h
    split at h
    · rename_i h1
      simp only [List.cons_append, mixEs, if_pos h1, List.map_cons]
      rw [mixEs_app l m _ h]; simp
    · rename_i h1; exact absurd h h1
/-- Those that are right, out of the first. -/
def mixSel (acc : List Mx) : List Mx → List Mx
  | [] => acc
  | m :: l => mixSel (if mixErr (acc ++ [m]) = 0 then acc ++ [m] else acc) l
theorem mixSel_ok : ∀ (l acc : List Mx), mixErr acc = 0 → mixErr (mixSel acc l) = 0
  | [], acc, h => h
  | m :: l, acc, h => by
    simp only [mixSel]
    refine mixSel_ok l _ ?_
    split
    · rename_i h1; exact h1
    · exact h
theorem mixSel_len : ∀ (l acc : List Mx), (mixSel acc l).length ≤ acc.length + l.length
  | [], acc => by simp [mixSel]
  | m :: l, acc => by
    simp only [mixSel]
    refine Nat.le_trans (mixSel_len l _) ?_
    split <;> simp <;> omega
end Go.Fv.W
