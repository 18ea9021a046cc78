/-
  A part of the proof of the claim: walks over the program's functions and the plain laws that these need. No condition of its own.
-/
import Derived.Test.YtjomdjmmpohaeaaDoorWTokensCardPart2
import Derived.Test.YtjomdjmmpohaeaaDoorFvPart9
/- Split. -/

namespace Go.Fv.W
open Go Go.Proofs
set_option linter.unusedSimpArgs false
set_option linter.unusedVariables false
set_option linter.unnecessarySimpa false
set_option maxRecDepth 8000

theorem lastW_nil : LastW [] := fun h => absurd h (by simp)
theorem lastW_snoc (l : List Tok) (m : Bytes) : LastW (l ++ [(m, true)]) := fun _ => by
  simp [List.getD]
theorem flush_eq (out : List Tok) (b : Bytes) : flush out b = addT out b false := rfl

structure SpI where
  i : Nat
  o : Nat
  out : List Tok
set_option maxHeartbeats 8000000 in
theorem split_ok (s : List UInt8) (hs : s.length ≤ 1048576) : FnOk Tryd.prog 26 [.str s] (.own 0) [(0, .row 54 (tkR (toks s [] [])))] := by
  refine FnOk.of_vc Tryd.func26 rfl (by decide) (by simp [Tryd.f26]) [.tmp 2] rfl fun w0 T0 _ => ?_
  simp only [Tryd.f26, argEnv]
  (repeat' first | (with_reducible refine Asm.intro fun _ => ?_) | ((with_reducible refine Chk.intro ?_ ?_); (· first | omega | (with_reducible refine Chk.intro ?_ ?_ <;> omega) | (simp; done) | (simp; omega))) | (with_reducible refine AnyI.i64 fun _ _ => ?_) | ((with_reducible refine LetW.i64 ?_ ?_ ?_); (· omega); (· omega)) | ((with_reducible refine Ite.decide (fun _ => ?_) (fun _ => ?_)) <;> first | (exfalso; omega) | skip) | (with_reducible refine Ite.bool (fun _ => ?_) (fun _ => ?_)) | (with_reducible refine And.intro ?_ ?_) | omega | simp (maxSteps := 1000000) only [go_sem, reduceCtorEq, Nat.reduceLT, Nat.reduceLeDiff, reduceIte, ↓reduceIte, Nat.reduceEqDiff, Nat.reduceAdd, Nat.reduceMul, Nat.reduceSub, Int.reduceLE, Int.reduceLT, Int.reduceNeg, Int.reduceToNat])
  refine VcLoop.intro (fun x : SpI => ⟨69, [(6, .int .i64 x.i), (5, .int .i64 x.o), (4, .fn 57 [.ptr 0 0]), (3, .ptr 0 0), (0, .str s)], [(0, .box 51 [.own 1]), (1, .row 54 (tkR x.out))], 2⟩) (fun x => x.o ≤ x.i ∧ x.i ≤ s.length ∧ toks (s.drop x.i) (sub s x.o x.i) x.out = toks s [] [] ∧ LastW x.out ∧ x.out.length ≤ 2 * x.i) (fun x => s.length - x.i) ⟨0, 0, []⟩ ?_ ⟨Nat.le_refl _, Nat.zero_le _, by rw [sub_self]; rfl, lastW_nil, Nat.le_refl _⟩ fun x hx => ?_
  · refine Ent.trans (Ent.nilBox (P := Tryd.prog) 1 0 54 e54 rfl rfl) (Ent.auto0 rfl ?_ ?_) <;> simp only [go_sem, reduceCtorEq, reduceIte, Nat.reduceEqDiff, Nat.reduceLT, Nat.reduceLeDiff, Int.natCast_succ, zrow, tkR, put, List.set_cons_zero, List.set_cons_succ, Nat.zero_mul, List.range_zero, List.map_nil, List.replicate_zero]
  obtain ⟨i, o, out⟩ := x
  obtain ⟨hoi, hil, ht, hL, hol⟩ := hx
  dsimp only at hoi hil ht hL hol ⊢
  (repeat' first | (with_reducible refine Asm.intro fun _ => ?_) | ((with_reducible refine Chk.intro ?_ ?_); (· first | omega | (with_reducible refine Chk.intro ?_ ?_ <;> omega) | (simp; done) | (simp; omega))) | (with_reducible refine AnyI.i64 fun _ _ => ?_) | ((with_reducible refine LetW.i64 ?_ ?_ ?_); (· omega); (· omega)) | ((with_reducible refine Ite.decide (fun _ => ?_) (fun _ => ?_)) <;> first | (exfalso; omega) | skip) | (with_reducible refine Ite.bool (fun _ => ?_) (fun _ => ?_)) | (with_reducible refine And.intro ?_ ?_) | omega | simp (maxSteps := 1000000) only [go_sem, reduceCtorEq, Nat.reduceLT, Nat.reduceLeDiff, reduceIte, ↓reduceIte, Nat.reduceEqDiff, Nat.reduceAdd, Nat.reduceMul, Nat.reduceSub, Int.reduceLE, Int.reduceLT, Int.reduceNeg, Int.reduceToNat, Int.toNat_natCast])
  · refine VcCall.fr (FnFr.of_ok (inWord_ok (s.getD i 0)) rfl rfl) (by simp only [noIdR_ok, argOkL, argOk, allOk, argOkN, List.drop_zero, lk, reduceIte, reduceCtorEq, Nat.reduceEqDiff, Option.some.injEq, Item.row.injEq, Item.box.injEq, AV.ro.injEq, exists_eq_left, exists_and_left, exists_eq_left', exists_eq_right, and_assoc, and_true, true_and, List.cons.injEq, exists_eq', exists_eq]) 0 rfl (by simp [rowsB]) ?_
    have hlt : i < s.length := by omega
    cases hc : inW (s.getD i 0) with
    | false =>
      (repeat' first | (with_reducible refine Asm.intro fun _ => ?_) | ((with_reducible refine Chk.intro ?_ ?_); (· first | omega | (with_reducible refine Chk.intro ?_ ?_ <;> omega) | (simp; done) | (simp; omega))) | (with_reducible refine AnyI.i64 fun _ _ => ?_) | ((with_reducible refine LetW.i64 ?_ ?_ ?_); (· omega); (· omega)) | ((with_reducible refine Ite.decide (fun _ => ?_) (fun _ => ?_)) <;> first | (exfalso; omega) | skip) | (with_reducible refine Ite.bool (fun _ => ?_) (fun _ => ?_)) | (with_reducible refine And.intro ?_ ?_) | omega | simp (maxSteps := 1000000) only [go_sem, reduceCtorEq, Nat.reduceLT, Nat.reduceLeDiff, reduceIte, ↓reduceIte, Nat.reduceEqDiff, Nat.reduceAdd, Nat.reduceMul, Nat.reduceSub, Int.reduceLE, Int.reduceLT, Int.reduceNeg, Int.reduceToNat, hc])
      refine ⟨⟨i + 1, o, out⟩, Ent.auto0 rfl ?_ ?_, ⟨Nat.le_succ_of_le hoi, hlt, ?_, hL, by dsimp only; omega⟩, by dsimp only; omega⟩
      · simp only [go_sem, reduceCtorEq, reduceIte, Nat.reduceEqDiff, Nat.reduceLT, Nat.reduceLeDiff, Int.natCast_succ]
      · simp only [go_sem, reduceCtorEq, reduceIte, Nat.reduceEqDiff, Nat.reduceLT, Nat.reduceLeDiff, Int.natCast_succ, tkR]
      · rw [← step_other hlt hoi hc]; exact ht
    | true =>
      (repeat' first | (with_reducible refine Asm.intro fun _ => ?_) | ((with_reducible refine Chk.intro ?_ ?_); (· first | omega | (with_reducible refine Chk.intro ?_ ?_ <;> omega) | (simp; done) | (simp; omega))) | (with_reducible refine AnyI.i64 fun _ _ => ?_) | ((with_reducible refine LetW.i64 ?_ ?_ ?_); (· omega); (· omega)) | ((with_reducible refine Ite.decide (fun _ => ?_) (fun _ => ?_)) <;> first | (exfalso; omega) | skip) | (with_reducible refine Ite.bool (fun _ => ?_) (fun _ => ?_)) | (with_reducible refine And.intro ?_ ?_) | omega | simp (maxSteps := 1000000) only [go_sem, reduceCtorEq, Nat.reduceLT, Nat.reduceLeDiff, reduceIte, ↓reduceIte, Nat.reduceEqDiff, Nat.reduceAdd, Nat.reduceMul, Nat.reduceSub, Int.reduceLE, Int.reduceLT, Int.reduceNeg, Int.reduceToNat, hc])
      refine VcLoop.intro (fun k : Nat => ⟨69, [(7, .int .i64 k), (6, .int .i64 i), (5, .int .i64 o), (4, .fn 57 [.ptr 0 0]), (3, .ptr 0 0), (0, .str s)], [(0, .box 51 [.own 1]), (1, .row 54 (tkR out))], 2⟩) (fun k => i ≤ k ∧ k ≤ s.length ∧ ∀ j, i ≤ j → j < k → inW (s.getD j 0) = true) (fun k => s.length - k) i ?_ ⟨Nat.le_refl _, hil, fun j h1 h2 => absurd h2 (by omega)⟩ fun k hk => ?_
      · refine Ent.auto0 rfl ?_ ?_ <;> simp only [go_sem, reduceCtorEq, reduceIte, Nat.reduceEqDiff, Nat.reduceLT, Nat.reduceLeDiff, Int.natCast_succ, tkR]
      obtain ⟨hk1, hk2, hr⟩ := hk
      by_cases hkl : k < s.length
      · have hkl2 : (k : Int) < s.length := by omega
        (repeat' first | (with_reducible refine Asm.intro fun _ => ?_) | ((with_reducible refine Chk.intro ?_ ?_); (· first | omega | (with_reducible refine Chk.intro ?_ ?_ <;> omega) | (simp; done) | (simp; omega))) | (with_reducible refine AnyI.i64 fun _ _ => ?_) | ((with_reducible refine LetW.i64 ?_ ?_ ?_); (· omega); (· omega)) | ((with_reducible refine Ite.decide (fun _ => ?_) (fun _ => ?_)) <;> first | (exfalso; omega) | skip) | (with_reducible refine Ite.bool (fun _ => ?_) (fun _ => ?_)) | (with_reducible refine And.intro ?_ ?_) | omega | simp (maxSteps := 1000000) only [go_sem, reduceCtorEq, Nat.reduceLT, Nat.reduceLeDiff, reduceIte, ↓reduceIte, Nat.reduceEqDiff, Nat.reduceAdd, Nat.reduceMul, Nat.reduceSub, Int.reduceLE, Int.reduceLT, Int.reduceNeg, Int.reduceToNat, hkl2, Int.toNat_natCast])
        refine VcCall.fr (FnFr.of_ok (inWord_ok (s.getD k 0)) rfl rfl) (by simp only [noIdR_ok, argOkL, argOk, allOk, argOkN, List.drop_zero, lk, reduceIte, reduceCtorEq, Nat.reduceEqDiff, Option.some.injEq, Item.row.injEq, Item.box.injEq, AV.ro.injEq, exists_eq_left, exists_and_left, exists_eq_left', exists_eq_right, and_assoc, and_true, true_and, List.cons.injEq, exists_eq', exists_eq]) 0 rfl (by simp [rowsB]) ?_
        cases hW : inW (s.getD k 0) with
        | true =>
          (repeat' first | (with_reducible refine Asm.intro fun _ => ?_) | ((with_reducible refine Chk.intro ?_ ?_); (· first | omega | (with_reducible refine Chk.intro ?_ ?_ <;> omega) | (simp; done) | (simp; omega))) | (with_reducible refine AnyI.i64 fun _ _ => ?_) | ((with_reducible refine LetW.i64 ?_ ?_ ?_); (· omega); (· omega)) | ((with_reducible refine Ite.decide (fun _ => ?_) (fun _ => ?_)) <;> first | (exfalso; omega) | skip) | (with_reducible refine Ite.bool (fun _ => ?_) (fun _ => ?_)) | (with_reducible refine And.intro ?_ ?_) | omega | simp (maxSteps := 1000000) only [go_sem, reduceCtorEq, Nat.reduceLT, Nat.reduceLeDiff, reduceIte, ↓reduceIte, Nat.reduceEqDiff, Nat.reduceAdd, Nat.reduceMul, Nat.reduceSub, Int.reduceLE, Int.reduceLT, Int.reduceNeg, Int.reduceToNat, hW])
          refine ⟨k + 1, Ent.auto0 rfl ?_ ?_, ⟨by omega, by omega, fun j h1 h2 => ?_⟩, by omega⟩
          · simp only [go_sem, reduceCtorEq, reduceIte, Nat.reduceEqDiff, Nat.reduceLT, Nat.reduceLeDiff, Int.natCast_succ]
          · simp only [go_sem, reduceCtorEq, reduceIte, Nat.reduceEqDiff, Nat.reduceLT, Nat.reduceLeDiff, Int.natCast_succ, tkR]
          · by_cases hj : j = k
            · rw [hj]; exact hW
            · exact hr j h1 (by omega)
        | false =>
          have he : k < s.length → inW (s.getD k 0) = false := fun _ => hW
          have hik : i < k := by
            by_cases h : i = k
            · subst h; exact absurd hc (by rw [hW]; decide)
            · omega
          obtain ⟨row, hR⟩ : ∃ row, (s.drop i).take (k - i) = row := ⟨_, rfl⟩
          have hR2 : sub s i k = row := hR
          have hrl : row.length = k - i := by rw [← hR2]; exact sub_len (by omega) (by omega)
          (repeat' first | (with_reducible refine Asm.intro fun _ => ?_) | ((with_reducible refine Chk.intro ?_ ?_); (· first | omega | (with_reducible refine Chk.intro ?_ ?_ <;> omega) | (simp; done) | (simp; omega))) | (with_reducible refine AnyI.i64 fun _ _ => ?_) | ((with_reducible refine LetW.i64 ?_ ?_ ?_); (· omega); (· omega)) | ((with_reducible refine Ite.decide (fun _ => ?_) (fun _ => ?_)) <;> first | (exfalso; omega) | skip) | (with_reducible refine Ite.bool (fun _ => ?_) (fun _ => ?_)) | (with_reducible refine And.intro ?_ ?_) | omega | simp (maxSteps := 1000000) only [go_sem, reduceCtorEq, Nat.reduceLT, Nat.reduceLeDiff, reduceIte, ↓reduceIte, Nat.reduceEqDiff, Nat.reduceAdd, Nat.reduceMul, Nat.reduceSub, Int.reduceLE, Int.reduceLT, Int.reduceNeg, Int.reduceToNat, hR, hW])
          refine VcCall.fr (FnFr.of_ok (trim_ok row (by omega)) rfl rfl) (by simp only [noIdR_ok, argOkL, argOk, allOk, argOkN, List.drop_zero, lk, reduceIte, reduceCtorEq, Nat.reduceEqDiff, Option.some.injEq, Item.row.injEq, Item.box.injEq, AV.ro.injEq, exists_eq_left, exists_and_left, exists_eq_left', exists_eq_right, and_assoc, and_true, true_and, List.cons.injEq, exists_eq', exists_eq]) 0 rfl (by simp [rowsB]) ?_
          (repeat' first | (with_reducible refine Asm.intro fun _ => ?_) | ((with_reducible refine Chk.intro ?_ ?_); (· first | omega | (with_reducible refine Chk.intro ?_ ?_ <;> omega) | (simp; done) | (simp; omega))) | (with_reducible refine AnyI.i64 fun _ _ => ?_) | ((with_reducible refine LetW.i64 ?_ ?_ ?_); (· omega); (· omega)) | ((with_reducible refine Ite.decide (fun _ => ?_) (fun _ => ?_)) <;> first | (exfalso; omega) | skip) | (with_reducible refine Ite.bool (fun _ => ?_) (fun _ => ?_)) | (with_reducible refine And.intro ?_ ?_) | omega | simp (maxSteps := 1000000) only [go_sem, reduceCtorEq, Nat.reduceLT, Nat.reduceLeDiff, reduceIte, ↓reduceIte, Nat.reduceEqDiff, Nat.reduceAdd, Nat.reduceMul, Nat.reduceSub, Int.reduceLE, Int.reduceLT, Int.reduceNeg, Int.reduceToNat])
          have hml := preN_le row
          refine VcCall.fr (FnFr.of_ok (isWord_ok (midQ row) (by omega)) rfl rfl) (by simp only [noIdR_ok, argOkL, argOk, allOk, argOkN, List.drop_zero, lk, reduceIte, reduceCtorEq, Nat.reduceEqDiff, Option.some.injEq, Item.row.injEq, Item.box.injEq, AV.ro.injEq, exists_eq_left, exists_and_left, exists_eq_left', exists_eq_right, and_assoc, and_true, true_and, List.cons.injEq, exists_eq', exists_eq]) 0 rfl (by simp [rowsB]) ?_
          cases hw : isWd (midQ row) with
          | false =>
            (repeat' first | (with_reducible refine Asm.intro fun _ => ?_) | ((with_reducible refine Chk.intro ?_ ?_); (· first | omega | (with_reducible refine Chk.intro ?_ ?_ <;> omega) | (simp; done) | (simp; omega))) | (with_reducible refine AnyI.i64 fun _ _ => ?_) | ((with_reducible refine LetW.i64 ?_ ?_ ?_); (· omega); (· omega)) | ((with_reducible refine Ite.decide (fun _ => ?_) (fun _ => ?_)) <;> first | (exfalso; omega) | skip) | (with_reducible refine Ite.bool (fun _ => ?_) (fun _ => ?_)) | (with_reducible refine And.intro ?_ ?_) | omega | simp (maxSteps := 1000000) only [go_sem, reduceCtorEq, Nat.reduceLT, Nat.reduceLeDiff, reduceIte, ↓reduceIte, Nat.reduceEqDiff, Nat.reduceAdd, Nat.reduceMul, Nat.reduceSub, Int.reduceLE, Int.reduceLT, Int.reduceNeg, Int.reduceToNat, hw])
            refine ⟨⟨k, o, out⟩, Ent.auto0 rfl ?_ ?_, ⟨by dsimp only; omega, hk2, ?_, hL, by dsimp only; omega⟩, by dsimp only; omega⟩
            · simp only [go_sem, reduceCtorEq, reduceIte, Nat.reduceEqDiff, Nat.reduceLT, Nat.reduceLeDiff, Int.natCast_succ]
            · simp only [go_sem, reduceCtorEq, reduceIte, Nat.reduceEqDiff, Nat.reduceLT, Nat.reduceLeDiff, Int.natCast_succ, tkR]
            · rw [← step_row hlt hoi hik hk2 hr he out (by rw [hR2]; exact hw)]; exact ht
          | true =>
            have hne : midQ row ≠ [] := by
              intro h; rw [h, isWd_nil] at hw; cases hw
            have kI := index_ok row (midQ row) (by omega)
            rw [index_mid hne] at kI
            have hst := step_word hlt hoi hik hk2 hr he out (by rw [hR2]; exact hw)
            rw [hR2] at hst
            have eF : ((i : Int) + (preN row : Int)).toNat = i + preN row := by omega
            obtain ⟨p, hp⟩ : ∃ p, preN row = p := ⟨_, rfl⟩
            rw [hp] at kI hst eF hml
            have hbl := sub_len (s := s) (a := o) (b := i + p) (by omega) (by omega)
            obtain ⟨b, hb⟩ : ∃ b, sub s o (i + p) = b := ⟨_, rfl⟩
            rw [hb] at hst hbl
            have hb2 : (s.drop o).take (i + p - o) = b := hb
            have k1 := add_ok out b false (by omega) (fun _ => hL)
            have k2 := add_ok (addT out b false) (midQ row) true (by have := addT_len out b false; omega) (fun h => by cases h)
            rw [show addT (addT out b false) (midQ row) true = flush out b ++ [(midQ row, true)] from if_neg hne] at k2
            generalize midQ row = m at *
            (repeat' first | (with_reducible refine Asm.intro fun _ => ?_) | ((with_reducible refine Chk.intro ?_ ?_); (· first | omega | (with_reducible refine Chk.intro ?_ ?_ <;> omega) | (simp; done) | (simp; omega))) | (with_reducible refine AnyI.i64 fun _ _ => ?_) | ((with_reducible refine LetW.i64 ?_ ?_ ?_); (· omega); (· omega)) | ((with_reducible refine Ite.decide (fun _ => ?_) (fun _ => ?_)) <;> first | (exfalso; omega) | skip) | (with_reducible refine Ite.bool (fun _ => ?_) (fun _ => ?_)) | (with_reducible refine And.intro ?_ ?_) | omega | simp (maxSteps := 1000000) only [go_sem, reduceCtorEq, Nat.reduceLT, Nat.reduceLeDiff, reduceIte, ↓reduceIte, Nat.reduceEqDiff, Nat.reduceAdd, Nat.reduceMul, Nat.reduceSub, Int.reduceLE, Int.reduceLT, Int.reduceNeg, Int.reduceToNat, hw])
            refine VcCall.fr (FnFr.of_ok kI rfl rfl) (by simp only [noIdR_ok, argOkL, argOk, allOk, argOkN, List.drop_zero, lk, reduceIte, reduceCtorEq, Nat.reduceEqDiff, Option.some.injEq, Item.row.injEq, Item.box.injEq, AV.ro.injEq, exists_eq_left, exists_and_left, exists_eq_left', exists_eq_right, and_assoc, and_true, true_and, List.cons.injEq, exists_eq', exists_eq]) 0 rfl (by simp [rowsB]) ?_
            (repeat' first | (with_reducible refine Asm.intro fun _ => ?_) | ((with_reducible refine Chk.intro ?_ ?_); (· first | omega | (with_reducible refine Chk.intro ?_ ?_ <;> omega) | (simp; done) | (simp; omega))) | (with_reducible refine AnyI.i64 fun _ _ => ?_) | ((with_reducible refine LetW.i64 ?_ ?_ ?_); (· omega); (· omega)) | ((with_reducible refine Ite.decide (fun _ => ?_) (fun _ => ?_)) <;> first | (exfalso; omega) | skip) | (with_reducible refine Ite.bool (fun _ => ?_) (fun _ => ?_)) | (with_reducible refine And.intro ?_ ?_) | omega | simp (maxSteps := 1000000) only [go_sem, reduceCtorEq, Nat.reduceLT, Nat.reduceLeDiff, reduceIte, ↓reduceIte, Nat.reduceEqDiff, Nat.reduceAdd, Nat.reduceMul, Nat.reduceSub, Int.reduceLE, Int.reduceLT, Int.reduceNeg, Int.reduceToNat, eF, hb2, Int.toNat_natCast])
            refine VcCall.io [0, 1] k1 (by decide) (by simp [renL, ren, ioN]) rfl (by simp [subOk, ioN, lk, Item.ren, Item.below, ren, renL, belowL, Fv.below, tkR, renR_ok, belowR_ok]) covA2 3 (by decide) rfl (by simp [rowsB, Item.below, Fv.below, belowL, tkR, belowR_ok]) ?_
            (repeat' first | (with_reducible refine Asm.intro fun _ => ?_) | ((with_reducible refine Chk.intro ?_ ?_); (· first | omega | (with_reducible refine Chk.intro ?_ ?_ <;> omega) | (simp; done) | (simp; omega))) | (with_reducible refine AnyI.i64 fun _ _ => ?_) | ((with_reducible refine LetW.i64 ?_ ?_ ?_); (· omega); (· omega)) | ((with_reducible refine Ite.decide (fun _ => ?_) (fun _ => ?_)) <;> first | (exfalso; omega) | skip) | (with_reducible refine Ite.bool (fun _ => ?_) (fun _ => ?_)) | (with_reducible refine And.intro ?_ ?_) | omega | simp (maxSteps := 1000000) only [go_sem, reduceCtorEq, Nat.reduceLT, Nat.reduceLeDiff, reduceIte, ↓reduceIte, Nat.reduceEqDiff, Nat.reduceAdd, Nat.reduceMul, Nat.reduceSub, Int.reduceLE, Int.reduceLT, Int.reduceNeg, Int.reduceToNat, S.ioS, ioRows, ioN, delL, Item.ren, ren, renL, tkR, List.length_cons, List.length_nil, List.getElem?_cons_zero, List.getElem?_cons_succ, List.getElem?_nil, List.cons_append, List.nil_append, Nat.reduceAdd, Nat.sub_self, Nat.add_zero, List.filter, eF, hb2])
            refine VcCall.io [0, 2] k2 (by decide) (by simp [renL, ren, ioN]) rfl (by simp [subOk, ioN, lk, Item.ren, Item.below, ren, renL, belowL, Fv.below, tkR, renR_ok, belowR_ok]) covA2 3 (by decide) rfl (by simp [rowsB, Item.below, Fv.below, belowL, tkR, belowR_ok]) ?_
            (repeat' first | (with_reducible refine Asm.intro fun _ => ?_) | ((with_reducible refine Chk.intro ?_ ?_); (· first | omega | (with_reducible refine Chk.intro ?_ ?_ <;> omega) | (simp; done) | (simp; omega))) | (with_reducible refine AnyI.i64 fun _ _ => ?_) | ((with_reducible refine LetW.i64 ?_ ?_ ?_); (· omega); (· omega)) | ((with_reducible refine Ite.decide (fun _ => ?_) (fun _ => ?_)) <;> first | (exfalso; omega) | skip) | (with_reducible refine Ite.bool (fun _ => ?_) (fun _ => ?_)) | (with_reducible refine And.intro ?_ ?_) | omega | simp (maxSteps := 1000000) only [go_sem, reduceCtorEq, Nat.reduceLT, Nat.reduceLeDiff, reduceIte, ↓reduceIte, Nat.reduceEqDiff, Nat.reduceAdd, Nat.reduceMul, Nat.reduceSub, Int.reduceLE, Int.reduceLT, Int.reduceNeg, Int.reduceToNat, S.ioS, ioRows, ioN, delL, Item.ren, ren, renL, tkR, List.length_cons, List.length_nil, List.getElem?_cons_zero, List.getElem?_cons_succ, List.getElem?_nil, List.cons_append, List.nil_append, Nat.reduceAdd, Nat.sub_self, Nat.add_zero, List.filter])
            refine ⟨⟨k, i + p + m.length, flush out b ++ [(m, true)]⟩, Ent.auto0 rfl ?_ ?_, ⟨by dsimp only; omega, hk2, ?_, lastW_snoc _ _, ?_⟩, by dsimp only; omega⟩
            · simp only [go_sem, reduceCtorEq, reduceIte, Nat.reduceEqDiff, Nat.reduceLT, Nat.reduceLeDiff, Int.natCast_succ, Int.natCast_add]
            · simp only [go_sem, reduceCtorEq, reduceIte, Nat.reduceEqDiff, Nat.reduceLT, Nat.reduceLeDiff, Int.natCast_succ, tkR]
            · rw [← hst]; exact ht
            · have := addT_len out b false
              show (addT out b false ++ [(m, true)]).length ≤ 2 * k
              rw [List.length_append, List.length_singleton]; omega
      · have hkl2 : ¬ (k : Int) < s.length := by omega
        have he : k < s.length → inW (s.getD k 0) = false := fun h => absurd h hkl
        have hik : i < k := by
          by_cases h : i = k
          · subst h; exact absurd hc (by omega)
          · omega
        obtain ⟨row, hR⟩ : ∃ row, (s.drop i).take (k - i) = row := ⟨_, rfl⟩
        have hR2 : sub s i k = row := hR
        have hrl : row.length = k - i := by rw [← hR2]; exact sub_len (by omega) (by omega)
        (repeat' first | (with_reducible refine Asm.intro fun _ => ?_) | ((with_reducible refine Chk.intro ?_ ?_); (· first | omega | (with_reducible refine Chk.intro ?_ ?_ <;> omega) | (simp; done) | (simp; omega))) | (with_reducible refine AnyI.i64 fun _ _ => ?_) | ((with_reducible refine LetW.i64 ?_ ?_ ?_); (· omega); (· omega)) | ((with_reducible refine Ite.decide (fun _ => ?_) (fun _ => ?_)) <;> first | (exfalso; omega) | skip) | (with_reducible refine Ite.bool (fun _ => ?_) (fun _ => ?_)) | (with_reducible refine And.intro ?_ ?_) | omega | simp (maxSteps := 1000000) only [go_sem, reduceCtorEq, Nat.reduceLT, Nat.reduceLeDiff, reduceIte, ↓reduceIte, Nat.reduceEqDiff, Nat.reduceAdd, Nat.reduceMul, Nat.reduceSub, Int.reduceLE, Int.reduceLT, Int.reduceNeg, Int.reduceToNat, hR, hkl2])
        refine VcCall.fr (FnFr.of_ok (trim_ok row (by omega)) rfl rfl) (by simp only [noIdR_ok, argOkL, argOk, allOk, argOkN, List.drop_zero, lk, reduceIte, reduceCtorEq, Nat.reduceEqDiff, Option.some.injEq, Item.row.injEq, Item.box.injEq, AV.ro.injEq, exists_eq_left, exists_and_left, exists_eq_left', exists_eq_right, and_assoc, and_true, true_and, List.cons.injEq, exists_eq', exists_eq]) 0 rfl (by simp [rowsB]) ?_
        (repeat' first | (with_reducible refine Asm.intro fun _ => ?_) | ((with_reducible refine Chk.intro ?_ ?_); (· first | omega | (with_reducible refine Chk.intro ?_ ?_ <;> omega) | (simp; done) | (simp; omega))) | (with_reducible refine AnyI.i64 fun _ _ => ?_) | ((with_reducible refine LetW.i64 ?_ ?_ ?_); (· omega); (· omega)) | ((with_reducible refine Ite.decide (fun _ => ?_) (fun _ => ?_)) <;> first | (exfalso; omega) | skip) | (with_reducible refine Ite.bool (fun _ => ?_) (fun _ => ?_)) | (with_reducible refine And.intro ?_ ?_) | omega | simp (maxSteps := 1000000) only [go_sem, reduceCtorEq, Nat.reduceLT, Nat.reduceLeDiff, reduceIte, ↓reduceIte, Nat.reduceEqDiff, Nat.reduceAdd, Nat.reduceMul, Nat.reduceSub, Int.reduceLE, Int.reduceLT, Int.reduceNeg, Int.reduceToNat])
        have hml := preN_le row
        refine VcCall.fr (FnFr.of_ok (isWord_ok (midQ row) (by omega)) rfl rfl) (by simp only [noIdR_ok, argOkL, argOk, allOk, argOkN, List.drop_zero, lk, reduceIte, reduceCtorEq, Nat.reduceEqDiff, Option.some.injEq, Item.row.injEq, Item.box.injEq, AV.ro.injEq, exists_eq_left, exists_and_left, exists_eq_left', exists_eq_right, and_assoc, and_true, true_and, List.cons.injEq, exists_eq', exists_eq]) 0 rfl (by simp [rowsB]) ?_
        cases hw : isWd (midQ row) with
        | false =>
          (repeat' first | (with_reducible refine Asm.intro fun _ => ?_) | ((with_reducible refine Chk.intro ?_ ?_); (· first | omega | (with_reducible refine Chk.intro ?_ ?_ <;> omega) | (simp; done) | (simp; omega))) | (with_reducible refine AnyI.i64 fun _ _ => ?_) | ((with_reducible refine LetW.i64 ?_ ?_ ?_); (· omega); (· omega)) | ((with_reducible refine Ite.decide (fun _ => ?_) (fun _ => ?_)) <;> first | (exfalso; omega) | skip) | (with_reducible refine Ite.bool (fun _ => ?_) (fun _ => ?_)) | (with_reducible refine And.intro ?_ ?_) | omega | simp (maxSteps := 1000000) only [go_sem, reduceCtorEq, Nat.reduceLT, Nat.reduceLeDiff, reduceIte, ↓reduceIte, Nat.reduceEqDiff, Nat.reduceAdd, Nat.reduceMul, Nat.reduceSub, Int.reduceLE, Int.reduceLT, Int.reduceNeg, Int.reduceToNat, hw])
          refine ⟨⟨k, o, out⟩, Ent.auto0 rfl ?_ ?_, ⟨by dsimp only; omega, hk2, ?_, hL, by dsimp only; omega⟩, by dsimp only; omega⟩
          · simp only [go_sem, reduceCtorEq, reduceIte, Nat.reduceEqDiff, Nat.reduceLT, Nat.reduceLeDiff, Int.natCast_succ]
          · simp only [go_sem, reduceCtorEq, reduceIte, Nat.reduceEqDiff, Nat.reduceLT, Nat.reduceLeDiff, Int.natCast_succ, tkR]
          · rw [← step_row hlt hoi hik hk2 hr he out (by rw [hR2]; exact hw)]; exact ht
        | true =>
          have hne : midQ row ≠ [] := by
            intro h; rw [h, isWd_nil] at hw; cases hw
          have kI := index_ok row (midQ row) (by omega)
          rw [index_mid hne] at kI
          have hst := step_word hlt hoi hik hk2 hr he out (by rw [hR2]; exact hw)
          rw [hR2] at hst
          have eF : ((i : Int) + (preN row : Int)).toNat = i + preN row := by omega
          obtain ⟨p, hp⟩ : ∃ p, preN row = p := ⟨_, rfl⟩
          rw [hp] at kI hst eF hml
          have hbl := sub_len (s := s) (a := o) (b := i + p) (by omega) (by omega)
          obtain ⟨b, hb⟩ : ∃ b, sub s o (i + p) = b := ⟨_, rfl⟩
          rw [hb] at hst hbl
          have hb2 : (s.drop o).take (i + p - o) = b := hb
          have k1 := add_ok out b false (by omega) (fun _ => hL)
          have k2 := add_ok (addT out b false) (midQ row) true (by have := addT_len out b false; omega) (fun h => by cases h)
          rw [show addT (addT out b false) (midQ row) true = flush out b ++ [(midQ row, true)] from if_neg hne] at k2
          generalize midQ row = m at *
          (repeat' first | (with_reducible refine Asm.intro fun _ => ?_) | ((with_reducible refine Chk.intro ?_ ?_); (· first | omega | (with_reducible refine Chk.intro ?_ ?_ <;> omega) | (simp; done) | (simp; omega))) | (with_reducible refine AnyI.i64 fun _ _ => ?_) | ((with_reducible refine LetW.i64 ?_ ?_ ?_); (· omega); (· omega)) | ((with_reducible refine Ite.decide (fun _ => ?_) (fun _ => ?_)) <;> first | (exfalso; omega) | skip) | (with_reducible refine Ite.bool (fun _ => ?_) (fun _ => ?_)) | (with_reducible refine And.intro ?_ ?_) | omega | simp (maxSteps := 1000000) only [go_sem, reduceCtorEq, Nat.reduceLT, Nat.reduceLeDiff, reduceIte, ↓reduceIte, Nat.reduceEqDiff, Nat.reduceAdd, Nat.reduceMul, Nat.reduceSub, Int.reduceLE, Int.reduceLT, Int.reduceNeg, Int.reduceToNat, hw])
          refine VcCall.fr (FnFr.of_ok kI rfl rfl) (by simp only [noIdR_ok, argOkL, argOk, allOk, argOkN, List.drop_zero, lk, reduceIte, reduceCtorEq, Nat.reduceEqDiff, Option.some.injEq, Item.row.injEq, Item.box.injEq, AV.ro.injEq, exists_eq_left, exists_and_left, exists_eq_left', exists_eq_right, and_assoc, and_true, true_and, List.cons.injEq, exists_eq', exists_eq]) 0 rfl (by simp [rowsB]) ?_
          (repeat' first | (with_reducible refine Asm.intro fun _ => ?_) | ((with_reducible refine Chk.intro ?_ ?_); (· first | omega | (with_reducible refine Chk.intro ?_ ?_ <;> omega) | (simp; done) | (simp; omega))) | (with_reducible refine AnyI.i64 fun _ _ => ?_) | ((with_reducible refine LetW.i64 ?_ ?_ ?_); (· omega); (· omega)) | ((with_reducible refine Ite.decide (fun _ => ?_) (fun _ => ?_)) <;> first | (exfalso; omega) | skip) | (with_reducible refine Ite.bool (fun _ => ?_) (fun _ => ?_)) | (with_reducible refine And.intro ?_ ?_) | omega | simp (maxSteps := 1000000) only [go_sem, reduceCtorEq, Nat.reduceLT, Nat.reduceLeDiff, reduceIte, ↓reduceIte, Nat.reduceEqDiff, Nat.reduceAdd, Nat.reduceMul, Nat.reduceSub, Int.reduceLE, Int.reduceLT, Int.reduceNeg, Int.reduceToNat, eF, hb2, Int.toNat_natCast])
          refine VcCall.io [0, 1] k1 (by decide) (by simp [renL, ren, ioN]) rfl (by simp [subOk, ioN, lk, Item.ren, Item.below, ren, renL, belowL, Fv.below, tkR, renR_ok, belowR_ok]) covA2 3 (by decide) rfl (by simp [rowsB, Item.below, Fv.below, belowL, tkR, belowR_ok]) ?_
          (repeat' first | (with_reducible refine Asm.intro fun _ => ?_) | ((with_reducible refine Chk.intro ?_ ?_); (· first | omega | (with_reducible refine Chk.intro ?_ ?_ <;> omega) | (simp; done) | (simp; omega))) | (with_reducible refine AnyI.i64 fun _ _ => ?_) | ((with_reducible refine LetW.i64 ?_ ?_ ?_); (· omega); (· omega)) | ((with_reducible refine Ite.decide (fun _ => ?_) (fun _ => ?_)) <;> first | (exfalso; omega) | skip) | (with_reducible refine Ite.bool (fun _ => ?_) (fun _ => ?_)) | (with_reducible refine And.intro ?_ ?_) | omega | simp (maxSteps := 1000000) only [go_sem, reduceCtorEq, Nat.reduceLT, Nat.reduceLeDiff, reduceIte, ↓reduceIte, Nat.reduceEqDiff, Nat.reduceAdd, Nat.reduceMul, Nat.reduceSub, Int.reduceLE, Int.reduceLT, Int.reduceNeg, Int.reduceToNat, S.ioS, ioRows, ioN, delL, Item.ren, ren, renL, tkR, List.length_cons, List.length_nil, List.getElem?_cons_zero, List.getElem?_cons_succ, List.getElem?_nil, List.cons_append, List.nil_append, Nat.reduceAdd, Nat.sub_self, Nat.add_zero, List.filter, eF, hb2])
          refine VcCall.io [0, 2] k2 (by decide) (by simp [renL, ren, ioN]) rfl (by simp [subOk, ioN, lk, Item.ren, Item.below, ren, renL, belowL, Fv.below, tkR, renR_ok, belowR_ok]) covA2 3 (by decide) rfl (by simp [rowsB, Item.below, Fv.below, belowL, tkR, belowR_ok]) ?_
          (repeat' first | (with_reducible refine Asm.intro fun _ => ?_) | ((with_reducible refine Chk.intro ?_ ?_); (· first | omega | (with_reducible refine Chk.intro ?_ ?_ <;> omega) | (simp; done) | (simp; omega))) | (with_reducible refine AnyI.i64 fun _ _ => ?_) | ((with_reducible refine LetW.i64 ?_ ?_ ?_); (· omega); (· omega)) | ((with_reducible refine Ite.decide (fun _ => ?_) (fun _ => ?_)) <;> first | (exfalso; omega) | skip) | (with_reducible refine Ite.bool (fun _ => ?_) (fun _ => ?_)) | (with_reducible refine And.intro ?_ ?_) | omega | simp (maxSteps := 1000000) only [go_sem, reduceCtorEq, Nat.reduceLT, Nat.reduceLeDiff, reduceIte, ↓reduceIte, Nat.reduceEqDiff, Nat.reduceAdd, Nat.reduceMul, Nat.reduceSub, Int.reduceLE, Int.reduceLT, Int.reduceNeg, Int.reduceToNat, S.ioS, ioRows, ioN, delL, Item.ren, ren, renL, tkR, List.length_cons, List.length_nil, List.getElem?_cons_zero, List.getElem?_cons_succ, List.getElem?_nil, List.cons_append, List.nil_append, Nat.reduceAdd, Nat.sub_self, Nat.add_zero, List.filter])
          refine ⟨⟨k, i + p + m.length, flush out b ++ [(m, true)]⟩, Ent.auto0 rfl ?_ ?_, ⟨by dsimp only; omega, hk2, ?_, lastW_snoc _ _, ?_⟩, by dsimp only; omega⟩
          · simp only [go_sem, reduceCtorEq, reduceIte, Nat.reduceEqDiff, Nat.reduceLT, Nat.reduceLeDiff, Int.natCast_succ, Int.natCast_add]
          · simp only [go_sem, reduceCtorEq, reduceIte, Nat.reduceEqDiff, Nat.reduceLT, Nat.reduceLeDiff, Int.natCast_succ, tkR]
          · rw [← hst]; exact ht
          · have := addT_len out b false
            show (addT out b false ++ [(m, true)]).length ≤ 2 * k
            rw [List.length_append, List.length_singleton]; omega
  · have e : i = s.length := by omega
    subst e
    rw [List.drop_of_length_le (Nat.le_refl _), toks_nil] at ht
    obtain ⟨b, hb⟩ : ∃ b, sub s o s.length = b := ⟨_, rfl⟩
    have hb2 : (s.drop o).take (s.length - o) = b := hb
    have hbl := sub_len (s := s) (a := o) (b := s.length) hoi (Nat.le_refl _)
    rw [hb] at hbl ht
    have k1 := add_ok out b false (by omega) (fun _ => hL)
    rw [show addT out b false = toks s [] [] from ht] at k1
    rw [hb2]
    refine VcCall.io [0, 1] k1 (by decide) (by simp [renL, ren, ioN]) rfl (by simp [subOk, ioN, lk, Item.ren, Item.below, ren, renL, belowL, Fv.below, tkR, renR_ok, belowR_ok]) covA2 3 (by decide) rfl (by simp [rowsB, Item.below, Fv.below, belowL, tkR, belowR_ok]) ?_
    (repeat' first | (with_reducible refine Asm.intro fun _ => ?_) | ((with_reducible refine Chk.intro ?_ ?_); (· first | omega | (with_reducible refine Chk.intro ?_ ?_ <;> omega) | (simp; done) | (simp; omega))) | (with_reducible refine AnyI.i64 fun _ _ => ?_) | ((with_reducible refine LetW.i64 ?_ ?_ ?_); (· omega); (· omega)) | ((with_reducible refine Ite.decide (fun _ => ?_) (fun _ => ?_)) <;> first | (exfalso; omega) | skip) | (with_reducible refine Ite.bool (fun _ => ?_) (fun _ => ?_)) | (with_reducible refine And.intro ?_ ?_) | omega | simp (maxSteps := 1000000) only [go_sem, reduceCtorEq, Nat.reduceLT, Nat.reduceLeDiff, reduceIte, ↓reduceIte, Nat.reduceEqDiff, Nat.reduceAdd, Nat.reduceMul, Nat.reduceSub, Int.reduceLE, Int.reduceLT, Int.reduceNeg, Int.reduceToNat, S.ioS, ioRows, ioN, delL, Item.ren, ren, renL, tkR, List.length_cons, List.length_nil, List.getElem?_cons_zero, List.getElem?_cons_succ, List.getElem?_nil, List.cons_append, List.nil_append, Nat.reduceAdd, Nat.sub_self, Nat.add_zero, List.filter, hb2])
    refine Ret.auto 1 ?_ rfl ?_ <;> simp only [go_sem, reduceCtorEq, reduceIte, Nat.reduceEqDiff, Nat.reduceLT, Nat.reduceLeDiff, Int.natCast_succ, Post, tkR]
end Go.Fv.W

/- The reference's closure that puts tokens. -/

namespace Go.Fv.W
open Go Go.Proofs
set_option linter.unusedSimpArgs false
set_option linter.unusedVariables false
set_option linter.unnecessarySimpa false
set_option maxRecDepth 8000

def putB (btw t : Bytes) (w : Bool) : Bytes := if w = true then [] else btw ++ t
def putO (out : List Tok) (btw t : Bytes) (w : Bool) : List Tok := if w = true then flush out btw ++ [(t, true)] else out

set_option maxHeartbeats 2000000 in
theorem put_ok (out : List Tok) (btw t : Bytes) (w : Bool) (hl : out.length ≤ 1000000000) (hb : btw.length ≤ 1000000000) (ht : t.length ≤ 1000000000) :
    FnIO Tryd.prog 61 [.str t, .bool w, .ptr 0 0, .ptr 1 0] [(0, .box 9 [.str btw]), (1, .box 51 [.own 2]), (2, .row 54 (tkR out))] 3 (.tup [])
      [(0, .box 9 [.str (putB btw t w)]), (1, .box 51 [.own 3]), (3, .row 54 (tkR (putO out btw t w)))] := by
  refine FnIO.of_vc Tryd.func61 rfl (by decide) (by simp [Tryd.f61]) covA3 [] rfl fun w0 T0 _ => ?_
  simp only [Tryd.f61, argEnv]
  cases w with
  | false =>
    have e1 : putB btw t false = btw ++ t := rfl
    have e2 : putO out btw t false = out := rfl
    rw [e1, e2]
    (repeat' first | (with_reducible refine Asm.intro fun _ => ?_) | ((with_reducible refine Chk.intro ?_ ?_); (· first | omega | (with_reducible refine Chk.intro ?_ ?_ <;> omega) | (simp; done) | (simp; omega))) | (with_reducible refine AnyI.i64 fun _ _ => ?_) | ((with_reducible refine LetW.i64 ?_ ?_ ?_); (· omega); (· omega)) | ((with_reducible refine Ite.decide (fun _ => ?_) (fun _ => ?_)) <;> first | (exfalso; omega) | skip) | (with_reducible refine Ite.bool (fun _ => ?_) (fun _ => ?_)) | (with_reducible refine And.intro ?_ ?_) | omega | simp (maxSteps := 1000000) only [go_sem, reduceCtorEq, Nat.reduceLT, Nat.reduceLeDiff, reduceIte, ↓reduceIte, Nat.reduceEqDiff, Nat.reduceAdd, Nat.reduceMul, Nat.reduceSub, Int.reduceLE, Int.reduceLT, Int.reduceNeg, Int.reduceToNat, tkR, List.length_map, List.length_append])
    refine RetK.of [(3, 2)] 4 (by decide) (by decide) ?_ rfl ?_ <;> simp only [go_sem, reduceCtorEq, reduceIte, Nat.reduceEqDiff, Nat.reduceLT, Nat.reduceLeDiff, Int.natCast_succ]
  | true =>
    have e1 : putB btw t true = [] := rfl
    have e2 : putO out btw t true = flush out btw ++ [(t, true)] := rfl
    rw [e1, e2]
    by_cases h0 : btw = []
    · have e3 : flush out [] = out := if_pos rfl
      (repeat' first | (with_reducible refine Asm.intro fun _ => ?_) | ((with_reducible refine Chk.intro ?_ ?_); (· first | omega | (with_reducible refine Chk.intro ?_ ?_ <;> omega) | (simp; done) | (simp; omega))) | (with_reducible refine AnyI.i64 fun _ _ => ?_) | ((with_reducible refine LetW.i64 ?_ ?_ ?_); (· omega); (· omega)) | ((with_reducible refine Ite.decide (fun _ => ?_) (fun _ => ?_)) <;> first | (exfalso; omega) | skip) | (with_reducible refine Ite.bool (fun _ => ?_) (fun _ => ?_)) | (with_reducible refine And.intro ?_ ?_) | omega | simp (maxSteps := 1000000) only [go_sem, reduceCtorEq, Nat.reduceLT, Nat.reduceLeDiff, reduceIte, ↓reduceIte, Nat.reduceEqDiff, Nat.reduceAdd, Nat.reduceMul, Nat.reduceSub, Int.reduceLE, Int.reduceLT, Int.reduceNeg, Int.reduceToNat, h0, e3, tkR, List.length_map, List.length_append])
      refine RetK.of [(3, 4)] 4 (by decide) (by decide) ?_ rfl ?_ <;> simp only [go_sem, reduceCtorEq, reduceIte, Nat.reduceEqDiff, Nat.reduceLT, Nat.reduceLeDiff, Int.natCast_succ, tkAv, List.map_append, List.map_cons, List.map_nil]
    · have e3 : flush out btw = out ++ [(btw, false)] := if_neg h0
      (repeat' first | (with_reducible refine Asm.intro fun _ => ?_) | ((with_reducible refine Chk.intro ?_ ?_); (· first | omega | (with_reducible refine Chk.intro ?_ ?_ <;> omega) | (simp; done) | (simp; omega))) | (with_reducible refine AnyI.i64 fun _ _ => ?_) | ((with_reducible refine LetW.i64 ?_ ?_ ?_); (· omega); (· omega)) | ((with_reducible refine Ite.decide (fun _ => ?_) (fun _ => ?_)) <;> first | (exfalso; omega) | skip) | (with_reducible refine Ite.bool (fun _ => ?_) (fun _ => ?_)) | (with_reducible refine And.intro ?_ ?_) | omega | simp (maxSteps := 1000000) only [go_sem, reduceCtorEq, Nat.reduceLT, Nat.reduceLeDiff, reduceIte, ↓reduceIte, Nat.reduceEqDiff, Nat.reduceAdd, Nat.reduceMul, Nat.reduceSub, Int.reduceLE, Int.reduceLT, Int.reduceNeg, Int.reduceToNat, h0, e3, tkR, List.length_map, List.length_append])
      refine RetK.of [(3, 6)] 4 (by decide) (by decide) ?_ rfl ?_ <;> simp only [go_sem, reduceCtorEq, reduceIte, Nat.reduceEqDiff, Nat.reduceLT, Nat.reduceLeDiff, Int.natCast_succ, tkAv, List.map_append, List.map_cons, List.map_nil]
end Go.Fv.W

/- The reference's way to cut the quotes. -/

namespace Go.Fv.W
open Go
set_option linter.unusedSimpArgs false
set_option linter.unusedVariables false
set_option linter.unnecessarySimpa false

theorem dropR_app (t : Bytes) : ∃ q, dropR t ++ q = t := ⟨postQ t, mid_post t⟩
theorem preN_eq (t : Bytes) : t.length - (dropQ t).length = preN t := by
  have := congrArg List.length (pre_drop t)
  simp only [List.length_append] at this
  unfold preN; omega
theorem pre_of {r q t : Bytes} (h : r ++ q = t) (h2 : dropQ r ≠ []) : preQ t = preQ r := by
  subst h
  have := congrArg List.length (pre_drop r)
  have h3 : 0 < (dropQ r).length := List.length_pos_iff.2 h2
  simp only [List.length_append] at this
  unfold preQ at this ⊢
  rw [List.takeWhile_append, if_neg (by omega)]
theorem pre_all {r q t : Bytes} (h : r ++ q = t) (h2 : dropQ r = []) : r.length ≤ preN t := by
  subst h
  have := congrArg List.length (pre_drop r)
  rw [h2] at this
  simp only [List.length_append, List.length_nil] at this
  unfold preN preQ at *
  rw [List.takeWhile_append, if_pos (by omega)]
  simp
theorem cut_none {t : Bytes} (h : midQ t = []) : (dropR t).length ≤ preN t := by
  rw [← midQ_eq] at h
  exact pre_all (mid_post t) h
theorem cut_some {t : Bytes} (h : midQ t ≠ []) : (dropR t).length = preN t + (midQ t).length := by
  have h' := h
  rw [← midQ_eq] at h'
  have := pre_of (mid_post t) h'
  have h3 := congrArg List.length (pre_drop (dropR t))
  rw [midQ_eq, ← this] at h3
  simp only [List.length_append] at h3
  unfold preN; omega
theorem cut_parts {t : Bytes} {a b : Nat} (ha : preN t = a) (hb : a + (midQ t).length = b) : t.take a = preQ t ∧ (t.drop a).take (b - a) = midQ t ∧ t.drop b = postQ (dropQ t) := by
  have h3 := three t
  have e1 : preN t = (preQ t).length := rfl
  generalize preQ t = x at *
  generalize midQ t = y at *
  generalize postQ (dropQ t) = z at *
  rw [← h3]
  have e2 : a = x.length := by omega
  subst e2
  refine ⟨?_, ?_, ?_⟩
  · rw [List.take_append_of_le_length (Nat.le_refl _), List.take_of_length_le (Nat.le_refl _)]
  · rw [List.drop_append_of_le_length (Nat.le_refl _), List.drop_of_length_le (Nat.le_refl _), List.nil_append, List.take_append_of_le_length (by omega), List.take_of_length_le (by omega)]
  · rw [← List.append_assoc, List.drop_append_of_le_length (by simp; omega), List.drop_of_length_le (by simp; omega), List.nil_append]
theorem inW_ne {c : UInt8} (h : inW c = true) (h2 : qu c = false) : isL c = true := by
  unfold inW at h
  have : ¬ c = 39 := by simpa [qu] using h2
  simpa [this] using h
theorem midQ_head {t : Bytes} (h : midQ t ≠ []) : qu ((midQ t).getD 0 0) = false := by
  have e := midQ_eq t
  have h2 := List.head?_dropWhile_not qu (dropR t)
  rw [show (dropR t).dropWhile qu = dropQ (dropR t) from rfl, e] at h2
  cases hm : midQ t with
  | nil => exact absurd hm h
  | cons c l => rw [hm] at h2; simpa using h2
theorem midQ_last {t : Bytes} (h : midQ t ≠ []) : qu ((midQ t).getD ((midQ t).length - 1) 0) = false := by
  have h2 := List.head?_dropWhile_not qu (dropQ t).reverse
  have e : ((dropQ t).reverse.dropWhile qu) = (midQ t).reverse := by unfold midQ dropR; rw [List.reverse_reverse]
  rw [e, List.head?_reverse] at h2
  rw [List.getLast?_eq_getElem?] at h2
  have hl : 0 < (midQ t).length := List.length_pos_iff.2 h
  rw [List.getElem?_eq_getElem (by omega)] at h2
  rw [getD_lt (by omega)]
  simpa using h2
theorem midQ_mem {t : Bytes} {x : UInt8} (h : x ∈ midQ t) : x ∈ t := by
  rw [← three t]; simp [h]
/-- Of a row of letters and quotes, a word is what is not too long. -/
theorem isWd_row {t : Bytes} (ha : t.all inW = true) : isWd (midQ t) = true ↔ midQ t ≠ [] ∧ (midQ t).length ≤ 40 := by
  constructor
  · intro h
    refine ⟨fun e => ?_, ?_⟩
    · rw [e, isWd_nil] at h; cases h
    · by_cases h2 : 40 < ((midQ t).length : Int)
      · rw [isWd_long h2] at h; cases h
      · omega
  · rintro ⟨h1, h2⟩
    rw [isWd_mid h1 (by omega)]
    have hl : 0 < (midQ t).length := List.length_pos_iff.2 h1
    rw [List.all_eq_true] at ha
    have hin : ∀ j, j < (midQ t).length → inW ((midQ t).getD j 0) = true := fun j hj => by
      rw [getD_lt hj]; exact ha _ (midQ_mem (List.getElem_mem hj))
    rw [inW_ne (hin 0 hl) (midQ_head h1), inW_ne (hin _ (by omega)) (midQ_last h1), all_of hin]; rfl
theorem cut_dec {t : Bytes} (ha : t.all inW = true) : (preN t ≥ (dropR t).length ∨ (dropR t).length - preN t > 40) ↔ isWd (midQ t) = false := by
  rw [← Bool.not_eq_true, isWd_row ha]
  by_cases h : midQ t = []
  · have := cut_none h
    simp [h]; omega
  · have := cut_some h
    have hl : 0 < (midQ t).length := List.length_pos_iff.2 h
    simp only [h, ne_eq, not_false_eq_true, true_and]; omega
theorem takeW_all (u : Bytes) : (u.takeWhile inW).all inW = true := List.all_takeWhile
end Go.Fv.W
