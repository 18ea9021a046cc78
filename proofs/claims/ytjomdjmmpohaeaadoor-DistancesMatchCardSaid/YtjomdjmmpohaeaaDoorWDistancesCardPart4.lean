/-
  A part of the proof of the claim: walks over the program's functions and the plain laws that these need. No condition of its own.
-/
import Derived.Test.YtjomdjmmpohaeaaDoorWDistancesCardPart1
import Derived.Test.YtjomdjmmpohaeaaDoorWDistancesCardPart3
namespace Go.Fv.W
open Go Go.Proofs
set_option linter.unusedSimpArgs false
set_option linter.unusedVariables false
set_option linter.unnecessarySimpa false
set_option maxRecDepth 8000

def St.av (s : St) : List AV := [.int .i64 s.a, .int .i64 s.b, .int .i64 s.c]
def St.zero : St := ⟨0, 0, 0⟩
def sts (l : List St) : RowV := .objs 3 (l.map St.av)
instance : FNoId St.av := ⟨fun _ => rfl⟩
instance {l : List St} : RowNoId (sts l) := inferInstanceAs (RowNoId (.objs 3 (l.map St.av)))
theorem st_elem (l : List St) {i : Nat} (h : i < l.length) : (l.map St.av).getD i [] = [.int .i64 (l.getD i St.zero).a, .int .i64 (l.getD i St.zero).b, .int .i64 (l.getD i St.zero).c] := by
  rw [getD_lt (by simpa using h), getD_lt h, List.getElem_map]; rfl
theorem sts_snoc (l : List St) (a b : Nat) (c : Int) : l.map St.av ++ [[.int .i64 a, .int .i64 b, .int .i64 c]] = (l ++ [(⟨a, b, c⟩ : St)]).map St.av := by simp [St.av]
theorem sts_snoc11 (l : List St) (c : Int) : l.map St.av ++ [[.int .i64 1, .int .i64 1, .int .i64 c]] = (l ++ [(⟨1, 1, c⟩ : St)]).map St.av := by simp [St.av]
theorem sts_snoc10 (l : List St) (c : Int) : l.map St.av ++ [[.int .i64 1, .int .i64 0, .int .i64 c]] = (l ++ [(⟨1, 0, c⟩ : St)]).map St.av := by simp [St.av]
theorem sts_snoc01 (l : List St) (c : Int) : l.map St.av ++ [[.int .i64 0, .int .i64 1, .int .i64 c]] = (l ++ [(⟨0, 1, c⟩ : St)]).map St.av := by simp [St.av]
/-- What a swap gives at two places. -/
def one (x y : List UInt8) (s : Sw) : List St := if fits x y s = true then [⟨s.o.length, s.n.length, s.c⟩] else []
def two (x y : List UInt8) (m : Mx) : List St := one x y ⟨m.f, m.t, m.c⟩ ++ one x y ⟨m.t, m.f, m.c⟩
theorem swSteps_flat (x y : List UInt8) (l : List Mx) : swSteps (swL l) x y = l.flatMap (two x y) := by
  induction l with
  | nil => rfl
  | cons m l ih =>
    have e : swL (m :: l) = ⟨m.f, m.t, m.c⟩ :: ⟨m.t, m.f, m.c⟩ :: swL l := rfl
    have hc : ∀ (s : Sw) (q : List Sw), swSteps (s :: q) x y = one x y s ++ swSteps q x y := by
      intro s q
      unfold swSteps one
      by_cases h : fits x y s = true
      · have h' : (s.o.isPrefixOf x && s.n.isPrefixOf y) = true := h
        simp only [List.filter_cons, h', h, if_true]; rfl
      · have h' : ¬ (s.o.isPrefixOf x && s.n.isPrefixOf y) = true := h
        simp only [List.filter_cons, if_neg h', if_neg h]; rfl
    rw [e, hc, hc, ih, List.flatMap_cons, ← List.append_assoc]; rfl
theorem two_len (x y : List UInt8) (m : Mx) : (two x y m).length ≤ 2 := by
  unfold two one
  split <;> split <;> simp
theorem flat_len (x y : List UInt8) : ∀ l : List Mx, (l.flatMap (two x y)).length ≤ 2 * l.length
  | [] => by simp
  | m :: l => by
    rw [List.flatMap_cons, List.length_append]
    have h1 := two_len x y m
    have h2 := flat_len x y l
    rw [List.length_cons]; omega

set_option maxHeartbeats 16000000 in
theorem steps_ok (l : List Mx) (hl : l.length ≤ 1000) (a b : List UInt8) (i j : Nat) (hi : i ≤ a.length) (hj : j ≤ b.length) :
    FnOk Tryd.prog 47 [.str a, .str b, .int .i64 i, .int .i64 j, .ro (mxs l)] (.own 0) [(0, .row 90 (sts (steps (swL l) (a.drop i) (b.drop j))))] := by
  have hxne : a.drop i ≠ [] ↔ i < a.length := by simp
  have hyne : b.drop j ≠ [] ↔ j < b.length := by simp
  have hhd : ∀ l : List UInt8, l.headD 0 = l.getD 0 0 := fun l => by cases l <;> rfl
  have hgx : (a.drop i).headD 0 = a.getD i 0 := by rw [hhd]; simp [List.getD]
  have hgy : (b.drop j).headD 0 = b.getD j 0 := by rw [hhd]; simp [List.getD]
  have hst : steps (swL l) (a.drop i) (b.drop j) = (if i < a.length ∧ j < b.length ∧ a.getD i 0 = b.getD j 0 then [(⟨1, 1, 0⟩ : St)] else []) ++ l.flatMap (two (a.drop i) (b.drop j)) ++ (if i < a.length ∧ j < b.length then [⟨1, 1, 100⟩] else []) ++ (if i < a.length then [⟨1, 0, 100⟩] else []) ++ (if j < b.length then [⟨0, 1, 100⟩] else []) := by
    unfold steps
    rw [swSteps_flat]
    simp only [hxne, hyne, hgx, hgy]
  have hsa : List.take (a.length - i) (a.drop i) = a.drop i := List.take_of_length_le (by simp)
  have hsb : List.take (b.length - j) (b.drop j) = b.drop j := List.take_of_length_le (by simp)
  rw [hst]
  refine FnOk.of_vc Tryd.func47 rfl (by decide) (by simp [Tryd.f47]) [.tmp 10] rfl fun w0 T0 _ => ?_
  simp only [Tryd.f47, argEnv]
  (repeat' first | (with_reducible refine Asm.intro fun _ => ?_) | ((with_reducible refine Chk.intro ?_ ?_); (· first | omega | (with_reducible refine Chk.intro ?_ ?_ <;> omega) | (simp; done) | (simp; omega))) | (with_reducible refine AnyI.i64 fun _ _ => ?_) | ((with_reducible refine LetW.i64 ?_ ?_ ?_); (· omega); (· omega)) | ((with_reducible refine Ite.decide (fun _ => ?_) (fun _ => ?_)) <;> first | (exfalso; omega) | skip) | (with_reducible refine Ite.bool (fun _ => ?_) (fun _ => ?_)) | (with_reducible refine And.intro ?_ ?_) | omega | simp (maxSteps := 1000000) only [go_sem, reduceCtorEq, Nat.reduceLT, Nat.reduceLeDiff, reduceIte, ↓reduceIte, Nat.reduceEqDiff, Nat.reduceAdd, Nat.reduceMul, Nat.reduceSub, Int.reduceLE, Int.reduceLT, Int.reduceNeg, Int.reduceToNat])
  refine VcDraw.lex [] [] (by kernel_rfl) (by kernel_rfl) ?_
  generalize hE : (if i < a.length ∧ j < b.length ∧ a.getD i 0 = b.getD j 0 then [(⟨1, 1, 0⟩ : St)] else []) = E at *
  (repeat' first | (with_reducible refine Asm.intro fun _ => ?_) | ((with_reducible refine Chk.intro ?_ ?_); (· first | omega | (with_reducible refine Chk.intro ?_ ?_ <;> omega) | (simp; done) | (simp; omega))) | (with_reducible refine AnyI.i64 fun _ _ => ?_) | ((with_reducible refine LetW.i64 ?_ ?_ ?_); (· omega); (· omega)) | ((with_reducible refine Ite.decide (fun _ => ?_) (fun _ => ?_)) <;> first | (exfalso; omega) | skip) | (with_reducible refine Ite.bool (fun _ => ?_) (fun _ => ?_)) | (with_reducible refine And.intro ?_ ?_) | omega | simp (maxSteps := 1000000) only [go_sem, reduceCtorEq, Nat.reduceLT, Nat.reduceLeDiff, reduceIte, ↓reduceIte, Nat.reduceEqDiff, Nat.reduceAdd, Nat.reduceMul, Nat.reduceSub, Int.reduceLE, Int.reduceLT, Int.reduceNeg, Int.reduceToNat, Int.toNat_natCast])
  case' refine_2.refine_2.refine_1 =>
    rename_i hc _
    rw [if_pos ⟨by omega, by omega, UInt8.toNat_inj.1 (by omega)⟩] at hE
  case' refine_2.refine_2.refine_2 =>
    rename_i hc _
    rw [if_neg (fun h => hc ⟨⟨by omega, by omega⟩, by rw [h.2.2]⟩)] at hE
  all_goals
    have hEl : E.length ≤ 1 := by rw [← hE]; simp
    refine VcLoop.intro (fun k : Nat => ⟨118, [(41, .int .i64 k), (40, .int .i64 l.length), (39, .ro (mxs l)), (11, .own 0), (0, .str a), (1, .str b), (2, .int .i64 i), (3, .int .i64 j)], [(0, .row 90 (sts (E ++ (l.take k).flatMap (two (a.drop i) (b.drop j)))))], 1⟩) (fun k => k ≤ l.length) (fun k => l.length - k) 0 ?_ (Nat.zero_le _) fun k hk => ?_
    · refine Ent.auto0 rfl ?_ ?_ <;> simp only [go_sem, reduceCtorEq, reduceIte, Nat.reduceEqDiff, Nat.reduceLT, Nat.reduceLeDiff, Int.natCast_succ, mxs, List.take_zero, List.flatMap_nil, sts, List.length_map, St.av, zrow, List.replicate_zero, ← hE]
      all_goals rfl
    have hfl := flat_len (a.drop i) (b.drop j) (l.take k)
    by_cases hlt : k < l.length
    · have he := mx_elem l hlt
      have htk : (l.take (k + 1)).flatMap (two (a.drop i) (b.drop j)) = (l.take k).flatMap (two (a.drop i) (b.drop j)) ++ two (a.drop i) (b.drop j) (l.getD k Mx.zero) := by
        rw [List.take_succ_eq_append_getElem hlt, List.flatMap_append, getD_lt hlt]; simp
      generalize l.getD k Mx.zero = m at *
      (repeat' first | (with_reducible refine Asm.intro fun _ => ?_) | ((with_reducible refine Chk.intro ?_ ?_); (· first | omega | (with_reducible refine Chk.intro ?_ ?_ <;> omega) | (simp; done) | (simp; omega))) | (with_reducible refine AnyI.i64 fun _ _ => ?_) | ((with_reducible refine LetW.i64 ?_ ?_ ?_); (· omega); (· omega)) | ((with_reducible refine Ite.decide (fun _ => ?_) (fun _ => ?_)) <;> first | (exfalso; omega) | skip) | (with_reducible refine Ite.bool (fun _ => ?_) (fun _ => ?_)) | (with_reducible refine And.intro ?_ ?_) | omega | simp (maxSteps := 1000000) only [go_sem, reduceCtorEq, Nat.reduceLT, Nat.reduceLeDiff, reduceIte, ↓reduceIte, Nat.reduceEqDiff, Nat.reduceAdd, Nat.reduceMul, Nat.reduceSub, Int.reduceLE, Int.reduceLT, Int.reduceNeg, Int.reduceToNat, elemA, he, mxs, List.length_map])
      obtain ⟨part, hp0, hp1q, hp2q⟩ : ∃ part : Nat → List St, part 0 = [] ∧ part 1 = one (a.drop i) (b.drop j) ⟨m.f, m.t, m.c⟩ ∧ part 2 = one (a.drop i) (b.drop j) ⟨m.f, m.t, m.c⟩ ++ one (a.drop i) (b.drop j) ⟨m.t, m.f, m.c⟩ := ⟨fun q => if q = 0 then [] else if q = 1 then one (a.drop i) (b.drop j) ⟨m.f, m.t, m.c⟩ else one (a.drop i) (b.drop j) ⟨m.f, m.t, m.c⟩ ++ one (a.drop i) (b.drop j) ⟨m.t, m.f, m.c⟩, rfl, rfl, rfl⟩
      have htwo : two (a.drop i) (b.drop j) m = part 2 := hp2q.symm
      have hpl : (part 1).length ≤ 2 := by rw [hp1q]; unfold one; split <;> simp
      have hpl0 : (part 0).length ≤ 2 := by rw [hp0]; simp
      have hGl : (E ++ (l.take k).flatMap (two (a.drop i) (b.drop j))).length ≤ 3000 := by simp at hfl ⊢; omega
      rw [htwo] at htk
      generalize hG : E ++ (l.take k).flatMap (two (a.drop i) (b.drop j)) = G at *
      refine VcLoop.intro (fun q : Nat => ⟨118, [(56, .int .i64 q), (55, .agg [.str m.f, .str m.t, .str m.t, .str m.f]), (13, .ptr 1 0), (41, .int .i64 k), (40, .int .i64 l.length), (39, .ro (mxs l)), (11, .own 0), (0, .str a), (1, .str b), (2, .int .i64 i), (3, .int .i64 j)], [(0, .row 90 (sts (G ++ part q))), (1, .box 77 [.str m.f, .str m.t, .int .i64 m.c])], 2⟩) (fun q => q ≤ 2) (fun q => 2 - q) 0 ?_ (Nat.zero_le _) fun q hq => ?_
      · refine Ent.auto0 rfl ?_ ?_ <;> simp only [go_sem, reduceCtorEq, reduceIte, Nat.reduceEqDiff, Nat.reduceLT, Nat.reduceLeDiff, Int.natCast_succ, mxs, hp0, List.append_nil, Int.natCast_zero]
      rcases (by omega : q = 0 ∨ q = 1 ∨ q = 2) with rfl | rfl | rfl
      · have k1 := hasPrefix_ok (a.drop i) m.f
        have k2 := hasPrefix_ok (b.drop j) m.t
        have hone : one (a.drop i) (b.drop j) ⟨m.f, m.t, m.c⟩ = if (m.f.isPrefixOf (a.drop i) && m.t.isPrefixOf (b.drop j)) = true then [⟨m.f.length, m.t.length, m.c⟩] else [] := rfl
        (repeat' first | (with_reducible refine Asm.intro fun _ => ?_) | ((with_reducible refine Chk.intro ?_ ?_); (· first | omega | (with_reducible refine Chk.intro ?_ ?_ <;> omega) | (simp; done) | (simp; omega))) | (with_reducible refine AnyI.i64 fun _ _ => ?_) | ((with_reducible refine LetW.i64 ?_ ?_ ?_); (· omega); (· omega)) | ((with_reducible refine Ite.decide (fun _ => ?_) (fun _ => ?_)) <;> first | (exfalso; omega) | skip) | (with_reducible refine Ite.bool (fun _ => ?_) (fun _ => ?_)) | (with_reducible refine And.intro ?_ ?_) | omega | simp (maxSteps := 1000000) only [go_sem, reduceCtorEq, Nat.reduceLT, Nat.reduceLeDiff, reduceIte, ↓reduceIte, Nat.reduceEqDiff, Nat.reduceAdd, Nat.reduceMul, Nat.reduceSub, Int.reduceLE, Int.reduceLT, Int.reduceNeg, Int.reduceToNat, Int.cast_ofNat_Int, Int.natCast_zero, Int.natCast_one, Int.toNat_zero, Int.toNat_one, Int.reduceToNat, List.getD_cons_zero, List.getD_cons_succ])
        refine VcDraw.lex [] [] (by kernel_rfl) (by kernel_rfl) ?_
        (repeat' first | (with_reducible refine Asm.intro fun _ => ?_) | ((with_reducible refine Chk.intro ?_ ?_); (· first | omega | (with_reducible refine Chk.intro ?_ ?_ <;> omega) | (simp; done) | (simp; omega))) | (with_reducible refine AnyI.i64 fun _ _ => ?_) | ((with_reducible refine LetW.i64 ?_ ?_ ?_); (· omega); (· omega)) | ((with_reducible refine Ite.decide (fun _ => ?_) (fun _ => ?_)) <;> first | (exfalso; omega) | skip) | (with_reducible refine Ite.bool (fun _ => ?_) (fun _ => ?_)) | (with_reducible refine And.intro ?_ ?_) | omega | simp (maxSteps := 1000000) only [go_sem, reduceCtorEq, Nat.reduceLT, Nat.reduceLeDiff, reduceIte, ↓reduceIte, Nat.reduceEqDiff, Nat.reduceAdd, Nat.reduceMul, Nat.reduceSub, Int.reduceLE, Int.reduceLT, Int.reduceNeg, Int.reduceToNat, hsa, hsb, Int.toNat_natCast])
        refine QV.intro (.bool (m.f.isPrefixOf (a.drop i))) ?_ ?_
        · (repeat' first | (with_reducible refine Asm.intro fun _ => ?_) | ((with_reducible refine Chk.intro ?_ ?_); (· first | omega | (with_reducible refine Chk.intro ?_ ?_ <;> omega) | (simp; done) | (simp; omega))) | (with_reducible refine AnyI.i64 fun _ _ => ?_) | ((with_reducible refine LetW.i64 ?_ ?_ ?_); (· omega); (· omega)) | ((with_reducible refine Ite.decide (fun _ => ?_) (fun _ => ?_)) <;> first | (exfalso; omega) | skip) | (with_reducible refine Ite.bool (fun _ => ?_) (fun _ => ?_)) | (with_reducible refine And.intro ?_ ?_) | omega | simp (maxSteps := 1000000) only [go_sem, reduceCtorEq, Nat.reduceLT, Nat.reduceLeDiff, reduceIte, ↓reduceIte, Nat.reduceEqDiff, Nat.reduceAdd, Nat.reduceMul, Nat.reduceSub, Int.reduceLE, Int.reduceLT, Int.reduceNeg, Int.reduceToNat])
          refine VcCall.fr (FnFr.of_ok k1 rfl rfl) (by simp only [noIdR_ok, argOkL, argOk, allOk, argOkN, List.drop_zero, lk, reduceIte, reduceCtorEq, Nat.reduceEqDiff, Option.some.injEq, Item.row.injEq, Item.box.injEq, AV.ro.injEq, exists_eq_left, exists_and_left, exists_eq_left', exists_eq_right, and_assoc, and_true, true_and, List.cons.injEq, exists_eq', exists_eq]) 0 rfl (by simp [rowsB]) ?_
          (repeat' first | (with_reducible refine Asm.intro fun _ => ?_) | ((with_reducible refine Chk.intro ?_ ?_); (· first | omega | (with_reducible refine Chk.intro ?_ ?_ <;> omega) | (simp; done) | (simp; omega))) | (with_reducible refine AnyI.i64 fun _ _ => ?_) | ((with_reducible refine LetW.i64 ?_ ?_ ?_); (· omega); (· omega)) | ((with_reducible refine Ite.decide (fun _ => ?_) (fun _ => ?_)) <;> first | (exfalso; omega) | skip) | (with_reducible refine Ite.bool (fun _ => ?_) (fun _ => ?_)) | (with_reducible refine And.intro ?_ ?_) | omega | simp (maxSteps := 1000000) only [go_sem, reduceCtorEq, Nat.reduceLT, Nat.reduceLeDiff, reduceIte, ↓reduceIte, Nat.reduceEqDiff, Nat.reduceAdd, Nat.reduceMul, Nat.reduceSub, Int.reduceLE, Int.reduceLT, Int.reduceNeg, Int.reduceToNat])
        cases hp1 : m.f.isPrefixOf (a.drop i) with
        | false =>
          rw [hp1, Bool.false_and] at hone
          (repeat' first | (with_reducible refine Asm.intro fun _ => ?_) | ((with_reducible refine Chk.intro ?_ ?_); (· first | omega | (with_reducible refine Chk.intro ?_ ?_ <;> omega) | (simp; done) | (simp; omega))) | (with_reducible refine AnyI.i64 fun _ _ => ?_) | ((with_reducible refine LetW.i64 ?_ ?_ ?_); (· omega); (· omega)) | ((with_reducible refine Ite.decide (fun _ => ?_) (fun _ => ?_)) <;> first | (exfalso; omega) | skip) | (with_reducible refine Ite.bool (fun _ => ?_) (fun _ => ?_)) | (with_reducible refine And.intro ?_ ?_) | omega | simp (maxSteps := 1000000) only [go_sem, reduceCtorEq, Nat.reduceLT, Nat.reduceLeDiff, reduceIte, ↓reduceIte, Nat.reduceEqDiff, Nat.reduceAdd, Nat.reduceMul, Nat.reduceSub, Int.reduceLE, Int.reduceLT, Int.reduceNeg, Int.reduceToNat, hsa, hsb, Int.toNat_natCast])
          refine QV.intro (.bool false) ?_ ?_
          · (repeat' first | (with_reducible refine Asm.intro fun _ => ?_) | ((with_reducible refine Chk.intro ?_ ?_); (· first | omega | (with_reducible refine Chk.intro ?_ ?_ <;> omega) | (simp; done) | (simp; omega))) | (with_reducible refine AnyI.i64 fun _ _ => ?_) | ((with_reducible refine LetW.i64 ?_ ?_ ?_); (· omega); (· omega)) | ((with_reducible refine Ite.decide (fun _ => ?_) (fun _ => ?_)) <;> first | (exfalso; omega) | skip) | (with_reducible refine Ite.bool (fun _ => ?_) (fun _ => ?_)) | (with_reducible refine And.intro ?_ ?_) | omega | simp (maxSteps := 1000000) only [go_sem, reduceCtorEq, Nat.reduceLT, Nat.reduceLeDiff, reduceIte, ↓reduceIte, Nat.reduceEqDiff, Nat.reduceAdd, Nat.reduceMul, Nat.reduceSub, Int.reduceLE, Int.reduceLT, Int.reduceNeg, Int.reduceToNat])
          (repeat' first | (with_reducible refine Asm.intro fun _ => ?_) | ((with_reducible refine Chk.intro ?_ ?_); (· first | omega | (with_reducible refine Chk.intro ?_ ?_ <;> omega) | (simp; done) | (simp; omega))) | (with_reducible refine AnyI.i64 fun _ _ => ?_) | ((with_reducible refine LetW.i64 ?_ ?_ ?_); (· omega); (· omega)) | ((with_reducible refine Ite.decide (fun _ => ?_) (fun _ => ?_)) <;> first | (exfalso; omega) | skip) | (with_reducible refine Ite.bool (fun _ => ?_) (fun _ => ?_)) | (with_reducible refine And.intro ?_ ?_) | omega | simp (maxSteps := 1000000) only [go_sem, reduceCtorEq, Nat.reduceLT, Nat.reduceLeDiff, reduceIte, ↓reduceIte, Nat.reduceEqDiff, Nat.reduceAdd, Nat.reduceMul, Nat.reduceSub, Int.reduceLE, Int.reduceLT, Int.reduceNeg, Int.reduceToNat])
          refine ⟨1, Ent.auto0 rfl ?_ ?_, by omega, by omega⟩ <;> simp only [go_sem, reduceCtorEq, reduceIte, Nat.reduceEqDiff, Nat.reduceLT, Nat.reduceLeDiff, Int.natCast_succ, mxs, hp0, hp1q, hone, List.append_nil, Bool.false_eq_true, if_false]
          all_goals rfl
        | true =>
          have hl1 := prefix_len hp1
          rw [hp1, Bool.true_and] at hone
          (repeat' first | (with_reducible refine Asm.intro fun _ => ?_) | ((with_reducible refine Chk.intro ?_ ?_); (· first | omega | (with_reducible refine Chk.intro ?_ ?_ <;> omega) | (simp; done) | (simp; omega))) | (with_reducible refine AnyI.i64 fun _ _ => ?_) | ((with_reducible refine LetW.i64 ?_ ?_ ?_); (· omega); (· omega)) | ((with_reducible refine Ite.decide (fun _ => ?_) (fun _ => ?_)) <;> first | (exfalso; omega) | skip) | (with_reducible refine Ite.bool (fun _ => ?_) (fun _ => ?_)) | (with_reducible refine And.intro ?_ ?_) | omega | simp (maxSteps := 1000000) only [go_sem, reduceCtorEq, Nat.reduceLT, Nat.reduceLeDiff, reduceIte, ↓reduceIte, Nat.reduceEqDiff, Nat.reduceAdd, Nat.reduceMul, Nat.reduceSub, Int.reduceLE, Int.reduceLT, Int.reduceNeg, Int.reduceToNat, hsa, hsb, Int.toNat_natCast])
          refine QV.intro (.bool (m.t.isPrefixOf (b.drop j))) ?_ ?_
          · (repeat' first | (with_reducible refine Asm.intro fun _ => ?_) | ((with_reducible refine Chk.intro ?_ ?_); (· first | omega | (with_reducible refine Chk.intro ?_ ?_ <;> omega) | (simp; done) | (simp; omega))) | (with_reducible refine AnyI.i64 fun _ _ => ?_) | ((with_reducible refine LetW.i64 ?_ ?_ ?_); (· omega); (· omega)) | ((with_reducible refine Ite.decide (fun _ => ?_) (fun _ => ?_)) <;> first | (exfalso; omega) | skip) | (with_reducible refine Ite.bool (fun _ => ?_) (fun _ => ?_)) | (with_reducible refine And.intro ?_ ?_) | omega | simp (maxSteps := 1000000) only [go_sem, reduceCtorEq, Nat.reduceLT, Nat.reduceLeDiff, reduceIte, ↓reduceIte, Nat.reduceEqDiff, Nat.reduceAdd, Nat.reduceMul, Nat.reduceSub, Int.reduceLE, Int.reduceLT, Int.reduceNeg, Int.reduceToNat, hsa, hsb, Int.toNat_natCast])
            refine VcCall.fr (FnFr.of_ok k2 rfl rfl) (by simp only [noIdR_ok, argOkL, argOk, allOk, argOkN, List.drop_zero, lk, reduceIte, reduceCtorEq, Nat.reduceEqDiff, Option.some.injEq, Item.row.injEq, Item.box.injEq, AV.ro.injEq, exists_eq_left, exists_and_left, exists_eq_left', exists_eq_right, and_assoc, and_true, true_and, List.cons.injEq, exists_eq', exists_eq]) 0 rfl (by simp [rowsB]) ?_
            (repeat' first | (with_reducible refine Asm.intro fun _ => ?_) | ((with_reducible refine Chk.intro ?_ ?_); (· first | omega | (with_reducible refine Chk.intro ?_ ?_ <;> omega) | (simp; done) | (simp; omega))) | (with_reducible refine AnyI.i64 fun _ _ => ?_) | ((with_reducible refine LetW.i64 ?_ ?_ ?_); (· omega); (· omega)) | ((with_reducible refine Ite.decide (fun _ => ?_) (fun _ => ?_)) <;> first | (exfalso; omega) | skip) | (with_reducible refine Ite.bool (fun _ => ?_) (fun _ => ?_)) | (with_reducible refine And.intro ?_ ?_) | omega | simp (maxSteps := 1000000) only [go_sem, reduceCtorEq, Nat.reduceLT, Nat.reduceLeDiff, reduceIte, ↓reduceIte, Nat.reduceEqDiff, Nat.reduceAdd, Nat.reduceMul, Nat.reduceSub, Int.reduceLE, Int.reduceLT, Int.reduceNeg, Int.reduceToNat])
          cases hp2 : m.t.isPrefixOf (b.drop j) with
          | false =>
            rw [hp2] at hone
            (repeat' first | (with_reducible refine Asm.intro fun _ => ?_) | ((with_reducible refine Chk.intro ?_ ?_); (· first | omega | (with_reducible refine Chk.intro ?_ ?_ <;> omega) | (simp; done) | (simp; omega))) | (with_reducible refine AnyI.i64 fun _ _ => ?_) | ((with_reducible refine LetW.i64 ?_ ?_ ?_); (· omega); (· omega)) | ((with_reducible refine Ite.decide (fun _ => ?_) (fun _ => ?_)) <;> first | (exfalso; omega) | skip) | (with_reducible refine Ite.bool (fun _ => ?_) (fun _ => ?_)) | (with_reducible refine And.intro ?_ ?_) | omega | simp (maxSteps := 1000000) only [go_sem, reduceCtorEq, Nat.reduceLT, Nat.reduceLeDiff, reduceIte, ↓reduceIte, Nat.reduceEqDiff, Nat.reduceAdd, Nat.reduceMul, Nat.reduceSub, Int.reduceLE, Int.reduceLT, Int.reduceNeg, Int.reduceToNat])
            refine ⟨1, Ent.auto0 rfl ?_ ?_, by omega, by omega⟩ <;> simp only [go_sem, reduceCtorEq, reduceIte, Nat.reduceEqDiff, Nat.reduceLT, Nat.reduceLeDiff, Int.natCast_succ, mxs, hp0, hp1q, hone, List.append_nil, Bool.false_eq_true, if_false]
            all_goals rfl
          | true =>
            rw [hp2] at hone
            simp only [if_true] at hone
            have hsn := sts_snoc (G ++ part 0) m.f.length m.t.length m.c
            (repeat' first | (with_reducible refine Asm.intro fun _ => ?_) | ((with_reducible refine Chk.intro ?_ ?_); (· first | omega | (with_reducible refine Chk.intro ?_ ?_ <;> omega) | (simp; done) | (simp; omega))) | (with_reducible refine AnyI.i64 fun _ _ => ?_) | ((with_reducible refine LetW.i64 ?_ ?_ ?_); (· omega); (· omega)) | ((with_reducible refine Ite.decide (fun _ => ?_) (fun _ => ?_)) <;> first | (exfalso; omega) | skip) | (with_reducible refine Ite.bool (fun _ => ?_) (fun _ => ?_)) | (with_reducible refine And.intro ?_ ?_) | omega | simp (maxSteps := 1000000) only [go_sem, reduceCtorEq, Nat.reduceLT, Nat.reduceLeDiff, reduceIte, ↓reduceIte, Nat.reduceEqDiff, Nat.reduceAdd, Nat.reduceMul, Nat.reduceSub, Int.reduceLE, Int.reduceLT, Int.reduceNeg, Int.reduceToNat, sts, hsn, List.length_map, Int.toNat_zero, Int.toNat_one, List.drop_zero])
            refine ⟨1, Ent.auto0 rfl ?_ ?_, by omega, by omega⟩ <;> simp only [go_sem, reduceCtorEq, reduceIte, Nat.reduceEqDiff, Nat.reduceLT, Nat.reduceLeDiff, Int.natCast_succ, mxs, sts, hp0, hp1q, hone, List.append_nil, List.append_assoc]
            all_goals rfl
      · have k1 := hasPrefix_ok (a.drop i) m.t
        have k2 := hasPrefix_ok (b.drop j) m.f
        have hone : one (a.drop i) (b.drop j) ⟨m.t, m.f, m.c⟩ = if (m.t.isPrefixOf (a.drop i) && m.f.isPrefixOf (b.drop j)) = true then [⟨m.t.length, m.f.length, m.c⟩] else [] := rfl
        (repeat' first | (with_reducible refine Asm.intro fun _ => ?_) | ((with_reducible refine Chk.intro ?_ ?_); (· first | omega | (with_reducible refine Chk.intro ?_ ?_ <;> omega) | (simp; done) | (simp; omega))) | (with_reducible refine AnyI.i64 fun _ _ => ?_) | ((with_reducible refine LetW.i64 ?_ ?_ ?_); (· omega); (· omega)) | ((with_reducible refine Ite.decide (fun _ => ?_) (fun _ => ?_)) <;> first | (exfalso; omega) | skip) | (with_reducible refine Ite.bool (fun _ => ?_) (fun _ => ?_)) | (with_reducible refine And.intro ?_ ?_) | omega | simp (maxSteps := 1000000) only [go_sem, reduceCtorEq, Nat.reduceLT, Nat.reduceLeDiff, reduceIte, ↓reduceIte, Nat.reduceEqDiff, Nat.reduceAdd, Nat.reduceMul, Nat.reduceSub, Int.reduceLE, Int.reduceLT, Int.reduceNeg, Int.reduceToNat, Int.cast_ofNat_Int, Int.natCast_zero, Int.natCast_one, Int.toNat_zero, Int.toNat_one, Int.reduceToNat, List.getD_cons_zero, List.getD_cons_succ])
        refine VcDraw.lex [] [] (by kernel_rfl) (by kernel_rfl) ?_
        (repeat' first | (with_reducible refine Asm.intro fun _ => ?_) | ((with_reducible refine Chk.intro ?_ ?_); (· first | omega | (with_reducible refine Chk.intro ?_ ?_ <;> omega) | (simp; done) | (simp; omega))) | (with_reducible refine AnyI.i64 fun _ _ => ?_) | ((with_reducible refine LetW.i64 ?_ ?_ ?_); (· omega); (· omega)) | ((with_reducible refine Ite.decide (fun _ => ?_) (fun _ => ?_)) <;> first | (exfalso; omega) | skip) | (with_reducible refine Ite.bool (fun _ => ?_) (fun _ => ?_)) | (with_reducible refine And.intro ?_ ?_) | omega | simp (maxSteps := 1000000) only [go_sem, reduceCtorEq, Nat.reduceLT, Nat.reduceLeDiff, reduceIte, ↓reduceIte, Nat.reduceEqDiff, Nat.reduceAdd, Nat.reduceMul, Nat.reduceSub, Int.reduceLE, Int.reduceLT, Int.reduceNeg, Int.reduceToNat, hsa, hsb, Int.toNat_natCast])
        refine QV.intro (.bool (m.t.isPrefixOf (a.drop i))) ?_ ?_
        · (repeat' first | (with_reducible refine Asm.intro fun _ => ?_) | ((with_reducible refine Chk.intro ?_ ?_); (· first | omega | (with_reducible refine Chk.intro ?_ ?_ <;> omega) | (simp; done) | (simp; omega))) | (with_reducible refine AnyI.i64 fun _ _ => ?_) | ((with_reducible refine LetW.i64 ?_ ?_ ?_); (· omega); (· omega)) | ((with_reducible refine Ite.decide (fun _ => ?_) (fun _ => ?_)) <;> first | (exfalso; omega) | skip) | (with_reducible refine Ite.bool (fun _ => ?_) (fun _ => ?_)) | (with_reducible refine And.intro ?_ ?_) | omega | simp (maxSteps := 1000000) only [go_sem, reduceCtorEq, Nat.reduceLT, Nat.reduceLeDiff, reduceIte, ↓reduceIte, Nat.reduceEqDiff, Nat.reduceAdd, Nat.reduceMul, Nat.reduceSub, Int.reduceLE, Int.reduceLT, Int.reduceNeg, Int.reduceToNat])
          refine VcCall.fr (FnFr.of_ok k1 rfl rfl) (by simp only [noIdR_ok, argOkL, argOk, allOk, argOkN, List.drop_zero, lk, reduceIte, reduceCtorEq, Nat.reduceEqDiff, Option.some.injEq, Item.row.injEq, Item.box.injEq, AV.ro.injEq, exists_eq_left, exists_and_left, exists_eq_left', exists_eq_right, and_assoc, and_true, true_and, List.cons.injEq, exists_eq', exists_eq]) 0 rfl (by simp [rowsB]) ?_
          (repeat' first | (with_reducible refine Asm.intro fun _ => ?_) | ((with_reducible refine Chk.intro ?_ ?_); (· first | omega | (with_reducible refine Chk.intro ?_ ?_ <;> omega) | (simp; done) | (simp; omega))) | (with_reducible refine AnyI.i64 fun _ _ => ?_) | ((with_reducible refine LetW.i64 ?_ ?_ ?_); (· omega); (· omega)) | ((with_reducible refine Ite.decide (fun _ => ?_) (fun _ => ?_)) <;> first | (exfalso; omega) | skip) | (with_reducible refine Ite.bool (fun _ => ?_) (fun _ => ?_)) | (with_reducible refine And.intro ?_ ?_) | omega | simp (maxSteps := 1000000) only [go_sem, reduceCtorEq, Nat.reduceLT, Nat.reduceLeDiff, reduceIte, ↓reduceIte, Nat.reduceEqDiff, Nat.reduceAdd, Nat.reduceMul, Nat.reduceSub, Int.reduceLE, Int.reduceLT, Int.reduceNeg, Int.reduceToNat])
        cases hp1 : m.t.isPrefixOf (a.drop i) with
        | false =>
          rw [hp1, Bool.false_and] at hone
          (repeat' first | (with_reducible refine Asm.intro fun _ => ?_) | ((with_reducible refine Chk.intro ?_ ?_); (· first | omega | (with_reducible refine Chk.intro ?_ ?_ <;> omega) | (simp; done) | (simp; omega))) | (with_reducible refine AnyI.i64 fun _ _ => ?_) | ((with_reducible refine LetW.i64 ?_ ?_ ?_); (· omega); (· omega)) | ((with_reducible refine Ite.decide (fun _ => ?_) (fun _ => ?_)) <;> first | (exfalso; omega) | skip) | (with_reducible refine Ite.bool (fun _ => ?_) (fun _ => ?_)) | (with_reducible refine And.intro ?_ ?_) | omega | simp (maxSteps := 1000000) only [go_sem, reduceCtorEq, Nat.reduceLT, Nat.reduceLeDiff, reduceIte, ↓reduceIte, Nat.reduceEqDiff, Nat.reduceAdd, Nat.reduceMul, Nat.reduceSub, Int.reduceLE, Int.reduceLT, Int.reduceNeg, Int.reduceToNat, hsa, hsb, Int.toNat_natCast])
          refine QV.intro (.bool false) ?_ ?_
          · (repeat' first | (with_reducible refine Asm.intro fun _ => ?_) | ((with_reducible refine Chk.intro ?_ ?_); (· first | omega | (with_reducible refine Chk.intro ?_ ?_ <;> omega) | (simp; done) | (simp; omega))) | (with_reducible refine AnyI.i64 fun _ _ => ?_) | ((with_reducible refine LetW.i64 ?_ ?_ ?_); (· omega); (· omega)) | ((with_reducible refine Ite.decide (fun _ => ?_) (fun _ => ?_)) <;> first | (exfalso; omega) | skip) | (with_reducible refine Ite.bool (fun _ => ?_) (fun _ => ?_)) | (with_reducible refine And.intro ?_ ?_) | omega | simp (maxSteps := 1000000) only [go_sem, reduceCtorEq, Nat.reduceLT, Nat.reduceLeDiff, reduceIte, ↓reduceIte, Nat.reduceEqDiff, Nat.reduceAdd, Nat.reduceMul, Nat.reduceSub, Int.reduceLE, Int.reduceLT, Int.reduceNeg, Int.reduceToNat])
          (repeat' first | (with_reducible refine Asm.intro fun _ => ?_) | ((with_reducible refine Chk.intro ?_ ?_); (· first | omega | (with_reducible refine Chk.intro ?_ ?_ <;> omega) | (simp; done) | (simp; omega))) | (with_reducible refine AnyI.i64 fun _ _ => ?_) | ((with_reducible refine LetW.i64 ?_ ?_ ?_); (· omega); (· omega)) | ((with_reducible refine Ite.decide (fun _ => ?_) (fun _ => ?_)) <;> first | (exfalso; omega) | skip) | (with_reducible refine Ite.bool (fun _ => ?_) (fun _ => ?_)) | (with_reducible refine And.intro ?_ ?_) | omega | simp (maxSteps := 1000000) only [go_sem, reduceCtorEq, Nat.reduceLT, Nat.reduceLeDiff, reduceIte, ↓reduceIte, Nat.reduceEqDiff, Nat.reduceAdd, Nat.reduceMul, Nat.reduceSub, Int.reduceLE, Int.reduceLT, Int.reduceNeg, Int.reduceToNat])
          refine ⟨2, Ent.auto0 rfl ?_ ?_, by omega, by omega⟩ <;> simp only [go_sem, reduceCtorEq, reduceIte, Nat.reduceEqDiff, Nat.reduceLT, Nat.reduceLeDiff, Int.natCast_succ, mxs, hp1q, hp2q, hone, List.append_nil, Bool.false_eq_true, if_false]
          all_goals rfl
        | true =>
          have hl1 := prefix_len hp1
          rw [hp1, Bool.true_and] at hone
          (repeat' first | (with_reducible refine Asm.intro fun _ => ?_) | ((with_reducible refine Chk.intro ?_ ?_); (· first | omega | (with_reducible refine Chk.intro ?_ ?_ <;> omega) | (simp; done) | (simp; omega))) | (with_reducible refine AnyI.i64 fun _ _ => ?_) | ((with_reducible refine LetW.i64 ?_ ?_ ?_); (· omega); (· omega)) | ((with_reducible refine Ite.decide (fun _ => ?_) (fun _ => ?_)) <;> first | (exfalso; omega) | skip) | (with_reducible refine Ite.bool (fun _ => ?_) (fun _ => ?_)) | (with_reducible refine And.intro ?_ ?_) | omega | simp (maxSteps := 1000000) only [go_sem, reduceCtorEq, Nat.reduceLT, Nat.reduceLeDiff, reduceIte, ↓reduceIte, Nat.reduceEqDiff, Nat.reduceAdd, Nat.reduceMul, Nat.reduceSub, Int.reduceLE, Int.reduceLT, Int.reduceNeg, Int.reduceToNat, hsa, hsb, Int.toNat_natCast])
          refine QV.intro (.bool (m.f.isPrefixOf (b.drop j))) ?_ ?_
          · (repeat' first | (with_reducible refine Asm.intro fun _ => ?_) | ((with_reducible refine Chk.intro ?_ ?_); (· first | omega | (with_reducible refine Chk.intro ?_ ?_ <;> omega) | (simp; done) | (simp; omega))) | (with_reducible refine AnyI.i64 fun _ _ => ?_) | ((with_reducible refine LetW.i64 ?_ ?_ ?_); (· omega); (· omega)) | ((with_reducible refine Ite.decide (fun _ => ?_) (fun _ => ?_)) <;> first | (exfalso; omega) | skip) | (with_reducible refine Ite.bool (fun _ => ?_) (fun _ => ?_)) | (with_reducible refine And.intro ?_ ?_) | omega | simp (maxSteps := 1000000) only [go_sem, reduceCtorEq, Nat.reduceLT, Nat.reduceLeDiff, reduceIte, ↓reduceIte, Nat.reduceEqDiff, Nat.reduceAdd, Nat.reduceMul, Nat.reduceSub, Int.reduceLE, Int.reduceLT, Int.reduceNeg, Int.reduceToNat, hsa, hsb, Int.toNat_natCast])
            refine VcCall.fr (FnFr.of_ok k2 rfl rfl) (by simp only [noIdR_ok, argOkL, argOk, allOk, argOkN, List.drop_zero, lk, reduceIte, reduceCtorEq, Nat.reduceEqDiff, Option.some.injEq, Item.row.injEq, Item.box.injEq, AV.ro.injEq, exists_eq_left, exists_and_left, exists_eq_left', exists_eq_right, and_assoc, and_true, true_and, List.cons.injEq, exists_eq', exists_eq]) 0 rfl (by simp [rowsB]) ?_
            (repeat' first | (with_reducible refine Asm.intro fun _ => ?_) | ((with_reducible refine Chk.intro ?_ ?_); (· first | omega | (with_reducible refine Chk.intro ?_ ?_ <;> omega) | (simp; done) | (simp; omega))) | (with_reducible refine AnyI.i64 fun _ _ => ?_) | ((with_reducible refine LetW.i64 ?_ ?_ ?_); (· omega); (· omega)) | ((with_reducible refine Ite.decide (fun _ => ?_) (fun _ => ?_)) <;> first | (exfalso; omega) | skip) | (with_reducible refine Ite.bool (fun _ => ?_) (fun _ => ?_)) | (with_reducible refine And.intro ?_ ?_) | omega | simp (maxSteps := 1000000) only [go_sem, reduceCtorEq, Nat.reduceLT, Nat.reduceLeDiff, reduceIte, ↓reduceIte, Nat.reduceEqDiff, Nat.reduceAdd, Nat.reduceMul, Nat.reduceSub, Int.reduceLE, Int.reduceLT, Int.reduceNeg, Int.reduceToNat])
          cases hp2 : m.f.isPrefixOf (b.drop j) with
          | false =>
            rw [hp2] at hone
            (repeat' first | (with_reducible refine Asm.intro fun _ => ?_) | ((with_reducible refine Chk.intro ?_ ?_); (· first | omega | (with_reducible refine Chk.intro ?_ ?_ <;> omega) | (simp; done) | (simp; omega))) | (with_reducible refine AnyI.i64 fun _ _ => ?_) | ((with_reducible refine LetW.i64 ?_ ?_ ?_); (· omega); (· omega)) | ((with_reducible refine Ite.decide (fun _ => ?_) (fun _ => ?_)) <;> first | (exfalso; omega) | skip) | (with_reducible refine Ite.bool (fun _ => ?_) (fun _ => ?_)) | (with_reducible refine And.intro ?_ ?_) | omega | simp (maxSteps := 1000000) only [go_sem, reduceCtorEq, Nat.reduceLT, Nat.reduceLeDiff, reduceIte, ↓reduceIte, Nat.reduceEqDiff, Nat.reduceAdd, Nat.reduceMul, Nat.reduceSub, Int.reduceLE, Int.reduceLT, Int.reduceNeg, Int.reduceToNat])
            refine ⟨2, Ent.auto0 rfl ?_ ?_, by omega, by omega⟩ <;> simp only [go_sem, reduceCtorEq, reduceIte, Nat.reduceEqDiff, Nat.reduceLT, Nat.reduceLeDiff, Int.natCast_succ, mxs, hp1q, hp2q, hone, List.append_nil, Bool.false_eq_true, if_false]
            all_goals rfl
          | true =>
            rw [hp2] at hone
            simp only [if_true] at hone
            have hsn := sts_snoc (G ++ part 1) m.t.length m.f.length m.c
            (repeat' first | (with_reducible refine Asm.intro fun _ => ?_) | ((with_reducible refine Chk.intro ?_ ?_); (· first | omega | (with_reducible refine Chk.intro ?_ ?_ <;> omega) | (simp; done) | (simp; omega))) | (with_reducible refine AnyI.i64 fun _ _ => ?_) | ((with_reducible refine LetW.i64 ?_ ?_ ?_); (· omega); (· omega)) | ((with_reducible refine Ite.decide (fun _ => ?_) (fun _ => ?_)) <;> first | (exfalso; omega) | skip) | (with_reducible refine Ite.bool (fun _ => ?_) (fun _ => ?_)) | (with_reducible refine And.intro ?_ ?_) | omega | simp (maxSteps := 1000000) only [go_sem, reduceCtorEq, Nat.reduceLT, Nat.reduceLeDiff, reduceIte, ↓reduceIte, Nat.reduceEqDiff, Nat.reduceAdd, Nat.reduceMul, Nat.reduceSub, Int.reduceLE, Int.reduceLT, Int.reduceNeg, Int.reduceToNat, sts, hsn, List.length_map, Int.toNat_zero, Int.toNat_one, List.drop_zero])
            refine ⟨2, Ent.auto0 rfl ?_ ?_, by omega, by omega⟩ <;> simp only [go_sem, reduceCtorEq, reduceIte, Nat.reduceEqDiff, Nat.reduceLT, Nat.reduceLeDiff, Int.natCast_succ, mxs, sts, hp1q, hp2q, hone, List.append_nil, List.append_assoc]
            all_goals rfl
      · (repeat' first | (with_reducible refine Asm.intro fun _ => ?_) | ((with_reducible refine Chk.intro ?_ ?_); (· first | omega | (with_reducible refine Chk.intro ?_ ?_ <;> omega) | (simp; done) | (simp; omega))) | (with_reducible refine AnyI.i64 fun _ _ => ?_) | ((with_reducible refine LetW.i64 ?_ ?_ ?_); (· omega); (· omega)) | ((with_reducible refine Ite.decide (fun _ => ?_) (fun _ => ?_)) <;> first | (exfalso; omega) | skip) | (with_reducible refine Ite.bool (fun _ => ?_) (fun _ => ?_)) | (with_reducible refine And.intro ?_ ?_) | omega | simp (maxSteps := 1000000) only [go_sem, reduceCtorEq, Nat.reduceLT, Nat.reduceLeDiff, reduceIte, ↓reduceIte, Nat.reduceEqDiff, Nat.reduceAdd, Nat.reduceMul, Nat.reduceSub, Int.reduceLE, Int.reduceLT, Int.reduceNeg, Int.reduceToNat, Int.cast_ofNat_Int])
        refine ⟨k + 1, Ent.auto0 rfl ?_ ?_, by omega, by omega⟩ <;> simp only [go_sem, reduceCtorEq, reduceIte, Nat.reduceEqDiff, Nat.reduceLT, Nat.reduceLeDiff, Int.natCast_succ, mxs, htk, ← hG, List.append_assoc]
    · have ek : k = l.length := by omega
      subst ek
      rw [List.take_length] at *
      clear hst
      have hGl : (E ++ l.flatMap (two (a.drop i) (b.drop j))).length ≤ 3000 := by simp at hfl ⊢; omega
      generalize E ++ l.flatMap (two (a.drop i) (b.drop j)) = G at *
      (repeat' first | (with_reducible refine Asm.intro fun _ => ?_) | ((with_reducible refine Chk.intro ?_ ?_); (· first | omega | (with_reducible refine Chk.intro ?_ ?_ <;> omega) | (simp; done) | (simp; omega))) | (with_reducible refine AnyI.i64 fun _ _ => ?_) | ((with_reducible refine LetW.i64 ?_ ?_ ?_); (· omega); (· omega)) | ((with_reducible refine Ite.decide (fun _ => ?_) (fun _ => ?_)) <;> first | (exfalso; omega) | skip) | (with_reducible refine Ite.bool (fun _ => ?_) (fun _ => ?_)) | (with_reducible refine And.intro ?_ ?_) | omega | simp (maxSteps := 1000000) only [go_sem, reduceCtorEq, Nat.reduceLT, Nat.reduceLeDiff, reduceIte, ↓reduceIte, Nat.reduceEqDiff, Nat.reduceAdd, Nat.reduceMul, Nat.reduceSub, Int.reduceLE, Int.reduceLT, Int.reduceNeg, Int.reduceToNat, mxs, List.length_map, sts])
      all_goals
        by_cases hi2 : i < a.length <;> by_cases hj2 : j < b.length <;> first
          | (exfalso; omega)
          | (refine Ret.auto 1 ?_ rfl ?_ <;> simp only [go_sem, reduceCtorEq, reduceIte, Nat.reduceEqDiff, Nat.reduceLT, Nat.reduceLeDiff, Int.natCast_succ, Post, hi2, hj2, List.map_append, St.av, List.append_assoc, Int.natCast_zero, Int.natCast_one, if_true, if_false])
        all_goals rfl
end Go.Fv.W

/- The table of the reference, row by row, in plain words. -/

namespace Go.Fv.W
open Go
set_option linter.unusedSimpArgs false
set_option linter.unusedVariables false
set_option linter.unnecessarySimpa false

/-- A row from column c on. -/
def rowF (sw : List Sw) (a b : List UInt8) (q c : Nat) : List Int := (List.range (b.length + 1)).map fun j => if c ≤ j then dist sw (a.drop q) (b.drop j) else 0
def costL (sw : List Sw) (a b : List UInt8) (r : Nat) : List (List AV) := (List.range (a.length + 1)).map fun q => if r ≤ q then [.ro (.ints .i64 (rowF sw a b q 0))] else [.nilS]
theorem rowF_len (sw : List Sw) (a b : List UInt8) (q c : Nat) : (rowF sw a b q c).length = b.length + 1 := by simp [rowF]
theorem rowF_get {sw : List Sw} {a b : List UInt8} {q c j : Nat} (h : j < b.length + 1) (hc : c ≤ j) : (rowF sw a b q c).getD j 0 = dist sw (a.drop q) (b.drop j) := by
  rw [getD_lt (by rw [rowF_len]; exact h)]; simp [rowF, hc]
theorem rowF_all (sw : List Sw) (a b : List UInt8) (q : Nat) : rowF sw a b q (b.length + 1) = List.replicate (b.length + 1) 0 := by
  refine List.ext_getElem (by simp [rowF]) fun i h1 h2 => ?_
  simp only [rowF, List.length_map, List.length_range] at h1
  simp [rowF]; omega
theorem rowF_set {sw : List Sw} {a b : List UInt8} {q c : Nat} {v : Int} (hv : v = dist sw (a.drop q) (b.drop c)) : (rowF sw a b q (c + 1)).set c v = rowF sw a b q c := by
  refine List.ext_getElem (by simp [rowF]) fun i h1 h2 => ?_
  rw [List.getElem_set]
  split
  · rename_i e; subst e; simp [rowF, hv]
  · rename_i e
    simp only [rowF, List.getElem_map, List.getElem_range]
    by_cases h : c ≤ i
    · rw [if_pos (by omega), if_pos h]
    · rw [if_neg (by omega), if_neg h]
theorem rowF_zero {sw : List Sw} {a b : List UInt8} {q c : Nat} (hv : dist sw (a.drop q) (b.drop c) = 0) : rowF sw a b q (c + 1) = rowF sw a b q c := by
  refine List.ext_getElem (by simp [rowF]) fun i h1 h2 => ?_
  simp only [rowF, List.getElem_map, List.getElem_range]
  by_cases h : c + 1 ≤ i
  · rw [if_pos h, if_pos (by omega)]
  · rw [if_neg h]
    by_cases e : c = i
    · subst e; rw [if_pos (Nat.le_refl _), hv]
    · rw [if_neg (by omega)]
theorem costL_len (sw : List Sw) (a b : List UInt8) (r : Nat) : (costL sw a b r).length = a.length + 1 := by simp [costL]
theorem costL_get {sw : List Sw} {a b : List UInt8} {r q : Nat} (h : q < a.length + 1) (hr : r ≤ q) : (costL sw a b r).getD q [] = [.ro (.ints .i64 (rowF sw a b q 0))] := by
  rw [getD_lt (by rw [costL_len]; exact h)]; simp [costL, hr]
theorem costL_all (sw : List Sw) (a b : List UInt8) : costL sw a b (a.length + 1) = List.replicate (a.length + 1) [.nilS] := by
  refine List.ext_getElem (by simp [costL]) fun i h1 h2 => ?_
  simp only [costL, List.length_map, List.length_range] at h1
  simp [costL]; omega
theorem costL_set {sw : List Sw} {a b : List UInt8} {r : Nat} : (costL sw a b (r + 1)).set r [.ro (.ints .i64 (rowF sw a b r 0))] = costL sw a b r := by
  refine List.ext_getElem (by simp [costL]) fun i h1 h2 => ?_
  rw [List.getElem_set]
  split
  · rename_i e; subst e; simp [costL]
  · rename_i e
    simp only [costL, List.getElem_map, List.getElem_range]
    by_cases h : r ≤ i
    · rw [if_pos (by omega), if_pos h]
    · rw [if_neg (by omega), if_neg h]
theorem costL_noid (sw : List Sw) (a b : List UInt8) (r : Nat) : (costL sw a b r).all noIdL = true := by
  rw [List.all_eq_true]
  intro x hx
  obtain ⟨q, _, rfl⟩ := List.mem_map.1 hx
  split <;> rfl
theorem fzL_costL (sw : List Sw) (a b : List UInt8) (r i k : Nat) (q : RowV) : ((costL sw a b r).set i [.own k]).map (fzL k q) = (costL sw a b r).set i [.ro q] := by
  rw [List.map_set, fzLL_noId _ (costL_noid sw a b r)]
  simp [fzL, fz]

def mfold : Int → List Int → Int
  | b, [] => b
  | b, v :: l => mfold (if b < 0 ∨ v < b then v else b) l
theorem mfold_pos : ∀ (l : List Int) (b : Int), 0 ≤ b → (∀ v, v ∈ l → 0 ≤ v) → mfold b l = minL (b :: l)
  | [], b, _, _ => rfl
  | v :: l, b, hb, hl => by
    have hv := hl v (.head _)
    have e : (if b < 0 ∨ v < b then v else b) = min b v := by split <;> omega
    rw [mfold, e, mfold_pos l _ (by omega) fun u hu => hl u (.tail _ hu)]
    cases l with
    | nil => rfl
    | cons u l => simp only [minL]; omega
theorem mfold_neg {l : List Int} (hl : ∀ v, v ∈ l → 0 ≤ v) (hne : l ≠ []) : mfold (-1) l = minL l := by
  cases l with
  | nil => exact absurd rfl hne
  | cons v l =>
    rw [mfold, if_pos (by omega), mfold_pos l v (hl v (.head _)) fun u hu => hl u (.tail _ hu)]
def valS (sw : List Sw) (x y : List UInt8) (s : St) : Int := s.c + dist sw (x.drop s.a) (y.drop s.b)
theorem mfold_dist {sw : List Sw} (hg : GoodSw sw) {x y : List UInt8} (h : ¬ (x = [] ∧ y = [])) : mfold (-1) ((steps sw x y).map (valS sw x y)) = dist sw x y := by
  rw [mfold_neg ?_ (by simpa using steps_ne h), dist_eq hg h]
  · rfl
  · intro v hv
    obtain ⟨s, hs, rfl⟩ := List.mem_map.1 hv
    have := step_bd hg hs
    have := dist_bd hg _ (x.drop s.a) (y.drop s.b) (Nat.le_refl _)
    unfold valS; omega
theorem mfold_step (f : St → Int) (l : List St) {k : Nat} (h : k < l.length) (b : Int) : mfold b ((l.drop k).map f) = mfold (if b < 0 ∨ f (l.getD k St.zero) < b then f (l.getD k St.zero) else b) ((l.drop (k + 1)).map f) := by
  rw [List.drop_eq_getElem_cons h, getD_lt h]; rfl
end Go.Fv.W
