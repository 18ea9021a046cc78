/-
  A part of the proof of the claim: walks over the program's functions and the plain laws that these need. No condition of its own.
-/
import Derived.Test.YtpnlkjeedfmhfaaGreatDoorZBatchesCardPart7
import Derived.Test.YtpnlkjeedfmhfaaGreatDoorZBatchesCardPart4
import Derived.Test.YtpnlkjeedfmhfaaGreatDoorZBatchesCardPart2
import Derived.Test.YtpnlkjeedfmhfaaGreatDoorZBatchesCardPart3
import Derived.Test.YtpnlkjeedfmhfaaGreatDoorFvPart9
import Derived.Test.YtpnlkjeedfmhfaaGreatDoorZBatchesCardPart1
/- The reference's KindOf. -/
namespace Go.Fv.Z
open Go Go.Proofs
set_option linter.unusedSimpArgs false
set_option linter.unusedVariables false
set_option linter.unnecessarySimpa false
set_option maxRecDepth 8000

set_option maxHeartbeats 8000000 in
theorem refKindOf_ok (s : Sh) (hs : s.text.length ≤ 1048576) (l : List Ru) : FnOk Tryz.prog 32 [.agg s.av, .ro (rus l)] (.str (kindS s l)) [] := by
  have c1 := refTokens_ok s.text hs
  have hll := toks_len _ s.text [] [] (Nat.le_refl _)
  have hbeg := refBegins_ok s
  unfold kindS textHas Sh.av at *
  generalize toks s.text [] [] = tk at *
  simp only [List.length_nil] at hll
  refine FnOk.of_vc Tryz.func32 rfl (by decide) (by simp [Tryz.f32]) [.tmp 4] rfl fun w0 T0 _ => ?_
  simp only [Tryz.f32, argEnv]
  (repeat' first | with_reducible (first | refine Asm.intro fun _ => ?_ | refine Chk.g ?_ | refine AnyI.i64 fun _ _ => ?_ | refine LetW.g ?_ | refine LetW.h ?_ | refine Ite.t fun _ => ?_ | refine Ite.f fun _ => ?_ | refine Ite.decide (fun _ => ?_) fun _ => ?_ | refine Ite.bool (fun _ => ?_) fun _ => ?_ | refine And.intro ?_ ?_) | omega | simp (maxSteps := 1000000) only [go_sem, reduceCtorEq, Nat.reduceLT, Nat.reduceLeDiff, reduceIte, ↓reduceIte, Nat.reduceEqDiff, Nat.reduceAdd, Nat.reduceMul, Nat.reduceSub, Int.reduceLE, Int.reduceLT, Int.reduceNeg, Int.reduceToNat, List.length_map])
  refine VcCall.ro (.ro (tkR tk)) (FnFr.of_ok c1 rfl (by simp [noRoRows, noRoItem, noRoRow, noRoL, noRo, tkR, tkAv])) (by simp only [noIdR_ok, argOkL, argOk, allOk, argOkN, List.drop_zero, lk, reduceIte, reduceCtorEq, Nat.reduceEqDiff, Option.some.injEq, Item.row.injEq, Item.box.injEq, AV.ro.injEq, exists_eq_left, exists_and_left, exists_eq_left', exists_eq_right, and_assoc, and_true, true_and, List.cons.injEq, exists_eq', exists_eq]) (by simp [outOk, argOkL, allOk, argOk, argOkN, lk, noIdR_ok, tkR]) rfl ?_
  (repeat' first | with_reducible (first | refine Asm.intro fun _ => ?_ | refine Chk.g ?_ | refine AnyI.i64 fun _ _ => ?_ | refine LetW.g ?_ | refine LetW.h ?_ | refine Ite.t fun _ => ?_ | refine Ite.f fun _ => ?_ | refine Ite.decide (fun _ => ?_) fun _ => ?_ | refine Ite.bool (fun _ => ?_) fun _ => ?_ | refine And.intro ?_ ?_) | omega | simp (maxSteps := 1000000) only [go_sem, reduceCtorEq, Nat.reduceLT, Nat.reduceLeDiff, reduceIte, ↓reduceIte, Nat.reduceEqDiff, Nat.reduceAdd, Nat.reduceMul, Nat.reduceSub, Int.reduceLE, Int.reduceLT, Int.reduceNeg, Int.reduceToNat, tkR, List.length_map])
  refine VcLoop.intro (fun i : Nat => ⟨51, [(15, .int .i64 i), (14, .int .i64 tk.length), (13, .ro (tkR tk)), (5, .ptr 1 0), (2, .ptr 0 0), (1, .ro (rus l))], [(0, .box 53 [.int .i64 s.W, .int .i64 s.H, .ro (.bools s.p), .ro (.strs s.codes), .str s.text]), (1, .box 79 [.own 2]), (2, .map ((insAll (hasL (tk.take i))).map .str) ((insAll (hasL (tk.take i))).map fun _ => .bool true))], 3⟩) (fun i => i ≤ tk.length) (fun i => tk.length - i) 0 ?_ (Nat.zero_le _) fun i hi => ?_
  · refine Ent.auto0 rfl ?_ ?_ <;> simp only [go_sem, reduceCtorEq, reduceIte, Nat.reduceEqDiff, Nat.reduceLT, Nat.reduceLeDiff, Int.natCast_succ, List.take_zero, insAll, List.foldl_nil, List.map_nil, hasL, List.filter_nil, tkR]
  by_cases hlt : i < tk.length
  · have hel := tk_elem tk hlt
    have hst := hasL_take tk hlt
    generalize tk.getD i ([], false) = z at *
    obtain ⟨z1, z2⟩ := z
    dsimp only at hel hst
    have k2 := refSmall_ok z1
    cases z2 with
    | true =>
      rw [if_pos rfl] at hst
      have hst2 : insAll (hasL (tk.take (i + 1))) = insE (insAll (hasL (tk.take i))) (smallL z1) := by rw [hst, insAll_snoc]
      (repeat' first | with_reducible (first | refine Asm.intro fun _ => ?_ | refine Chk.g ?_ | refine AnyI.i64 fun _ _ => ?_ | refine LetW.g ?_ | refine LetW.h ?_ | refine Ite.t fun _ => ?_ | refine Ite.f fun _ => ?_ | refine Ite.decide (fun _ => ?_) fun _ => ?_ | refine Ite.bool (fun _ => ?_) fun _ => ?_ | refine And.intro ?_ ?_) | omega | simp (maxSteps := 1000000) only [go_sem, reduceCtorEq, Nat.reduceLT, Nat.reduceLeDiff, reduceIte, ↓reduceIte, Nat.reduceEqDiff, Nat.reduceAdd, Nat.reduceMul, Nat.reduceSub, Int.reduceLE, Int.reduceLT, Int.reduceNeg, Int.reduceToNat, elemA, hel, tkR, List.length_map])
      refine VcDraw.lex [4] [] (by kernel_rfl) (by kernel_rfl) ?_
      (repeat' first | with_reducible (first | refine Asm.intro fun _ => ?_ | refine Chk.g ?_ | refine AnyI.i64 fun _ _ => ?_ | refine LetW.g ?_ | refine LetW.h ?_ | refine Ite.t fun _ => ?_ | refine Ite.f fun _ => ?_ | refine Ite.decide (fun _ => ?_) fun _ => ?_ | refine Ite.bool (fun _ => ?_) fun _ => ?_ | refine And.intro ?_ ?_) | omega | simp (maxSteps := 1000000) only [go_sem, reduceCtorEq, Nat.reduceLT, Nat.reduceLeDiff, reduceIte, ↓reduceIte, Nat.reduceEqDiff, Nat.reduceAdd, Nat.reduceMul, Nat.reduceSub, Int.reduceLE, Int.reduceLT, Int.reduceNeg, Int.reduceToNat])
      (refine QV.intro (.str (smallL z1)) ?_ ?_; focus ((repeat' first | with_reducible (first | refine Asm.intro fun _ => ?_ | refine Chk.g ?_ | refine AnyI.i64 fun _ _ => ?_ | refine LetW.g ?_ | refine LetW.h ?_ | refine Ite.t fun _ => ?_ | refine Ite.f fun _ => ?_ | refine Ite.decide (fun _ => ?_) fun _ => ?_ | refine Ite.bool (fun _ => ?_) fun _ => ?_ | refine And.intro ?_ ?_) | omega | simp (maxSteps := 1000000) only [go_sem, reduceCtorEq, Nat.reduceLT, Nat.reduceLeDiff, reduceIte, ↓reduceIte, Nat.reduceEqDiff, Nat.reduceAdd, Nat.reduceMul, Nat.reduceSub, Int.reduceLE, Int.reduceLT, Int.reduceNeg, Int.reduceToNat]); refine VcCall.fr (FnFr.of_ok (k2) rfl rfl) (by simp only [noIdR_ok, argOkL, argOk, allOk, argOkN, List.drop_zero, lk, reduceIte, reduceCtorEq, Nat.reduceEqDiff, Option.some.injEq, Item.row.injEq, Item.box.injEq, AV.ro.injEq, exists_eq_left, exists_and_left, exists_eq_left', exists_eq_right, and_assoc, and_true, true_and, List.cons.injEq, exists_eq', exists_eq]) 0 rfl (by simp [rowsB]) ?_; (repeat' first | with_reducible (first | refine Asm.intro fun _ => ?_ | refine Chk.g ?_ | refine AnyI.i64 fun _ _ => ?_ | refine LetW.g ?_ | refine LetW.h ?_ | refine Ite.t fun _ => ?_ | refine Ite.f fun _ => ?_ | refine Ite.decide (fun _ => ?_) fun _ => ?_ | refine Ite.bool (fun _ => ?_) fun _ => ?_ | refine And.intro ?_ ?_) | omega | simp (maxSteps := 1000000) only [go_sem, reduceCtorEq, Nat.reduceLT, Nat.reduceLeDiff, reduceIte, ↓reduceIte, Nat.reduceEqDiff, Nat.reduceAdd, Nat.reduceMul, Nat.reduceSub, Int.reduceLE, Int.reduceLT, Int.reduceNeg, Int.reduceToNat])))
      (repeat' first | with_reducible (first | refine Asm.intro fun _ => ?_ | refine Chk.g ?_ | refine AnyI.i64 fun _ _ => ?_ | refine LetW.g ?_ | refine LetW.h ?_ | refine Ite.t fun _ => ?_ | refine Ite.f fun _ => ?_ | refine Ite.decide (fun _ => ?_) fun _ => ?_ | refine Ite.bool (fun _ => ?_) fun _ => ?_ | refine And.intro ?_ ?_) | omega | simp (maxSteps := 1000000) only [go_sem, reduceCtorEq, Nat.reduceLT, Nat.reduceLeDiff, reduceIte, ↓reduceIte, Nat.reduceEqDiff, Nat.reduceAdd, Nat.reduceMul, Nat.reduceSub, Int.reduceLE, Int.reduceLT, Int.reduceNeg, Int.reduceToNat])
      refine ⟨i + 1, Ent.auto0 rfl ?_ ?_, by omega, by omega⟩ <;> simp only [go_sem, reduceCtorEq, reduceIte, Nat.reduceEqDiff, Nat.reduceLT, Nat.reduceLeDiff, Int.natCast_succ, tkR, hst2]
    | false =>
      rw [if_neg (by decide), List.append_nil] at hst
      (repeat' first | with_reducible (first | refine Asm.intro fun _ => ?_ | refine Chk.g ?_ | refine AnyI.i64 fun _ _ => ?_ | refine LetW.g ?_ | refine LetW.h ?_ | refine Ite.t fun _ => ?_ | refine Ite.f fun _ => ?_ | refine Ite.decide (fun _ => ?_) fun _ => ?_ | refine Ite.bool (fun _ => ?_) fun _ => ?_ | refine And.intro ?_ ?_) | omega | simp (maxSteps := 1000000) only [go_sem, reduceCtorEq, Nat.reduceLT, Nat.reduceLeDiff, reduceIte, ↓reduceIte, Nat.reduceEqDiff, Nat.reduceAdd, Nat.reduceMul, Nat.reduceSub, Int.reduceLE, Int.reduceLT, Int.reduceNeg, Int.reduceToNat, elemA, hel, tkR, List.length_map])
      refine ⟨i + 1, Ent.auto0 rfl ?_ ?_, by omega, by omega⟩ <;> simp only [go_sem, reduceCtorEq, reduceIte, Nat.reduceEqDiff, Nat.reduceLT, Nat.reduceLeDiff, Int.natCast_succ, tkR, hst]
  · have e : i = tk.length := by omega
    subst e
    rw [List.take_length]
    generalize hasL tk = ws at *
    have hany := any_lacks
    (repeat' first | with_reducible (first | refine Asm.intro fun _ => ?_ | refine Chk.g ?_ | refine AnyI.i64 fun _ _ => ?_ | refine LetW.g ?_ | refine LetW.h ?_ | refine Ite.t fun _ => ?_ | refine Ite.f fun _ => ?_ | refine Ite.decide (fun _ => ?_) fun _ => ?_ | refine Ite.bool (fun _ => ?_) fun _ => ?_ | refine And.intro ?_ ?_) | omega | simp (maxSteps := 1000000) only [go_sem, reduceCtorEq, Nat.reduceLT, Nat.reduceLeDiff, reduceIte, ↓reduceIte, Nat.reduceEqDiff, Nat.reduceAdd, Nat.reduceMul, Nat.reduceSub, Int.reduceLE, Int.reduceLT, Int.reduceNeg, Int.reduceToNat, List.length_map, tkR])
    refine VcLoop.intro (fun k : Nat => ⟨51, [(28, .int .i64 k), (27, .int .i64 l.length), (26, .ro (rus l)), (5, .ptr 1 0), (2, .ptr 0 0)], [(0, .box 53 [.int .i64 s.W, .int .i64 s.H, .ro (.bools s.p), .ro (.strs s.codes), .str s.text]), (1, .box 79 [.own 2]), (2, .map ((insAll ws).map .str) ((insAll ws).map fun _ => .bool true))], 3⟩) (fun k => k ≤ l.length ∧ kindOf ws s.codes (l.drop k) = kindOf ws s.codes l) (fun k => l.length - k) 0 ?_ ⟨Nat.zero_le _, rfl⟩ fun k hk => ?_
    · refine Ent.auto0 rfl ?_ ?_ <;> simp only [go_sem, reduceCtorEq, reduceIte, Nat.reduceEqDiff, Nat.reduceLT, Nat.reduceLeDiff, Int.natCast_succ]
    obtain ⟨hk, hK⟩ := hk
    by_cases hkl : k < l.length
    · have he := ru_elem l hkl
      rw [kindOf_drop _ _ l hkl] at hK
      generalize l.getD k Ru.zero = r at *
      haveI c2 : CapsOk [.cell [setAv (insAll ws)]] := ⟨rfl⟩
      have k2 := contFuncS_ok r.words 57 [.cell [setAv (insAll ws)]] (fun w => !decide (w ∈ insAll ws)) fun c hc => FnFr.of_ok (refLacks_ok c (insAll ws)) rfl rfl
      rw [any_lacks] at k2
      have k3 := hbeg r.code
      have hH : hitR ws s.codes r = ((r.words.all fun w => decide (w ∈ ws)) && (decide (r.code = []) || begB s.codes r.code)) := rfl
      generalize (r.words.all fun w => decide (w ∈ ws)) = q at *
      generalize begB s.codes r.code = g at *
      (repeat' first | with_reducible (first | refine Asm.intro fun _ => ?_ | refine Chk.g ?_ | refine AnyI.i64 fun _ _ => ?_ | refine LetW.g ?_ | refine LetW.h ?_ | refine Ite.t fun _ => ?_ | refine Ite.f fun _ => ?_ | refine Ite.decide (fun _ => ?_) fun _ => ?_ | refine Ite.bool (fun _ => ?_) fun _ => ?_ | refine And.intro ?_ ?_) | omega | simp (maxSteps := 1000000) only [go_sem, reduceCtorEq, Nat.reduceLT, Nat.reduceLeDiff, reduceIte, ↓reduceIte, Nat.reduceEqDiff, Nat.reduceAdd, Nat.reduceMul, Nat.reduceSub, Int.reduceLE, Int.reduceLT, Int.reduceNeg, Int.reduceToNat, he, List.length_map])
      refine VcCall.fr (FnFr.of_ok k2 rfl rfl) ⟨_, _, rfl, ⟨_, _, ⟨_, ⟨_, _, ⟨_, _, _, rfl, ⟨_, _, argOkN_map rfl (allOk_fmap (f := AV.str) _ 2 (fun _ => rfl) _) (allOk_fmap (f := fun _ : List UInt8 => AV.bool true) _ 2 (fun _ => rfl) _), rfl, rfl⟩, rfl⟩, rfl, rfl⟩, rfl⟩, rfl, rfl⟩, rfl⟩ 0 rfl (by simp [rowsB]) ?_
      cases q with
      | false =>
        rw [Bool.false_and] at hH
        rw [hH, if_neg (by decide)] at hK
        (repeat' first | with_reducible (first | refine Asm.intro fun _ => ?_ | refine Chk.g ?_ | refine AnyI.i64 fun _ _ => ?_ | refine LetW.g ?_ | refine LetW.h ?_ | refine Ite.t fun _ => ?_ | refine Ite.f fun _ => ?_ | refine Ite.decide (fun _ => ?_) fun _ => ?_ | refine Ite.bool (fun _ => ?_) fun _ => ?_ | refine And.intro ?_ ?_) | omega | simp (maxSteps := 1000000) only [go_sem, reduceCtorEq, Nat.reduceLT, Nat.reduceLeDiff, reduceIte, ↓reduceIte, Nat.reduceEqDiff, Nat.reduceAdd, Nat.reduceMul, Nat.reduceSub, Int.reduceLE, Int.reduceLT, Int.reduceNeg, Int.reduceToNat])
        refine ⟨k + 1, Ent.auto0 rfl ?_ ?_, ⟨by omega, hK⟩, by omega⟩ <;> simp only [go_sem, reduceCtorEq, reduceIte, Nat.reduceEqDiff, Nat.reduceLT, Nat.reduceLeDiff, Int.natCast_succ]
      | true =>
        by_cases hc : r.code = []
        · rw [decide_eq_true hc, Bool.true_or, Bool.true_and] at hH
          rw [hH, if_pos rfl] at hK
          (repeat' first | with_reducible (first | refine Asm.intro fun _ => ?_ | refine Chk.g ?_ | refine AnyI.i64 fun _ _ => ?_ | refine LetW.g ?_ | refine LetW.h ?_ | refine Ite.t fun _ => ?_ | refine Ite.f fun _ => ?_ | refine Ite.decide (fun _ => ?_) fun _ => ?_ | refine Ite.bool (fun _ => ?_) fun _ => ?_ | refine And.intro ?_ ?_) | omega | simp (maxSteps := 1000000) only [go_sem, reduceCtorEq, Nat.reduceLT, Nat.reduceLeDiff, reduceIte, ↓reduceIte, Nat.reduceEqDiff, Nat.reduceAdd, Nat.reduceMul, Nat.reduceSub, Int.reduceLE, Int.reduceLT, Int.reduceNeg, Int.reduceToNat, hc])
          refine Ret.auto 0 ?_ rfl ?_ <;> simp only [go_sem, reduceCtorEq, reduceIte, Nat.reduceEqDiff, Nat.reduceLT, Nat.reduceLeDiff, Int.natCast_succ, Post, hK]
        · rw [decide_eq_false hc, Bool.false_or, Bool.true_and] at hH
          (repeat' first | with_reducible (first | refine Asm.intro fun _ => ?_ | refine Chk.g ?_ | refine AnyI.i64 fun _ _ => ?_ | refine LetW.g ?_ | refine LetW.h ?_ | refine Ite.t fun _ => ?_ | refine Ite.f fun _ => ?_ | refine Ite.decide (fun _ => ?_) fun _ => ?_ | refine Ite.bool (fun _ => ?_) fun _ => ?_ | refine And.intro ?_ ?_) | omega | simp (maxSteps := 1000000) only [go_sem, reduceCtorEq, Nat.reduceLT, Nat.reduceLeDiff, reduceIte, ↓reduceIte, Nat.reduceEqDiff, Nat.reduceAdd, Nat.reduceMul, Nat.reduceSub, Int.reduceLE, Int.reduceLT, Int.reduceNeg, Int.reduceToNat, hc])
          refine VcCall.fr (FnFr.of_ok (k3) rfl rfl) (by simp only [noIdR_ok, argOkL, argOk, allOk, argOkN, List.drop_zero, lk, reduceIte, reduceCtorEq, Nat.reduceEqDiff, Option.some.injEq, Item.row.injEq, Item.box.injEq, AV.ro.injEq, exists_eq_left, exists_and_left, exists_eq_left', exists_eq_right, and_assoc, and_true, true_and, List.cons.injEq, exists_eq', exists_eq]) 0 rfl (by simp [rowsB]) ?_
          cases g with
          | true =>
            rw [hH, if_pos rfl] at hK
            (repeat' first | with_reducible (first | refine Asm.intro fun _ => ?_ | refine Chk.g ?_ | refine AnyI.i64 fun _ _ => ?_ | refine LetW.g ?_ | refine LetW.h ?_ | refine Ite.t fun _ => ?_ | refine Ite.f fun _ => ?_ | refine Ite.decide (fun _ => ?_) fun _ => ?_ | refine Ite.bool (fun _ => ?_) fun _ => ?_ | refine And.intro ?_ ?_) | omega | simp (maxSteps := 1000000) only [go_sem, reduceCtorEq, Nat.reduceLT, Nat.reduceLeDiff, reduceIte, ↓reduceIte, Nat.reduceEqDiff, Nat.reduceAdd, Nat.reduceMul, Nat.reduceSub, Int.reduceLE, Int.reduceLT, Int.reduceNeg, Int.reduceToNat])
            refine Ret.auto 0 ?_ rfl ?_ <;> simp only [go_sem, reduceCtorEq, reduceIte, Nat.reduceEqDiff, Nat.reduceLT, Nat.reduceLeDiff, Int.natCast_succ, Post, hK]
          | false =>
            rw [hH, if_neg (by decide)] at hK
            (repeat' first | with_reducible (first | refine Asm.intro fun _ => ?_ | refine Chk.g ?_ | refine AnyI.i64 fun _ _ => ?_ | refine LetW.g ?_ | refine LetW.h ?_ | refine Ite.t fun _ => ?_ | refine Ite.f fun _ => ?_ | refine Ite.decide (fun _ => ?_) fun _ => ?_ | refine Ite.bool (fun _ => ?_) fun _ => ?_ | refine And.intro ?_ ?_) | omega | simp (maxSteps := 1000000) only [go_sem, reduceCtorEq, Nat.reduceLT, Nat.reduceLeDiff, reduceIte, ↓reduceIte, Nat.reduceEqDiff, Nat.reduceAdd, Nat.reduceMul, Nat.reduceSub, Int.reduceLE, Int.reduceLT, Int.reduceNeg, Int.reduceToNat])
            refine ⟨k + 1, Ent.auto0 rfl ?_ ?_, ⟨by omega, hK⟩, by omega⟩ <;> simp only [go_sem, reduceCtorEq, reduceIte, Nat.reduceEqDiff, Nat.reduceLT, Nat.reduceLeDiff, Int.natCast_succ]
    · have e : k = l.length := by omega
      subst e
      rw [List.drop_length] at hK
      (repeat' first | with_reducible (first | refine Asm.intro fun _ => ?_ | refine Chk.g ?_ | refine AnyI.i64 fun _ _ => ?_ | refine LetW.g ?_ | refine LetW.h ?_ | refine Ite.t fun _ => ?_ | refine Ite.f fun _ => ?_ | refine Ite.decide (fun _ => ?_) fun _ => ?_ | refine Ite.bool (fun _ => ?_) fun _ => ?_ | refine And.intro ?_ ?_) | omega | simp (maxSteps := 1000000) only [go_sem, reduceCtorEq, Nat.reduceLT, Nat.reduceLeDiff, reduceIte, ↓reduceIte, Nat.reduceEqDiff, Nat.reduceAdd, Nat.reduceMul, Nat.reduceSub, Int.reduceLE, Int.reduceLT, Int.reduceNeg, Int.reduceToNat, List.length_map])
      refine Ret.auto 0 ?_ rfl ?_ <;> simp only [go_sem, reduceCtorEq, reduceIte, Nat.reduceEqDiff, Nat.reduceLT, Nat.reduceLeDiff, Int.natCast_succ, Post]
      all_goals rw [← hK]; rfl
end Go.Fv.Z

/- The right ones of the first sheets. -/
namespace Go.Fv.Z
open Go Go.Proofs
set_option linter.unusedSimpArgs false
set_option linter.unusedVariables false
set_option maxRecDepth 8000

theorem firstErr_zero : ∀ {l : List Int}, firstErr l = 0 → ∀ x, x ∈ l → x = 0
  | y :: l, h, x, hx => by
    simp only [firstErr] at h
    split at h
    · rename_i h1
      cases List.mem_cons.1 hx with
      | inl e => subst e; exact h1
      | inr e => exact firstErr_zero h x e
    · rename_i h1; exact absurd h h1
/-- The right ones among the first i. -/
def keepN (l : List Sh) (i : Nat) : List Sh := ((l.take i).map fitSh).filter fun s => decide (shErr s = 0)
theorem keepN_succ (l : List Sh) {i : Nat} (h : i < l.length) : keepN l (i + 1) = if shErr (fitSh (l.getD i Sh.zero)) = 0 then keepN l i ++ [fitSh (l.getD i Sh.zero)] else keepN l i := by
  unfold keepN
  rw [List.take_succ_eq_append_getElem h, List.map_append, List.filter_append, getD_lt h]
  split
  · rename_i h1; simp [h1]
  · rename_i h1; simp [h1]

set_option maxHeartbeats 4000000 in
theorem sheets_ok (l : List Sh) : FnOk Tryz.prog 5 [.ro (shs l)] (.own 0) [(0, .row 53 (shs (keep l)))] := by
  have hk : keep l = keepN (l.take 20) (l.take 20).length := by unfold keep keepN; rw [List.take_length]
  rw [hk]
  have hl20 : (l.take 20).length = min l.length 20 := by simp [Nat.min_comm]
  have hsub : List.take (min l.length 20 - 0) (l.map Sh.av) = (l.take 20).map Sh.av := by
    simp only [← List.map_take, Nat.sub_zero]
    rcases Nat.le_total l.length 20 with h | h
    · rw [Nat.min_eq_left h, List.take_of_length_le (Nat.le_refl _), List.take_of_length_le h]
    · rw [Nat.min_eq_right h]
  have hlen : ∀ i, (keepN (l.take 20) i).length ≤ 20 := fun i => by
    unfold keepN
    refine Nat.le_trans (List.length_filter_le _ _) ?_
    simp; omega
  have hmin : min (l.length : Int) 20 = ((min l.length 20 : Nat) : Int) := by omega
  generalize l.take 20 = q at *
  refine FnOk.of_vc Tryz.func5 rfl (by decide) (by simp [Tryz.f5]) [.tmp 2] rfl fun w0 T0 _ => ?_
  simp only [Tryz.f5, argEnv]
  (repeat' first | with_reducible (first | refine Asm.intro fun _ => ?_ | refine Chk.g ?_ | refine AnyI.i64 fun _ _ => ?_ | refine LetW.g ?_ | refine LetW.h ?_ | refine Ite.t fun _ => ?_ | refine Ite.f fun _ => ?_ | refine Ite.decide (fun _ => ?_) fun _ => ?_ | refine Ite.bool (fun _ => ?_) fun _ => ?_ | refine And.intro ?_ ?_) | omega | simp (maxSteps := 1000000) only [go_sem, reduceCtorEq, Nat.reduceLT, Nat.reduceLeDiff, reduceIte, ↓reduceIte, Nat.reduceEqDiff, Nat.reduceAdd, Nat.reduceMul, Nat.reduceSub, Int.reduceLE, Int.reduceLT, Int.reduceNeg, Int.reduceToNat, minmax, hmin, Int.toNat_natCast, hsub, List.length_map])
  refine VcLoop.intro (fun i : Nat => ⟨29, [(12, .int .i64 i), (11, .int .i64 q.length), (10, .ro (shs q)), (3, .own 0)], [(0, .row 53 (shs (keepN q i)))], 1⟩) (fun i => i ≤ q.length) (fun i => q.length - i) 0 ?_ (Nat.zero_le _) fun i hi => ?_
  · refine Ent.auto0 rfl ?_ ?_ <;> simp only [go_sem, reduceCtorEq, reduceIte, Nat.reduceEqDiff, Nat.reduceLT, Nat.reduceLeDiff, Int.natCast_succ, keepN, List.take_zero, List.map_nil, List.filter_nil, List.length_map]
  by_cases hlt : i < q.length
  · have he := sh_elem q hlt
    have hs := keepN_succ q hlt
    have hn := hlen i
    generalize q.getD i Sh.zero = x at *
    have k1 := fit_ok x.W x.H x.p
    have hfx : fitSh x = { x with W := fitN x.W 31, H := fitN x.H 31, p := rowsOf (fitN x.W 31) (fitB x.p (fitN x.W 31)) (fitN x.H 31 * fitN x.W 31) } := rfl
    generalize rowsOf (fitN x.W 31) (fitB x.p (fitN x.W 31)) (fitN x.H 31 * fitN x.W 31) = P at *
    have k2 := sheetError_ok (fitSh x)
    rw [hfx] at k2 hs
    unfold Sh.av at k2
    (repeat' first | with_reducible (first | refine Asm.intro fun _ => ?_ | refine Chk.g ?_ | refine AnyI.i64 fun _ _ => ?_ | refine LetW.g ?_ | refine LetW.h ?_ | refine Ite.t fun _ => ?_ | refine Ite.f fun _ => ?_ | refine Ite.decide (fun _ => ?_) fun _ => ?_ | refine Ite.bool (fun _ => ?_) fun _ => ?_ | refine And.intro ?_ ?_) | omega | simp (maxSteps := 1000000) only [go_sem, reduceCtorEq, Nat.reduceLT, Nat.reduceLeDiff, reduceIte, ↓reduceIte, Nat.reduceEqDiff, Nat.reduceAdd, Nat.reduceMul, Nat.reduceSub, Int.reduceLE, Int.reduceLT, Int.reduceNeg, Int.reduceToNat, elemA, he])
    refine VcCall.fr (FnFr.of_ok k1 rfl rfl) (by simp only [noIdR_ok, argOkL, argOk, allOk, argOkN, List.drop_zero, lk, reduceIte, reduceCtorEq, Nat.reduceEqDiff, Option.some.injEq, Item.row.injEq, Item.box.injEq, AV.ro.injEq, exists_eq_left, exists_and_left, exists_eq_left', exists_eq_right, and_assoc, and_true, true_and, List.cons.injEq, exists_eq', exists_eq]) 1 rfl (by simp [rowsB, Item.below, Fv.below, belowL]) ?_
    (repeat' first | with_reducible (first | refine Asm.intro fun _ => ?_ | refine Chk.g ?_ | refine AnyI.i64 fun _ _ => ?_ | refine LetW.g ?_ | refine LetW.h ?_ | refine Ite.t fun _ => ?_ | refine Ite.f fun _ => ?_ | refine Ite.decide (fun _ => ?_) fun _ => ?_ | refine Ite.bool (fun _ => ?_) fun _ => ?_ | refine And.intro ?_ ?_) | omega | simp (maxSteps := 1000000) only [go_sem, reduceCtorEq, Nat.reduceLT, Nat.reduceLeDiff, reduceIte, ↓reduceIte, Nat.reduceEqDiff, Nat.reduceAdd, Nat.reduceMul, Nat.reduceSub, Int.reduceLE, Int.reduceLT, Int.reduceNeg, Int.reduceToNat])
    refine VcCall.fr (FnFr.of_ok k2 rfl rfl) (by simp only [noIdR_ok, argOkL, argOk, allOk, argOkN, List.drop_zero, lk, reduceIte, reduceCtorEq, Nat.reduceEqDiff, Option.some.injEq, Item.row.injEq, Item.box.injEq, AV.ro.injEq, exists_eq_left, exists_and_left, exists_eq_left', exists_eq_right, and_assoc, and_true, true_and, List.cons.injEq, exists_eq', exists_eq]) 0 rfl (by simp [rowsB]) ?_
    generalize shErr _ = e at *
    (repeat' first | with_reducible (first | refine Asm.intro fun _ => ?_ | refine Chk.g ?_ | refine AnyI.i64 fun _ _ => ?_ | refine LetW.g ?_ | refine LetW.h ?_ | refine Ite.t fun _ => ?_ | refine Ite.f fun _ => ?_ | refine Ite.decide (fun _ => ?_) fun _ => ?_ | refine Ite.bool (fun _ => ?_) fun _ => ?_ | refine And.intro ?_ ?_) | omega | simp (maxSteps := 1000000) only [go_sem, reduceCtorEq, Nat.reduceLT, Nat.reduceLeDiff, reduceIte, ↓reduceIte, Nat.reduceEqDiff, Nat.reduceAdd, Nat.reduceMul, Nat.reduceSub, Int.reduceLE, Int.reduceLT, Int.reduceNeg, Int.reduceToNat])
    · rename_i h1
      rw [if_pos h1] at hs
      refine ⟨i + 1, Ent.auto0 rfl ?_ ?_, by omega, by omega⟩ <;> simp only [go_sem, reduceCtorEq, reduceIte, Nat.reduceEqDiff, Nat.reduceLT, Nat.reduceLeDiff, Int.natCast_succ, hs]
      all_goals simp [Sh.av]
    · rename_i h1
      rw [if_neg h1] at hs
      refine ⟨i + 1, Ent.auto0 rfl ?_ ?_, by omega, by omega⟩ <;> simp only [go_sem, reduceCtorEq, reduceIte, Nat.reduceEqDiff, Nat.reduceLT, Nat.reduceLeDiff, Int.natCast_succ, hs]
  · (repeat' first | with_reducible (first | refine Asm.intro fun _ => ?_ | refine Chk.g ?_ | refine AnyI.i64 fun _ _ => ?_ | refine LetW.g ?_ | refine LetW.h ?_ | refine Ite.t fun _ => ?_ | refine Ite.f fun _ => ?_ | refine Ite.decide (fun _ => ?_) fun _ => ?_ | refine Ite.bool (fun _ => ?_) fun _ => ?_ | refine And.intro ?_ ?_) | omega | simp (maxSteps := 1000000) only [go_sem, reduceCtorEq, Nat.reduceLT, Nat.reduceLeDiff, reduceIte, ↓reduceIte, Nat.reduceEqDiff, Nat.reduceAdd, Nat.reduceMul, Nat.reduceSub, Int.reduceLE, Int.reduceLT, Int.reduceNeg, Int.reduceToNat])
    have e : i = q.length := by omega
    subst e
    refine Ret.auto 1 ?_ rfl ?_ <;> simp only [go_sem, reduceCtorEq, reduceIte, Nat.reduceEqDiff, Nat.reduceLT, Nat.reduceLeDiff, Int.natCast_succ, Post]

end Go.Fv.Z

/- Documents, as data. -/
namespace Go.Fv.Z
open Go Go.Proofs
set_option linter.unusedSimpArgs false
set_option linter.unusedVariables false
set_option maxRecDepth 8000

structure Dc where
  kind : List UInt8
  pages : List Int
def Dc.av (d : Dc) : List AV := [.str d.kind, .ro (.ints .i64 d.pages)]
def Dc.zero : Dc := ⟨[], []⟩
abbrev dcs (l : List Dc) : RowV := .objs 2 (l.map Dc.av)
instance : FNoId Dc.av := ⟨fun _ => rfl⟩
theorem dc_elem (l : List Dc) {i : Nat} (h : i < l.length) : (l.map Dc.av).getD i [] = [.str (l.getD i Dc.zero).kind, .ro (.ints .i64 (l.getD i Dc.zero).pages)] := by
  simp [List.getD_eq_getElem?_getD, h, Dc.av]
end Go.Fv.Z

namespace Go.Fv.Z
set_option linter.unusedSimpArgs false
set_option linter.unusedVariables false

theorem set_range {α : Type} {n i : Nat} (q : Nat → α) (d : α) (h : i < n) : ((List.range i).map q ++ List.replicate (n - i) d).set i (q i) = (List.range (i + 1)).map q ++ List.replicate (n - (i + 1)) d := by
  have e : n - i = (n - (i + 1)) + 1 := by omega
  rw [e, List.replicate_succ, List.set_append_right _ _ (by simp), List.range_succ, List.map_append]
  simp
def sumTo (f : Nat → Int) : Nat → Int
  | 0 => 0
  | n + 1 => sumTo f n + f n
def tab (v : Nat → Int) (w x y : Nat) : Int := sumTo (fun j => sumTo (fun i => v (j * w + i)) x) y
end Go.Fv.Z

namespace Go.Fv.Z
open Go Go.Proofs
set_option linter.unusedSimpArgs false
set_option linter.unusedVariables false
set_option maxRecDepth 8000

end Go.Fv.Z

namespace Go.Fv.Z
open Go Go.Proofs
set_option linter.unusedSimpArgs false
set_option linter.unusedVariables false
set_option maxRecDepth 8000
end Go.Fv.Z

namespace Go.Fv.Z
open Go Go.Proofs
set_option linter.unusedSimpArgs false
set_option linter.unusedVariables false
set_option maxRecDepth 8000

def segL (v : Nat → Int) (w y l n : Nat) : List Int := (List.range n).map fun i => v (y * w + (l + i))
def boxL (v : Nat → Int) (w t l n : Nat) : Nat → List Int
  | 0 => []
  | m + 1 => boxL v w t l n m ++ segL v w (t + m) l n
theorem segL_succ (v : Nat → Int) (w y l n : Nat) : segL v w y l (n + 1) = segL v w y l n ++ [v (y * w + (l + n))] := by
  simp [segL, List.range_succ]
theorem segL_len (v : Nat → Int) (w y l n : Nat) : (segL v w y l n).length = n := by simp [segL]
theorem boxL_len (v : Nat → Int) (w t l n : Nat) : ∀ m, (boxL v w t l n m).length = m * n
  | 0 => by simp [boxL]
  | m + 1 => by simp [boxL, boxL_len v w t l n m, segL_len, Nat.succ_mul]
theorem sum_bd {l : List Int} (h : ∀ x, x ∈ l → 0 ≤ x ∧ x ≤ 255) : 0 ≤ l.sum ∧ l.sum ≤ 255 * (l.length : Int) := by
  induction l with
  | nil => simp
  | cons x l ih =>
    have h1 := h x (.head _)
    have h2 := ih fun y hy => h y (.tail _ hy)
    simp only [List.sum_cons, List.length_cons]
    omega
theorem boxL_mem {v : Nat → Int} (hv : ∀ i, 0 ≤ v i ∧ v i ≤ 255) (w t l n : Nat) : ∀ m x, x ∈ boxL v w t l n m → 0 ≤ x ∧ x ≤ 255
  | 0, x, h => by simp [boxL] at h
  | m + 1, x, h => by
    rcases List.mem_append.1 h with h | h
    · exact boxL_mem hv w t l n m x h
    · obtain ⟨i, _, rfl⟩ := List.mem_map.1 h
      exact hv _

end Go.Fv.Z

namespace Go.Fv.Z
open Go Go.Proofs
set_option linter.unusedSimpArgs false
set_option linter.unusedVariables false
set_option maxRecDepth 8000
/-- Ink as a number. -/
def inkV (p : List Bool) (i : Nat) : Int := if p.getD i false = true then 1 else 0
theorem inkV_bd (p : List Bool) (i : Nat) : 0 ≤ inkV p i ∧ inkV p i ≤ 255 := by unfold inkV; split <;> omega
end Go.Fv.Z

namespace Go.Fv.Z
open Go Go.Proofs
set_option linter.unusedSimpArgs false
set_option linter.unusedVariables false
set_option maxRecDepth 8000

def b2i (b : Bool) : Int := if b = true then 1 else 0
/-- A pixel of a part of a page. -/
def cutAt (p : List Bool) (w X Y x y : Nat) : Bool := p.getD ((Y + y) * w + X + x) false
theorem rows_box (p : List Bool) (w X Y W : Nat) : ∀ m : Nat, (rowsOf W (cutAt p w X Y) (m * W)).map b2i = boxL (inkV p) w Y X W m
  | 0 => by simp [rowsOf, boxL]
  | m + 1 => by
    have aux : ∀ k, k ≤ W → (rowsOf W (cutAt p w X Y) (m * W + k)).map b2i = boxL (inkV p) w Y X W m ++ segL (inkV p) w (Y + m) X k := by
      intro k
      induction k with
      | zero => intro _; rw [Nat.add_zero, rows_box p w X Y W m]; simp [segL]
      | succ k ih =>
        intro hk
        rw [rowsOf_succ _ (by omega), List.map_append, ih (by omega), segL_succ, List.append_assoc]
        simp [b2i, cutAt, inkV, Nat.add_assoc]
    rw [Nat.succ_mul, aux W (Nat.le_refl _), boxL]
/-- The ink of a part of a page, counted. -/
def inkN (p : List Bool) (w X Y W H : Nat) : Nat := (boxL (inkV p) w Y X W H).sum.toNat
theorem inkN_eq (p : List Bool) (w X Y W H : Nat) : (boxL (inkV p) w Y X W H).sum = ((inkN p w X Y W H : Nat) : Int) := by
  have h := sum_bd (boxL_mem (inkV_bd p) w Y X W H)
  unfold inkN; omega
theorem inkN_rows (p : List Bool) (w X Y W H : Nat) : ((rowsOf W (cutAt p w X Y) (H * W)).map b2i).sum = ((inkN p w X Y W H : Nat) : Int) := by
  rw [rows_box, inkN_eq]
theorem sum01_bd {l : List Int} (h : ∀ x, x ∈ l → 0 ≤ x ∧ x ≤ 1) : 0 ≤ l.sum ∧ l.sum ≤ (l.length : Int) := by
  induction l with
  | nil => simp
  | cons x l ih =>
    have h1 := h x (.head _)
    have h2 := ih fun y hy => h y (.tail _ hy)
    simp only [List.sum_cons, List.length_cons]
    omega
theorem boxL_mem1 (p : List Bool) (w t l n : Nat) : ∀ m x, x ∈ boxL (inkV p) w t l n m → 0 ≤ x ∧ x ≤ 1
  | 0, x, h => by simp [boxL] at h
  | m + 1, x, h => by
    rcases List.mem_append.1 h with h | h
    · exact boxL_mem1 p w t l n m x h
    · obtain ⟨i, _, rfl⟩ := List.mem_map.1 h
      unfold inkV; split <;> omega
theorem segL_mem1 (p : List Bool) (w y l n : Nat) : ∀ x, x ∈ segL (inkV p) w y l n → 0 ≤ x ∧ x ≤ 1 := by
  intro x h
  obtain ⟨i, _, rfl⟩ := List.mem_map.1 h
  unfold inkV; split <;> omega
theorem inkN_le (p : List Bool) (w X Y W H : Nat) : inkN p w X Y W H ≤ H * W := by
  have h := sum01_bd (boxL_mem1 p w Y X W H)
  rw [inkN_eq, boxL_len] at h
  omega
theorem box_bd (p : List Bool) (w t l n m : Nat) : 0 ≤ (boxL (inkV p) w t l n m).sum ∧ (boxL (inkV p) w t l n m).sum ≤ ((m * n : Nat) : Int) := by
  have h := sum01_bd (boxL_mem1 p w t l n m)
  rwa [boxL_len] at h
theorem seg_bd (p : List Bool) (w y l n : Nat) : 0 ≤ (segL (inkV p) w y l n).sum ∧ (segL (inkV p) w y l n).sum ≤ (n : Int) := by
  have h := sum01_bd (segL_mem1 p w y l n)
  rwa [segL_len] at h
end Go.Fv.Z

namespace Go.Fv.Z
open Go Go.Proofs
set_option linter.unusedSimpArgs false
set_option linter.unusedVariables false
set_option maxRecDepth 8000

theorem inPage_ok (w h X Y W H : Nat) (hw : w ≤ 4000) (hh : h ≤ 4000) (hW : 1 ≤ W) (hH : 1 ≤ H) (hX : X + W ≤ w) (hY : Y + H ≤ h) :
    FnOk Tryz.prog 114 [.agg [.int .i64 X, .int .i64 Y, .int .i64 W, .int .i64 H], .int .i64 w, .int .i64 h] (.int .i64 0) [] := by
  refine FnOk.of_vc Tryz.func114 rfl (by decide) (by simp [Tryz.f114]) [.tmp 6] rfl fun w0 T0 _ => ?_
  simp only [Tryz.f114, argEnv]
  (repeat' first | with_reducible (first | refine Asm.intro fun _ => ?_ | refine Chk.g ?_ | refine AnyI.i64 fun _ _ => ?_ | refine LetW.g ?_ | refine LetW.h ?_ | refine Ite.t fun _ => ?_ | refine Ite.f fun _ => ?_ | refine Ite.decide (fun _ => ?_) fun _ => ?_ | refine Ite.bool (fun _ => ?_) fun _ => ?_ | refine And.intro ?_ ?_) | omega | simp (maxSteps := 1000000) only [go_sem, reduceCtorEq, Nat.reduceLT, Nat.reduceLeDiff, reduceIte, ↓reduceIte, Nat.reduceEqDiff, Nat.reduceAdd, Nat.reduceMul, Nat.reduceSub, Int.reduceLE, Int.reduceLT, Int.reduceNeg, Int.reduceToNat])
  refine Ret.auto 0 ?_ rfl ?_ <;> simp only [go_sem, reduceCtorEq, reduceIte, Nat.reduceEqDiff, Nat.reduceLT, Nat.reduceLeDiff, Int.natCast_succ, Post]

theorem bitsErr_ok {w h : Nat} (hw1 : 1 ≤ w) (hw : w ≤ 4000) (hh1 : 1 ≤ h) (hh : h ≤ 4000) (hwh : w * h ≤ 1048576) {n : Nat} (hn : n = w * h) : grayErr w h n = 0 := by
  unfold grayErr
  rw [sizeErr_of (by omega) (by omega) (by omega) (by omega) (by rw [← Int.natCast_mul]; omega), if_pos rfl, if_pos (by rw [hn]; exact Int.natCast_mul w h)]

set_option maxHeartbeats 1000000 in
theorem checkBoth_ok (w h X Y W H : Nat) (hw1 : 1 ≤ w) (hw : w ≤ 4000) (hh1 : 1 ≤ h) (hh : h ≤ 4000) (hwh : w * h ≤ 1048576) (p : List Bool) (hp : p.length = w * h) (hW : 1 ≤ W) (hH : 1 ≤ H) (hX : X + W ≤ w) (hY : Y + H ≤ h) :
    FnOk Tryz.prog 105 [.agg [.int .i64 w, .int .i64 h, .ro (.bools p)], .agg [.int .i64 X, .int .i64 Y, .int .i64 W, .int .i64 H]] (.int .i64 0) [] := by
  have k1 := checkBits_ok w h p
  rw [bitsErr_ok hw1 hw hh1 hh hwh hp] at k1
  refine FnOk.of_vc Tryz.func105 rfl (by decide) (by simp [Tryz.f105]) [.tmp 4] rfl fun w0 T0 _ => ?_
  simp only [Tryz.f105, argEnv]
  (repeat' first | with_reducible (first | refine Asm.intro fun _ => ?_ | refine Chk.g ?_ | refine AnyI.i64 fun _ _ => ?_ | refine LetW.g ?_ | refine LetW.h ?_ | refine Ite.t fun _ => ?_ | refine Ite.f fun _ => ?_ | refine Ite.decide (fun _ => ?_) fun _ => ?_ | refine Ite.bool (fun _ => ?_) fun _ => ?_ | refine And.intro ?_ ?_) | omega | simp (maxSteps := 1000000) only [go_sem, reduceCtorEq, Nat.reduceLT, Nat.reduceLeDiff, reduceIte, ↓reduceIte, Nat.reduceEqDiff, Nat.reduceAdd, Nat.reduceMul, Nat.reduceSub, Int.reduceLE, Int.reduceLT, Int.reduceNeg, Int.reduceToNat])
  refine VcCall.fr (FnFr.of_ok k1 rfl rfl) (by simp only [noIdR_ok, argOkL, argOk, allOk, argOkN, List.drop_zero, lk, reduceIte, reduceCtorEq, Nat.reduceEqDiff, Option.some.injEq, Item.row.injEq, Item.box.injEq, AV.ro.injEq, exists_eq_left, exists_and_left, exists_eq_left', exists_eq_right, and_assoc, and_true, true_and, List.cons.injEq, exists_eq', exists_eq]) 0 rfl (by simp [rowsB]) ?_
  (repeat' first | with_reducible (first | refine Asm.intro fun _ => ?_ | refine Chk.g ?_ | refine AnyI.i64 fun _ _ => ?_ | refine LetW.g ?_ | refine LetW.h ?_ | refine Ite.t fun _ => ?_ | refine Ite.f fun _ => ?_ | refine Ite.decide (fun _ => ?_) fun _ => ?_ | refine Ite.bool (fun _ => ?_) fun _ => ?_ | refine And.intro ?_ ?_) | omega | simp (maxSteps := 1000000) only [go_sem, reduceCtorEq, Nat.reduceLT, Nat.reduceLeDiff, reduceIte, ↓reduceIte, Nat.reduceEqDiff, Nat.reduceAdd, Nat.reduceMul, Nat.reduceSub, Int.reduceLE, Int.reduceLT, Int.reduceNeg, Int.reduceToNat])
  refine VcCall.fr (FnFr.of_ok (inPage_ok w h X Y W H (by omega) (by omega) hW hH hX hY) rfl rfl) (by simp only [noIdR_ok, argOkL, argOk, allOk, argOkN, List.drop_zero, lk, reduceIte, reduceCtorEq, Nat.reduceEqDiff, Option.some.injEq, Item.row.injEq, Item.box.injEq, AV.ro.injEq, exists_eq_left, exists_and_left, exists_eq_left', exists_eq_right, and_assoc, and_true, true_and, List.cons.injEq, exists_eq', exists_eq]) 0 rfl (by simp [rowsB]) ?_
  (repeat' first | with_reducible (first | refine Asm.intro fun _ => ?_ | refine Chk.g ?_ | refine AnyI.i64 fun _ _ => ?_ | refine LetW.g ?_ | refine LetW.h ?_ | refine Ite.t fun _ => ?_ | refine Ite.f fun _ => ?_ | refine Ite.decide (fun _ => ?_) fun _ => ?_ | refine Ite.bool (fun _ => ?_) fun _ => ?_ | refine And.intro ?_ ?_) | omega | simp (maxSteps := 1000000) only [go_sem, reduceCtorEq, Nat.reduceLT, Nat.reduceLeDiff, reduceIte, ↓reduceIte, Nat.reduceEqDiff, Nat.reduceAdd, Nat.reduceMul, Nat.reduceSub, Int.reduceLE, Int.reduceLT, Int.reduceNeg, Int.reduceToNat])
  refine Ret.auto 0 ?_ rfl ?_ <;> simp only [go_sem, reduceCtorEq, reduceIte, Nat.reduceEqDiff, Nat.reduceLT, Nat.reduceLeDiff, Int.natCast_succ, Post]

set_option maxHeartbeats 2000000 in
theorem pageMade_ok (w h : Nat) (hw : w ≤ 4000) (hh : h ≤ 4000) (f : Nat) (caps : List AV) [CapsOk caps] (q : Nat → Nat → Bool) (hq : ∀ x y : Nat, x < w → y < h → FnFr Tryz.prog f ([.int .i64 x, .int .i64 y] ++ caps) (.bool (q x y)) []) :
    FnOk Tryz.prog 106 [.int .i64 w, .int .i64 h, .fn f caps] (.agg [.int .i64 w, .int .i64 h, .own 0]) [(0, .row 4 (.bools (rowsOf w q (h * w))))] := by
  have hwh : h * w ≤ 4000 * 4000 := Nat.mul_le_mul hh hw
  have hc : ((w : Int) * h) = ((h * w : Nat) : Int) := by rw [Int.natCast_mul, Int.mul_comm]
  have hlt : ∀ x y, x < w → y < h → y * w + x < h * w := fun x y hx hy => by
    have : y * w + w ≤ h * w := by rw [← Nat.succ_mul]; exact Nat.mul_le_mul_right _ (by omega)
    omega
  generalize hn : h * w = n at hwh hc hlt ⊢
  refine FnOk.of_vc Tryz.func106 rfl (by decide) (by simp [Tryz.f106]) [.cell 6 50] rfl fun w0 T0 _ => ?_
  simp only [Tryz.f106, argEnv]
  (repeat' first | with_reducible (first | refine Asm.intro fun _ => ?_ | refine Chk.g ?_ | refine AnyI.i64 fun _ _ => ?_ | refine LetW.g ?_ | refine LetW.h ?_ | refine Ite.t fun _ => ?_ | refine Ite.f fun _ => ?_ | refine Ite.decide (fun _ => ?_) fun _ => ?_ | refine Ite.bool (fun _ => ?_) fun _ => ?_ | refine And.intro ?_ ?_) | omega | simp (maxSteps := 1000000) only [go_sem, reduceCtorEq, Nat.reduceLT, Nat.reduceLeDiff, reduceIte, ↓reduceIte, Nat.reduceEqDiff, Nat.reduceAdd, Nat.reduceMul, Nat.reduceSub, Int.reduceLE, Int.reduceLT, Int.reduceNeg, Int.reduceToNat, hc])
  refine VcLoop.intro (fun y : Nat => ⟨40, [(18, .int .i64 y), (17, .int .i64 h), (7, .ptr 2 0), (6, .ptr 0 0), (0, .int .i64 w), (2, .fn f caps)], [(2, .box 50 [.int .i64 w, .int .i64 h, .own 1]), (0, .box 50 [.int .i64 0, .int .i64 0, .nilS]), (1, .row 4 (.bools (rowsOf w q (y * w) ++ List.replicate (n - y * w) false)))], 3⟩) (fun y => y ≤ h) (fun y => h - y) 0 ?_ (Nat.zero_le _) fun y hy => ?_
  · refine Ent.auto0 rfl ?_ ?_ <;> simp only [go_sem, reduceCtorEq, reduceIte, Nat.reduceEqDiff, Nat.reduceLT, Nat.reduceLeDiff, Int.natCast_succ, zrow, rowsOf, Nat.zero_mul, List.range_zero, List.map_nil, Nat.sub_zero, Int.toNat_natCast]
  (repeat' first | with_reducible (first | refine Asm.intro fun _ => ?_ | refine Chk.g ?_ | refine AnyI.i64 fun _ _ => ?_ | refine LetW.g ?_ | refine LetW.h ?_ | refine Ite.t fun _ => ?_ | refine Ite.f fun _ => ?_ | refine Ite.decide (fun _ => ?_) fun _ => ?_ | refine Ite.bool (fun _ => ?_) fun _ => ?_ | refine And.intro ?_ ?_) | omega | simp (maxSteps := 1000000) only [go_sem, reduceCtorEq, Nat.reduceLT, Nat.reduceLeDiff, reduceIte, ↓reduceIte, Nat.reduceEqDiff, Nat.reduceAdd, Nat.reduceMul, Nat.reduceSub, Int.reduceLE, Int.reduceLT, Int.reduceNeg, Int.reduceToNat])
  · refine VcLoop.intro (fun x : Nat => ⟨40, [(22, .int .i64 x), (21, .int .i64 w), (8, .int .i64 y), (18, .int .i64 y), (17, .int .i64 h), (7, .ptr 2 0), (6, .ptr 0 0), (0, .int .i64 w), (2, .fn f caps)], [(2, .box 50 [.int .i64 w, .int .i64 h, .own 1]), (0, .box 50 [.int .i64 0, .int .i64 0, .nilS]), (1, .row 4 (.bools (rowsOf w q (y * w + x) ++ List.replicate (n - (y * w + x)) false)))], 3⟩) (fun x => x ≤ w) (fun x => w - x) 0 ?_ (Nat.zero_le _) fun x hx => ?_
    · refine Ent.auto0 rfl ?_ ?_ <;> simp only [go_sem, reduceCtorEq, reduceIte, Nat.reduceEqDiff, Nat.reduceLT, Nat.reduceLeDiff, Int.natCast_succ, Nat.add_zero]
    (repeat' first | with_reducible (first | refine Asm.intro fun _ => ?_ | refine Chk.g ?_ | refine AnyI.i64 fun _ _ => ?_ | refine LetW.g ?_ | refine LetW.h ?_ | refine Ite.t fun _ => ?_ | refine Ite.f fun _ => ?_ | refine Ite.decide (fun _ => ?_) fun _ => ?_ | refine Ite.bool (fun _ => ?_) fun _ => ?_ | refine And.intro ?_ ?_) | omega | simp (maxSteps := 1000000) only [go_sem, reduceCtorEq, Nat.reduceLT, Nat.reduceLeDiff, reduceIte, ↓reduceIte, Nat.reduceEqDiff, Nat.reduceAdd, Nat.reduceMul, Nat.reduceSub, Int.reduceLE, Int.reduceLT, Int.reduceNeg, Int.reduceToNat])
    · have hb : y * w ≤ 4000 * 4000 := Nat.mul_le_mul (by omega) hw
      refine VcDraw.lex [12] [] (by kernel_rfl) (by kernel_rfl) ?_
      (repeat' first | with_reducible (first | refine Asm.intro fun _ => ?_ | refine Chk.g ?_ | refine AnyI.i64 fun _ _ => ?_ | refine LetW.g ?_ | refine LetW.h ?_ | refine Ite.t fun _ => ?_ | refine Ite.f fun _ => ?_ | refine Ite.decide (fun _ => ?_) fun _ => ?_ | refine Ite.bool (fun _ => ?_) fun _ => ?_ | refine And.intro ?_ ?_) | omega | simp (maxSteps := 1000000) only [go_sem, reduceCtorEq, Nat.reduceLT, Nat.reduceLeDiff, reduceIte, ↓reduceIte, Nat.reduceEqDiff, Nat.reduceAdd, Nat.reduceMul, Nat.reduceSub, Int.reduceLE, Int.reduceLT, Int.reduceNeg, Int.reduceToNat, up_mul, up_add])
      refine QV.intro (.bool (q x y)) ?_ ?_
      · (repeat' first | with_reducible (first | refine Asm.intro fun _ => ?_ | refine Chk.g ?_ | refine AnyI.i64 fun _ _ => ?_ | refine LetW.g ?_ | refine LetW.h ?_ | refine Ite.t fun _ => ?_ | refine Ite.f fun _ => ?_ | refine Ite.decide (fun _ => ?_) fun _ => ?_ | refine Ite.bool (fun _ => ?_) fun _ => ?_ | refine And.intro ?_ ?_) | omega | simp (maxSteps := 1000000) only [go_sem, reduceCtorEq, Nat.reduceLT, Nat.reduceLeDiff, reduceIte, ↓reduceIte, Nat.reduceEqDiff, Nat.reduceAdd, Nat.reduceMul, Nat.reduceSub, Int.reduceLE, Int.reduceLT, Int.reduceNeg, Int.reduceToNat])
        refine VcCall.fr (args' := [.int .i64 x, .int .i64 y] ++ caps) (hq x y (by omega) (by omega)) (by simp [argOkL, allOk, argOkN, allOk_caps]) 0 rfl (by simp [rowsB]) ?_
        (repeat' first | with_reducible (first | refine Asm.intro fun _ => ?_ | refine Chk.g ?_ | refine AnyI.i64 fun _ _ => ?_ | refine LetW.g ?_ | refine LetW.h ?_ | refine Ite.t fun _ => ?_ | refine Ite.f fun _ => ?_ | refine Ite.decide (fun _ => ?_) fun _ => ?_ | refine Ite.bool (fun _ => ?_) fun _ => ?_ | refine And.intro ?_ ?_) | omega | simp (maxSteps := 1000000) only [go_sem, reduceCtorEq, Nat.reduceLT, Nat.reduceLeDiff, reduceIte, ↓reduceIte, Nat.reduceEqDiff, Nat.reduceAdd, Nat.reduceMul, Nat.reduceSub, Int.reduceLE, Int.reduceLT, Int.reduceNeg, Int.reduceToNat])
      · have hl := hlt x y (by omega) (by omega)
        have hs := set_range (n := n) (fun k => q (k % w) (k / w)) false hl
        have hr := rowsOf_len w q (y * w + x)
        have e1 : (y * w + x) % w = x := by rw [Nat.mul_comm, Nat.mul_add_mod, Nat.mod_eq_of_lt (by omega)]
        have e2 : (y * w + x) / w = y := by rw [Nat.mul_comm, Nat.mul_add_div (by omega), Nat.div_eq_of_lt (by omega), Nat.add_zero]
        rw [e1, e2] at hs
        (repeat' first | with_reducible (first | refine Asm.intro fun _ => ?_ | refine Chk.g ?_ | refine AnyI.i64 fun _ _ => ?_ | refine LetW.g ?_ | refine LetW.h ?_ | refine Ite.t fun _ => ?_ | refine Ite.f fun _ => ?_ | refine Ite.decide (fun _ => ?_) fun _ => ?_ | refine Ite.bool (fun _ => ?_) fun _ => ?_ | refine And.intro ?_ ?_) | omega | simp (maxSteps := 1000000) only [go_sem, reduceCtorEq, Nat.reduceLT, Nat.reduceLeDiff, reduceIte, ↓reduceIte, Nat.reduceEqDiff, Nat.reduceAdd, Nat.reduceMul, Nat.reduceSub, Int.reduceLE, Int.reduceLT, Int.reduceNeg, Int.reduceToNat, up_mul, up_add, Int.toNat_natCast, List.length_append, List.length_replicate, hr])
        refine ⟨x + 1, Ent.auto0 rfl ?_ ?_, by omega, by omega⟩ <;> simp only [go_sem, reduceCtorEq, reduceIte, Nat.reduceEqDiff, Nat.reduceLT, Nat.reduceLeDiff, Int.natCast_succ]
        all_goals first | rfl | exact hs
    · refine ⟨y + 1, Ent.auto0 rfl ?_ ?_, by omega, by omega⟩ <;> simp only [go_sem, reduceCtorEq, reduceIte, Nat.reduceEqDiff, Nat.reduceLT, Nat.reduceLeDiff, Int.natCast_succ]
      have e : x = w := by omega
      all_goals first | rfl | rw [e, Nat.succ_mul]
  · have e : y = h := by omega
    subst e
    subst hn
    refine Ret.auto 1 ?_ rfl ?_ <;> simp only [go_sem, reduceCtorEq, reduceIte, Nat.reduceEqDiff, Nat.reduceLT, Nat.reduceLeDiff, Int.natCast_succ, Post, List.drop_zero, Nat.sub_self, List.replicate_zero, List.append_nil]
    all_goals simp (maxSteps := 1000000) only [go_sem, reduceCtorEq, Nat.reduceLT, Nat.reduceLeDiff, reduceIte, ↓reduceIte, Nat.reduceEqDiff, Nat.reduceAdd, Nat.reduceMul, Nat.reduceSub, Int.reduceLE, Int.reduceLT, Int.reduceNeg, Int.reduceToNat]

set_option maxHeartbeats 1000000 in
theorem cut1_ok (w h X Y W H : Nat) (hw : w ≤ 4000) (hh : h ≤ 4000) (p : List Bool) (hp : p.length = w * h) (hX : X + W ≤ w) (hY : Y + H ≤ h) (x y : Nat) (hx : x < W) (hy : y < H) :
    FnOk Tryz.prog 107 [.int .i64 x, .int .i64 y, .cell [.int .i64 w, .int .i64 h, .ro (.bools p)], .cell [.int .i64 X, .int .i64 Y, .int .i64 W, .int .i64 H]] (.bool (cutAt p w X Y x y)) [] := by
  have b1 : (Y + y) * w + w ≤ h * w := by rw [← Nat.succ_mul]; exact Nat.mul_le_mul_right _ (by omega)
  have b2 : h * w ≤ 4000 * 4000 := Nat.mul_le_mul hh hw
  have b3 : w * h = h * w := Nat.mul_comm _ _
  refine FnOk.of_vc Tryz.func107 rfl (by decide) (by simp [Tryz.f107]) [.tmp 6] rfl fun w0 T0 _ => ?_
  simp only [Tryz.f107, argEnv]
  (repeat' first | with_reducible (first | refine Asm.intro fun _ => ?_ | refine Chk.g ?_ | refine AnyI.i64 fun _ _ => ?_ | refine LetW.g ?_ | refine LetW.h ?_ | refine Ite.t fun _ => ?_ | refine Ite.f fun _ => ?_ | refine Ite.decide (fun _ => ?_) fun _ => ?_ | refine Ite.bool (fun _ => ?_) fun _ => ?_ | refine And.intro ?_ ?_) | omega | simp (maxSteps := 1000000) only [go_sem, reduceCtorEq, Nat.reduceLT, Nat.reduceLeDiff, reduceIte, ↓reduceIte, Nat.reduceEqDiff, Nat.reduceAdd, Nat.reduceMul, Nat.reduceSub, Int.reduceLE, Int.reduceLT, Int.reduceNeg, Int.reduceToNat, up_mul, up_add, Int.toNat_natCast])
  refine Ret.auto 0 ?_ rfl ?_ <;> simp only [go_sem, reduceCtorEq, reduceIte, Nat.reduceEqDiff, Nat.reduceLT, Nat.reduceLeDiff, Int.natCast_succ, Post, cutAt]

set_option maxHeartbeats 2000000 in
theorem cut_ok (w h X Y W H : Nat) (hw1 : 1 ≤ w) (hw : w ≤ 4000) (hh1 : 1 ≤ h) (hh : h ≤ 4000) (hwh : w * h ≤ 1048576) (p : List Bool) (hp : p.length = w * h) (hW : 1 ≤ W) (hH : 1 ≤ H) (hX : X + W ≤ w) (hY : Y + H ≤ h) :
    FnOk Tryz.prog 86 [.agg [.int .i64 w, .int .i64 h, .ro (.bools p)], .agg [.int .i64 X, .int .i64 Y, .int .i64 W, .int .i64 H]] (.tup [.agg [.int .i64 W, .int .i64 H, .own 0], .int .i64 0]) [(0, .row 4 (.bools (rowsOf W (cutAt p w X Y) (H * W))))] := by
  haveI c1 : CapsOk [.cell [.int .i64 w, .int .i64 h, .ro (.bools p)], .cell [.int .i64 X, .int .i64 Y, .int .i64 W, .int .i64 H]] := ⟨rfl⟩
  have k1 := pageMade_ok W H (by omega) (by omega) 107 [.cell [.int .i64 w, .int .i64 h, .ro (.bools p)], .cell [.int .i64 X, .int .i64 Y, .int .i64 W, .int .i64 H]] (cutAt p w X Y)
    (fun x y hx hy => FnFr.of_ok (cut1_ok w h X Y W H (by omega) (by omega) p hp hX hY x y hx hy) rfl rfl)
  generalize rowsOf W (cutAt p w X Y) (H * W) = out at *
  refine FnOk.of_vc Tryz.func86 rfl (by decide) (by simp [Tryz.f86]) [.cell 4 50, .tmp 5] rfl fun w0 T0 _ => ?_
  simp only [Tryz.f86, argEnv]
  (repeat' first | with_reducible (first | refine Asm.intro fun _ => ?_ | refine Chk.g ?_ | refine AnyI.i64 fun _ _ => ?_ | refine LetW.g ?_ | refine LetW.h ?_ | refine Ite.t fun _ => ?_ | refine Ite.f fun _ => ?_ | refine Ite.decide (fun _ => ?_) fun _ => ?_ | refine Ite.bool (fun _ => ?_) fun _ => ?_ | refine And.intro ?_ ?_) | omega | simp (maxSteps := 1000000) only [go_sem, reduceCtorEq, Nat.reduceLT, Nat.reduceLeDiff, reduceIte, ↓reduceIte, Nat.reduceEqDiff, Nat.reduceAdd, Nat.reduceMul, Nat.reduceSub, Int.reduceLE, Int.reduceLT, Int.reduceNeg, Int.reduceToNat])
  refine VcCall.fr (FnFr.of_ok (checkBoth_ok w h X Y W H hw1 hw hh1 hh hwh p hp hW hH hX hY) rfl rfl) (by simp only [noIdR_ok, argOkL, argOk, allOk, argOkN, List.drop_zero, lk, reduceIte, reduceCtorEq, Nat.reduceEqDiff, Option.some.injEq, Item.row.injEq, Item.box.injEq, AV.ro.injEq, exists_eq_left, exists_and_left, exists_eq_left', exists_eq_right, and_assoc, and_true, true_and, List.cons.injEq, exists_eq', exists_eq]) 0 rfl (by simp [rowsB]) ?_
  (repeat' first | with_reducible (first | refine Asm.intro fun _ => ?_ | refine Chk.g ?_ | refine AnyI.i64 fun _ _ => ?_ | refine LetW.g ?_ | refine LetW.h ?_ | refine Ite.t fun _ => ?_ | refine Ite.f fun _ => ?_ | refine Ite.decide (fun _ => ?_) fun _ => ?_ | refine Ite.bool (fun _ => ?_) fun _ => ?_ | refine And.intro ?_ ?_) | omega | simp (maxSteps := 1000000) only [go_sem, reduceCtorEq, Nat.reduceLT, Nat.reduceLeDiff, reduceIte, ↓reduceIte, Nat.reduceEqDiff, Nat.reduceAdd, Nat.reduceMul, Nat.reduceSub, Int.reduceLE, Int.reduceLT, Int.reduceNeg, Int.reduceToNat])
  refine VcCall.fr (FnFr.of_ok k1 rfl rfl) (by simp only [noIdR_ok, argOkL, argOk, allOk, argOkN, List.drop_zero, lk, reduceIte, reduceCtorEq, Nat.reduceEqDiff, Option.some.injEq, Item.row.injEq, Item.box.injEq, AV.ro.injEq, exists_eq_left, exists_and_left, exists_eq_left', exists_eq_right, and_assoc, and_true, true_and, List.cons.injEq, exists_eq', exists_eq]) 1 rfl (by simp [rowsB, Item.below, Fv.below, belowL]) ?_
  (repeat' first | with_reducible (first | refine Asm.intro fun _ => ?_ | refine Chk.g ?_ | refine AnyI.i64 fun _ _ => ?_ | refine LetW.g ?_ | refine LetW.h ?_ | refine Ite.t fun _ => ?_ | refine Ite.f fun _ => ?_ | refine Ite.decide (fun _ => ?_) fun _ => ?_ | refine Ite.bool (fun _ => ?_) fun _ => ?_ | refine And.intro ?_ ?_) | omega | simp (maxSteps := 1000000) only [go_sem, reduceCtorEq, Nat.reduceLT, Nat.reduceLeDiff, reduceIte, ↓reduceIte, Nat.reduceEqDiff, Nat.reduceAdd, Nat.reduceMul, Nat.reduceSub, Int.reduceLE, Int.reduceLT, Int.reduceNeg, Int.reduceToNat])
  refine Ret.auto 1 ?_ rfl ?_ <;> simp only [go_sem, reduceCtorEq, reduceIte, Nat.reduceEqDiff, Nat.reduceLT, Nat.reduceLeDiff, Int.natCast_succ, Post, List.drop_zero]
  all_goals simp (maxSteps := 1000000) only [go_sem, reduceCtorEq, Nat.reduceLT, Nat.reduceLeDiff, reduceIte, ↓reduceIte, Nat.reduceEqDiff, Nat.reduceAdd, Nat.reduceMul, Nat.reduceSub, Int.reduceLE, Int.reduceLT, Int.reduceNeg, Int.reduceToNat]

theorem sumB_take (l : List Bool) {i : Nat} (h : i < l.length) : ((l.take (i + 1)).map b2i).sum = ((l.take i).map b2i).sum + b2i (l.getD i false) := by
  rw [List.take_succ_eq_append_getElem h, List.map_append, List.sum_append, getD_lt h]
  simp
theorem sumB_bd : ∀ l : List Bool, 0 ≤ (l.map b2i).sum ∧ (l.map b2i).sum ≤ (l.length : Int)
  | [] => by simp
  | b :: l => by
    have := sumB_bd l
    cases b <;> simp [b2i] <;> omega

set_option maxHeartbeats 2000000 in
theorem ink_ok (w h X Y W H : Nat) (hw1 : 1 ≤ w) (hw : w ≤ 4000) (hh1 : 1 ≤ h) (hh : h ≤ 4000) (hwh : w * h ≤ 1048576) (p : List Bool) (hp : p.length = w * h) (hW : 1 ≤ W) (hH : 1 ≤ H) (hX : X + W ≤ w) (hY : Y + H ≤ h) :
    FnOk Tryz.prog 55 [.agg [.int .i64 w, .int .i64 h, .ro (.bools p)], .agg [.int .i64 X, .int .i64 Y, .int .i64 W, .int .i64 H]] (.tup [.int .i64 (inkN p w X Y W H), .int .i64 0]) [] := by
  have k1 := cut_ok w h X Y W H hw1 hw hh1 hh hwh p hp hW hH hX hY
  rw [← inkN_rows]
  have hl := rowsOf_len W (cutAt p w X Y) (H * W)
  have hb : H * W ≤ 4000 * 4000 := Nat.mul_le_mul (by omega) (by omega)
  generalize rowsOf W (cutAt p w X Y) (H * W) = l at *
  refine FnOk.of_vc Tryz.func55 rfl (by decide) (by simp [Tryz.f55]) [.tmp 4, .tmp 5] rfl fun w0 T0 _ => ?_
  simp only [Tryz.f55, argEnv]
  (repeat' first | with_reducible (first | refine Asm.intro fun _ => ?_ | refine Chk.g ?_ | refine AnyI.i64 fun _ _ => ?_ | refine LetW.g ?_ | refine LetW.h ?_ | refine Ite.t fun _ => ?_ | refine Ite.f fun _ => ?_ | refine Ite.decide (fun _ => ?_) fun _ => ?_ | refine Ite.bool (fun _ => ?_) fun _ => ?_ | refine And.intro ?_ ?_) | omega | simp (maxSteps := 1000000) only [go_sem, reduceCtorEq, Nat.reduceLT, Nat.reduceLeDiff, reduceIte, ↓reduceIte, Nat.reduceEqDiff, Nat.reduceAdd, Nat.reduceMul, Nat.reduceSub, Int.reduceLE, Int.reduceLT, Int.reduceNeg, Int.reduceToNat])
  refine VcCall.fr (FnFr.of_ok k1 rfl rfl) (by simp only [noIdR_ok, argOkL, argOk, allOk, argOkN, List.drop_zero, lk, reduceIte, reduceCtorEq, Nat.reduceEqDiff, Option.some.injEq, Item.row.injEq, Item.box.injEq, AV.ro.injEq, exists_eq_left, exists_and_left, exists_eq_left', exists_eq_right, and_assoc, and_true, true_and, List.cons.injEq, exists_eq', exists_eq]) 1 rfl (by simp [rowsB, Item.below, Fv.below, belowL]) ?_
  (repeat' first | with_reducible (first | refine Asm.intro fun _ => ?_ | refine Chk.g ?_ | refine AnyI.i64 fun _ _ => ?_ | refine LetW.g ?_ | refine LetW.h ?_ | refine Ite.t fun _ => ?_ | refine Ite.f fun _ => ?_ | refine Ite.decide (fun _ => ?_) fun _ => ?_ | refine Ite.bool (fun _ => ?_) fun _ => ?_ | refine And.intro ?_ ?_) | omega | simp (maxSteps := 1000000) only [go_sem, reduceCtorEq, Nat.reduceLT, Nat.reduceLeDiff, reduceIte, ↓reduceIte, Nat.reduceEqDiff, Nat.reduceAdd, Nat.reduceMul, Nat.reduceSub, Int.reduceLE, Int.reduceLT, Int.reduceNeg, Int.reduceToNat])
  refine VcLoop.intro (fun i : Nat => ⟨30, [(20, .int .i64 i), (19, .int .i64 l.length), (18, .own 2), (8, .int .i64 ((l.take i).map b2i).sum), (7, .int .i64 0)], [(2, .row 4 (.bools l))], 4⟩) (fun i => i ≤ l.length) (fun i => l.length - i) 0 ?_ (Nat.zero_le _) fun i hi => ?_
  · refine Ent.auto0 rfl ?_ ?_ <;> simp only [go_sem, reduceCtorEq, reduceIte, Nat.reduceEqDiff, Nat.reduceLT, Nat.reduceLeDiff, Int.natCast_succ, List.take_zero, List.map_nil, List.sum_nil]
  have hbd := sumB_bd (l.take i)
  have hlt := List.length_take (i := i) (l := l)
  (repeat' first | with_reducible (first | refine Asm.intro fun _ => ?_ | refine Chk.g ?_ | refine AnyI.i64 fun _ _ => ?_ | refine LetW.g ?_ | refine LetW.h ?_ | refine Ite.t fun _ => ?_ | refine Ite.f fun _ => ?_ | refine Ite.decide (fun _ => ?_) fun _ => ?_ | refine Ite.bool (fun _ => ?_) fun _ => ?_ | refine And.intro ?_ ?_) | omega | simp (maxSteps := 1000000) only [go_sem, reduceCtorEq, Nat.reduceLT, Nat.reduceLeDiff, reduceIte, ↓reduceIte, Nat.reduceEqDiff, Nat.reduceAdd, Nat.reduceMul, Nat.reduceSub, Int.reduceLE, Int.reduceLT, Int.reduceNeg, Int.reduceToNat])
  · rename_i h1 h2
    have hs := sumB_take l (i := i) (by omega)
    rw [h2] at hs
    refine ⟨i + 1, Ent.auto0 rfl ?_ ?_, by omega, by omega⟩ <;> simp only [go_sem, reduceCtorEq, reduceIte, Nat.reduceEqDiff, Nat.reduceLT, Nat.reduceLeDiff, Int.natCast_succ, hs, b2i]
    all_goals rfl
  · rename_i h1 h2
    have hs := sumB_take l (i := i) (by omega)
    rw [h2] at hs
    refine ⟨i + 1, Ent.auto0 rfl ?_ ?_, by omega, by omega⟩ <;> simp only [go_sem, reduceCtorEq, reduceIte, Nat.reduceEqDiff, Nat.reduceLT, Nat.reduceLeDiff, Int.natCast_succ, hs, b2i]
    simp
  · have e : i = l.length := by omega
    subst e
    rw [List.take_length]
    refine Ret.auto 0 ?_ rfl ?_ <;> simp only [go_sem, reduceCtorEq, reduceIte, Nat.reduceEqDiff, Nat.reduceLT, Nat.reduceLeDiff, Int.natCast_succ, Post]

set_option maxHeartbeats 2000000 in
theorem inkOf_ok (w h X Y W H : Nat) (hw : w ≤ 4000) (hh : h ≤ 4000) (p : List Bool) (hp : p.length = w * h) (hX : X + W ≤ w) (hY : Y + H ≤ h) :
    FnOk Tryz.prog 59 [.agg [.int .i64 w, .int .i64 h, .ro (.bools p)], .agg [.int .i64 X, .int .i64 Y, .int .i64 W, .int .i64 H]] (.int .i64 (inkN p w X Y W H)) [] := by
  rw [← inkN_eq]
  refine FnOk.of_vc Tryz.func59 rfl (by decide) (by simp [Tryz.f59]) [.tmp 4] rfl fun w0 T0 _ => ?_
  simp only [Tryz.f59, argEnv]
  (repeat' first | with_reducible (first | refine Asm.intro fun _ => ?_ | refine Chk.g ?_ | refine AnyI.i64 fun _ _ => ?_ | refine LetW.g ?_ | refine LetW.h ?_ | refine Ite.t fun _ => ?_ | refine Ite.f fun _ => ?_ | refine Ite.decide (fun _ => ?_) fun _ => ?_ | refine Ite.bool (fun _ => ?_) fun _ => ?_ | refine And.intro ?_ ?_) | omega | simp (maxSteps := 1000000) only [go_sem, reduceCtorEq, Nat.reduceLT, Nat.reduceLeDiff, reduceIte, ↓reduceIte, Nat.reduceEqDiff, Nat.reduceAdd, Nat.reduceMul, Nat.reduceSub, Int.reduceLE, Int.reduceLT, Int.reduceNeg, Int.reduceToNat])
  refine VcLoop.intro (fun j : Nat => ⟨37, [(6, .int .i64 (Y + j : Nat)), (5, .int .i64 (boxL (inkV p) w Y X W j).sum), (2, .ptr 0 0), (3, .ptr 1 0)], [(0, .box 50 [.int .i64 w, .int .i64 h, .ro (.bools p)]), (1, .box 83 [.int .i64 X, .int .i64 Y, .int .i64 W, .int .i64 H])], 2⟩) (fun j => j ≤ H) (fun j => H - j) 0 ?_ (Nat.zero_le _) fun j hj => ?_
  · refine Ent.auto0 rfl ?_ ?_ <;> simp only [go_sem, reduceCtorEq, reduceIte, Nat.reduceEqDiff, Nat.reduceLT, Nat.reduceLeDiff, Int.natCast_succ, Nat.add_zero, boxL, List.sum_nil]
  have b1 := box_bd p w Y X W j
  have b2 : j * W ≤ 4000 * 4000 := Nat.mul_le_mul (by omega) (by omega)
  (repeat' first | with_reducible (first | refine Asm.intro fun _ => ?_ | refine Chk.g ?_ | refine AnyI.i64 fun _ _ => ?_ | refine LetW.g ?_ | refine LetW.h ?_ | refine Ite.t fun _ => ?_ | refine Ite.f fun _ => ?_ | refine Ite.decide (fun _ => ?_) fun _ => ?_ | refine Ite.bool (fun _ => ?_) fun _ => ?_ | refine And.intro ?_ ?_) | omega | simp (maxSteps := 1000000) only [go_sem, reduceCtorEq, Nat.reduceLT, Nat.reduceLeDiff, reduceIte, ↓reduceIte, Nat.reduceEqDiff, Nat.reduceAdd, Nat.reduceMul, Nat.reduceSub, Int.reduceLE, Int.reduceLT, Int.reduceNeg, Int.reduceToNat])
  · refine VcLoop.intro (fun i : Nat => ⟨37, [(7, .int .i64 (X + i : Nat)), (6, .int .i64 (Y + j : Nat)), (5, .int .i64 ((boxL (inkV p) w Y X W j).sum + (segL (inkV p) w (Y + j) X i).sum)), (2, .ptr 0 0), (3, .ptr 1 0)], [(0, .box 50 [.int .i64 w, .int .i64 h, .ro (.bools p)]), (1, .box 83 [.int .i64 X, .int .i64 Y, .int .i64 W, .int .i64 H])], 2⟩) (fun i => i ≤ W) (fun i => W - i) 0 ?_ (Nat.zero_le _) fun i hi => ?_
    · refine Ent.auto0 rfl ?_ ?_ <;> simp only [go_sem, reduceCtorEq, reduceIte, Nat.reduceEqDiff, Nat.reduceLT, Nat.reduceLeDiff, Int.natCast_succ, Nat.add_zero, segL, List.range_zero, List.map_nil, List.sum_nil]
      omega
    have b3 := seg_bd p w (Y + j) X i
    (repeat' first | with_reducible (first | refine Asm.intro fun _ => ?_ | refine Chk.g ?_ | refine AnyI.i64 fun _ _ => ?_ | refine LetW.g ?_ | refine LetW.h ?_ | refine Ite.t fun _ => ?_ | refine Ite.f fun _ => ?_ | refine Ite.decide (fun _ => ?_) fun _ => ?_ | refine Ite.bool (fun _ => ?_) fun _ => ?_ | refine And.intro ?_ ?_) | omega | simp (maxSteps := 1000000) only [go_sem, reduceCtorEq, Nat.reduceLT, Nat.reduceLeDiff, reduceIte, ↓reduceIte, Nat.reduceEqDiff, Nat.reduceAdd, Nat.reduceMul, Nat.reduceSub, Int.reduceLE, Int.reduceLT, Int.reduceNeg, Int.reduceToNat])
    · have k := refAt_ok w h (by omega) (by omega) p hp (X + i : Nat) (Y + j : Nat)
      rw [atB_in p (by omega) (by omega)] at k
      have hs : (segL (inkV p) w (Y + j) X (i + 1)).sum = (segL (inkV p) w (Y + j) X i).sum + b2i (p.getD ((Y + j) * w + (X + i)) false) := by rw [segL_succ, List.sum_append]; simp [inkV, b2i]
      refine VcCall.fr (FnFr.of_ok k rfl rfl) (by simp only [noIdR_ok, argOkL, argOk, allOk, argOkN, List.drop_zero, lk, reduceIte, reduceCtorEq, Nat.reduceEqDiff, Option.some.injEq, Item.row.injEq, Item.box.injEq, AV.ro.injEq, exists_eq_left, exists_and_left, exists_eq_left', exists_eq_right, and_assoc, and_true, true_and, List.cons.injEq, exists_eq', exists_eq]) 0 rfl (by simp [rowsB]) ?_
      generalize p.getD ((Y + j) * w + (X + i)) false = c at *
      cases c with
      | true =>
        (repeat' first | with_reducible (first | refine Asm.intro fun _ => ?_ | refine Chk.g ?_ | refine AnyI.i64 fun _ _ => ?_ | refine LetW.g ?_ | refine LetW.h ?_ | refine Ite.t fun _ => ?_ | refine Ite.f fun _ => ?_ | refine Ite.decide (fun _ => ?_) fun _ => ?_ | refine Ite.bool (fun _ => ?_) fun _ => ?_ | refine And.intro ?_ ?_) | omega | simp (maxSteps := 1000000) only [go_sem, reduceCtorEq, Nat.reduceLT, Nat.reduceLeDiff, reduceIte, ↓reduceIte, Nat.reduceEqDiff, Nat.reduceAdd, Nat.reduceMul, Nat.reduceSub, Int.reduceLE, Int.reduceLT, Int.reduceNeg, Int.reduceToNat])
        refine ⟨i + 1, Ent.auto0 rfl ?_ ?_, by omega, by omega⟩ <;> simp only [go_sem, reduceCtorEq, reduceIte, Nat.reduceEqDiff, Nat.reduceLT, Nat.reduceLeDiff, Int.natCast_succ]
        rw [hs]
        exact ⟨by omega, by simp only [b2i, reduceIte]; omega⟩
      | false =>
        (repeat' first | with_reducible (first | refine Asm.intro fun _ => ?_ | refine Chk.g ?_ | refine AnyI.i64 fun _ _ => ?_ | refine LetW.g ?_ | refine LetW.h ?_ | refine Ite.t fun _ => ?_ | refine Ite.f fun _ => ?_ | refine Ite.decide (fun _ => ?_) fun _ => ?_ | refine Ite.bool (fun _ => ?_) fun _ => ?_ | refine And.intro ?_ ?_) | omega | simp (maxSteps := 1000000) only [go_sem, reduceCtorEq, Nat.reduceLT, Nat.reduceLeDiff, reduceIte, ↓reduceIte, Nat.reduceEqDiff, Nat.reduceAdd, Nat.reduceMul, Nat.reduceSub, Int.reduceLE, Int.reduceLT, Int.reduceNeg, Int.reduceToNat])
        refine ⟨i + 1, Ent.auto0 rfl ?_ ?_, by omega, by omega⟩ <;> simp only [go_sem, reduceCtorEq, reduceIte, Nat.reduceEqDiff, Nat.reduceLT, Nat.reduceLeDiff, Int.natCast_succ]
        rw [hs]
        exact ⟨by omega, by simp [b2i]⟩
    · have e : i = W := by omega
      subst e
      refine ⟨j + 1, Ent.auto0 rfl ?_ ?_, by omega, by omega⟩ <;> simp only [go_sem, reduceCtorEq, reduceIte, Nat.reduceEqDiff, Nat.reduceLT, Nat.reduceLeDiff, Int.natCast_succ, boxL, List.sum_append]
      omega
  · have e : j = H := by omega
    subst e
    refine Ret.auto 0 ?_ rfl ?_ <;> simp only [go_sem, reduceCtorEq, reduceIte, Nat.reduceEqDiff, Nat.reduceLT, Nat.reduceLeDiff, Int.natCast_succ, Post]
end Go.Fv.Z
