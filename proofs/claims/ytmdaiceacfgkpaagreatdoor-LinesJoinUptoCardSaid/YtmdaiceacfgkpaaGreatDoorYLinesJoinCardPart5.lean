/-
  A part of the proof of the claim: walks over the program's functions and the plain laws that these need. No condition of its own.
-/
import Derived.Test.YtmdaiceacfgkpaaGreatDoorYLinesJoinCardPart4
import Derived.Test.YtmdaiceacfgkpaaGreatDoorYLinesJoinCardPart3
import Derived.Sort.Walk0
import Derived.Test.YtmdaiceacfgkpaaGreatDoorYLinesJoinCardPart2
import Derived.Shelf.Small.Strs
/- JoinLines of the reference. -/
namespace Go.Fv.Y
open Go Go.Proofs
set_option linter.unusedSimpArgs false
set_option linter.unusedVariables false
set_option linter.unnecessarySimpa false
set_option maxRecDepth 8000

instance capsNil : CapsOk [] := ⟨rfl⟩
set_option maxHeartbeats 1000000 in
theorem refHas_ok (l : List Wd) (x : Bytes) : FnOk Tryz.prog 40 [.str x, .cell [.cell [.ro (wdR l)]]] (.bool (hasW l x)) [] := by
  have k1 := refCountD_ok l x
  have k2 := refSmall_ok x
  have k3 := refCountD_ok l (smallL x)
  unfold hasW
  generalize cntD l x = n1 at *
  generalize cntD l (smallL x) = n2 at *
  refine FnOk.of_vc Tryz.func40 rfl (by decide) (by simp [Tryz.f40]) [.tmp 3] rfl fun w0 T0 _ => ?_
  simp only [Tryz.f40, argEnv]
  (repeat' first | with_reducible (first | intro _ | refine rc ?_ | refine rl ?_ | refine rh ?_ | refine rt ?_ | refine rf ?_ | refine rs ?_ | refine And.intro ?_ ?_) | omega | simp (maxSteps := 1000000) only [go_sem, simprocAttr, ↓reduceIte])
  by_cases h : 0 < n1
  · rw [decide_eq_true h]
    refine VcDraw.lex [] [] (by kernel_rfl) (by kernel_rfl) ?_
    (repeat' first | with_reducible (first | intro _ | refine rc ?_ | refine rl ?_ | refine rh ?_ | refine rt ?_ | refine rf ?_ | refine rs ?_ | refine And.intro ?_ ?_) | omega | simp (maxSteps := 1000000) only [go_sem, simprocAttr, ↓reduceIte])
    refine QV.intro (.int .i64 n1) ?_ ?_
    · (repeat' first | with_reducible (first | intro _ | refine rc ?_ | refine rl ?_ | refine rh ?_ | refine rt ?_ | refine rf ?_ | refine rs ?_ | refine And.intro ?_ ?_) | omega | simp (maxSteps := 1000000) only [go_sem, simprocAttr, ↓reduceIte])
      refine VcCall.k (k1) ?_
      (repeat' first | with_reducible (first | intro _ | refine rc ?_ | refine rl ?_ | refine rh ?_ | refine rt ?_ | refine rf ?_ | refine rs ?_ | refine And.intro ?_ ?_) | omega | simp (maxSteps := 1000000) only [go_sem, simprocAttr, ↓reduceIte])
    (repeat' first | with_reducible (first | intro _ | refine rc ?_ | refine rl ?_ | refine rh ?_ | refine rt ?_ | refine rf ?_ | refine rs ?_ | refine And.intro ?_ ?_) | omega | simp (maxSteps := 1000000) only [go_sem, simprocAttr, ↓reduceIte, h])
    refine QV.intro (.str (smallL x)) ?_ ?_
    · (repeat' first | with_reducible (first | intro _ | refine rc ?_ | refine rl ?_ | refine rh ?_ | refine rt ?_ | refine rf ?_ | refine rs ?_ | refine And.intro ?_ ?_) | omega | simp (maxSteps := 1000000) only [go_sem, simprocAttr, ↓reduceIte])
    (repeat' first | with_reducible (first | intro _ | refine rc ?_ | refine rl ?_ | refine rh ?_ | refine rt ?_ | refine rf ?_ | refine rs ?_ | refine And.intro ?_ ?_) | omega | simp (maxSteps := 1000000) only [go_sem, simprocAttr, ↓reduceIte, h])
    refine QV.intro (.int .i64 n2) ?_ ?_
    · (repeat' first | with_reducible (first | intro _ | refine rc ?_ | refine rl ?_ | refine rh ?_ | refine rt ?_ | refine rf ?_ | refine rs ?_ | refine And.intro ?_ ?_) | omega | simp (maxSteps := 1000000) only [go_sem, simprocAttr, ↓reduceIte])
    (repeat' first | with_reducible (first | intro _ | refine rc ?_ | refine rl ?_ | refine rh ?_ | refine rt ?_ | refine rf ?_ | refine rs ?_ | refine And.intro ?_ ?_) | omega | simp (maxSteps := 1000000) only [go_sem, simprocAttr, ↓reduceIte, h])
    refine Ret.auto 0 ?_ rfl ?_ <;> simp only [go_sem, reduceCtorEq, reduceIte, Nat.reduceEqDiff, Nat.reduceLT, Nat.reduceLeDiff, Int.natCast_succ, Post, Bool.true_or]
  · rw [decide_eq_false h]
    refine VcDraw.lex [] [] (by kernel_rfl) (by kernel_rfl) ?_
    (repeat' first | with_reducible (first | intro _ | refine rc ?_ | refine rl ?_ | refine rh ?_ | refine rt ?_ | refine rf ?_ | refine rs ?_ | refine And.intro ?_ ?_) | omega | simp (maxSteps := 1000000) only [go_sem, simprocAttr, ↓reduceIte])
    refine QV.intro (.int .i64 n1) ?_ ?_
    · (repeat' first | with_reducible (first | intro _ | refine rc ?_ | refine rl ?_ | refine rh ?_ | refine rt ?_ | refine rf ?_ | refine rs ?_ | refine And.intro ?_ ?_) | omega | simp (maxSteps := 1000000) only [go_sem, simprocAttr, ↓reduceIte])
      refine VcCall.k (k1) ?_
      (repeat' first | with_reducible (first | intro _ | refine rc ?_ | refine rl ?_ | refine rh ?_ | refine rt ?_ | refine rf ?_ | refine rs ?_ | refine And.intro ?_ ?_) | omega | simp (maxSteps := 1000000) only [go_sem, simprocAttr, ↓reduceIte])
    (repeat' first | with_reducible (first | intro _ | refine rc ?_ | refine rl ?_ | refine rh ?_ | refine rt ?_ | refine rf ?_ | refine rs ?_ | refine And.intro ?_ ?_) | omega | simp (maxSteps := 1000000) only [go_sem, simprocAttr, ↓reduceIte, h])
    refine QV.intro (.str (smallL x)) ?_ ?_
    · (repeat' first | with_reducible (first | intro _ | refine rc ?_ | refine rl ?_ | refine rh ?_ | refine rt ?_ | refine rf ?_ | refine rs ?_ | refine And.intro ?_ ?_) | omega | simp (maxSteps := 1000000) only [go_sem, simprocAttr, ↓reduceIte])
      refine VcCall.k (k2) ?_
      (repeat' first | with_reducible (first | intro _ | refine rc ?_ | refine rl ?_ | refine rh ?_ | refine rt ?_ | refine rf ?_ | refine rs ?_ | refine And.intro ?_ ?_) | omega | simp (maxSteps := 1000000) only [go_sem, simprocAttr, ↓reduceIte])
    (repeat' first | with_reducible (first | intro _ | refine rc ?_ | refine rl ?_ | refine rh ?_ | refine rt ?_ | refine rf ?_ | refine rs ?_ | refine And.intro ?_ ?_) | omega | simp (maxSteps := 1000000) only [go_sem, simprocAttr, ↓reduceIte, h])
    refine QV.intro (.int .i64 n2) ?_ ?_
    · (repeat' first | with_reducible (first | intro _ | refine rc ?_ | refine rl ?_ | refine rh ?_ | refine rt ?_ | refine rf ?_ | refine rs ?_ | refine And.intro ?_ ?_) | omega | simp (maxSteps := 1000000) only [go_sem, simprocAttr, ↓reduceIte])
      refine VcCall.k (k3) ?_
      (repeat' first | with_reducible (first | intro _ | refine rc ?_ | refine rl ?_ | refine rh ?_ | refine rt ?_ | refine rf ?_ | refine rs ?_ | refine And.intro ?_ ?_) | omega | simp (maxSteps := 1000000) only [go_sem, simprocAttr, ↓reduceIte])
    (repeat' first | with_reducible (first | intro _ | refine rc ?_ | refine rl ?_ | refine rh ?_ | refine rt ?_ | refine rf ?_ | refine rs ?_ | refine And.intro ?_ ?_) | omega | simp (maxSteps := 1000000) only [go_sem, simprocAttr, ↓reduceIte, h])
    refine Ret.auto 0 ?_ rfl ?_ <;> simp only [go_sem, reduceCtorEq, reduceIte, Nat.reduceEqDiff, Nat.reduceLT, Nat.reduceLeDiff, Int.natCast_succ, Post, Bool.false_or]
set_option maxHeartbeats 16000000 in
theorem refJoin_ok (T : List Bytes) (hT : lenSum T ≤ 1048576) (l : List Wd) (h : Bytes → Bool) (hh : hasW l = h) (h0 : h [] = false) (E : Int) (hE : jErr T = E) (R : Bytes) (hR : (if E = 0 then jAll h T [] false else []) = R) :
    FnOk Tryz.prog 10 [.ro (.strs T), .cell [.ro (wdR l)]] (.tup [.str R, .int .i64 E]) [] := by
  have kH := fun x => refHas_ok l x
  rw [hh] at kH
  clear hh
  refine FnOk.of_vc Tryz.func10 rfl (by decide) (by simp [Tryz.f10]) [.tmp 4, .tmp 5] rfl fun w0 T0 _ => ?_
  simp only [Tryz.f10, argEnv]
  (repeat' first | with_reducible (first | intro _ | refine rc ?_ | refine rl ?_ | refine rh ?_ | refine rt ?_ | refine rf ?_ | refine rs ?_ | refine And.intro ?_ ?_) | omega | simp (maxSteps := 1000000) only [go_sem, simprocAttr, ↓reduceIte])
  refine VcLoop.intro (fun i : Nat => ⟨126, [(19, .int .i64 i), (18, .int .i64 T.length), (17, .ro (.strs T)), (6, .int .i64 (lenSum (T.take i) : Nat)), (0, .ro (.strs T)), (3, .ptr 0 0)], [(0, .box 29 [.cell [.ro (wdR l)]])], 1⟩) (fun i => i ≤ T.length) (fun i => T.length - i) 0 ?_ (Nat.zero_le _) fun i hi => ?_
  · refine Ent.auto0 rfl ?_ ?_ <;> simp only [go_sem, reduceCtorEq, reduceIte, Nat.reduceEqDiff, Nat.reduceLT, Nat.reduceLeDiff, Int.natCast_succ]
    all_goals rfl
  by_cases hlt : i < T.length
  · have h1 := lenSum_take hlt
    have h2 := lenSum_le T (i + 1)
    have h3 : ((lenSum (T.take (i + 1)) : Nat) : Int) = (lenSum (T.take i) : Nat) + ((T.getD i []).length : Nat) := by omega
    (repeat' first | with_reducible (first | intro _ | refine rc ?_ | refine rl ?_ | refine rh ?_ | refine rt ?_ | refine rf ?_ | refine rs ?_ | refine And.intro ?_ ?_) | omega | simp (maxSteps := 1000000) only [go_sem, simprocAttr, ↓reduceIte, elemA])
    refine ⟨i + 1, Ent.auto0 rfl ?_ ?_, by omega, by omega⟩ <;> simp only [go_sem, reduceCtorEq, reduceIte, Nat.reduceEqDiff, Nat.reduceLT, Nat.reduceLeDiff, Int.natCast_succ, h3]
  have e : i = T.length := by omega
  subst e
  rw [List.take_length]
  unfold jErr at hE
  by_cases hbig : 10000 < T.length ∨ 1048576 < lenSum T
  · rw [if_pos hbig] at hE
    subst hE
    rw [if_neg (by decide)] at hR
    subst hR
    have h1 : 10000 < T.length := by omega
    (repeat' first | with_reducible (first | intro _ | refine rc ?_ | refine rl ?_ | refine rh ?_ | refine rt ?_ | refine rf ?_ | refine rs ?_ | refine And.intro ?_ ?_) | omega | simp (maxSteps := 1000000) only [go_sem, simprocAttr, ↓reduceIte])
    refine Ret.auto 0 ?_ rfl ?_ <;> simp only [go_sem, reduceCtorEq, reduceIte, Nat.reduceEqDiff, Nat.reduceLT, Nat.reduceLeDiff, Int.natCast_succ, Post]
  rw [if_neg hbig] at hE
  have hb1 : T.length ≤ 10000 := by omega
  have kc := contFuncS_ok T 39 [] nlIn (fun s hs => FnFr.of_ok (joinNl_ok s (by
    obtain ⟨i, hi, rfl⟩ := List.getElem_of_mem hs
    have := elem_lenSum hi
    rw [getD_lt hi] at this
    omega)) rfl rfl)
  rw [show (T.any fun s => decide (0 ≤ Lib.index s [10])) = T.any nlIn from rfl] at hE
  (repeat' first | with_reducible (first | intro _ | refine rc ?_ | refine rl ?_ | refine rh ?_ | refine rt ?_ | refine rf ?_ | refine rs ?_ | refine And.intro ?_ ?_) | omega | simp (maxSteps := 1000000) only [go_sem, simprocAttr, ↓reduceIte])
  refine VcCall.k (kc) ?_
  cases hn : T.any nlIn with
  | true =>
    rw [hn, if_pos rfl] at hE
    subst hE
    rw [if_neg (by decide)] at hR
    subst hR
    (repeat' first | with_reducible (first | intro _ | refine rc ?_ | refine rl ?_ | refine rh ?_ | refine rt ?_ | refine rf ?_ | refine rs ?_ | refine And.intro ?_ ?_) | omega | simp (maxSteps := 1000000) only [go_sem, simprocAttr, ↓reduceIte])
    refine Ret.auto 0 ?_ rfl ?_ <;> simp only [go_sem, reduceCtorEq, reduceIte, Nat.reduceEqDiff, Nat.reduceLT, Nat.reduceLeDiff, Int.natCast_succ, Post]
  | false =>
  rw [hn, if_neg (by decide)] at hE
  subst hE
  rw [if_pos rfl] at hR
  clear kc hn hi hlt
  (repeat' first | with_reducible (first | intro _ | refine rc ?_ | refine rl ?_ | refine rh ?_ | refine rt ?_ | refine rf ?_ | refine rs ?_ | refine And.intro ?_ ?_) | omega | simp (maxSteps := 1000000) only [go_sem, simprocAttr, ↓reduceIte])
  refine VcLoop.intro (fun x : Nat × Bytes × Bool => ⟨126, [(42, .int .i64 x.1), (41, .int .i64 T.length), (40, .ro (.strs T)), (10, .str x.2.1), (11, .bool x.2.2), (9, .fn 40 [.ptr 0 0])], [(0, .box 29 [.cell [.ro (wdR l)]])], 1⟩) (fun x => x.1 ≤ T.length ∧ x.2.1.length ≤ lenSum (T.take x.1) + x.1 ∧ jAll h (T.drop x.1) x.2.1 x.2.2 = R) (fun x => T.length - x.1) (0, [], false) ?_ ⟨Nat.zero_le _, Nat.zero_le _, hR⟩ fun x hx => ?_
  · refine Ent.auto0 rfl ?_ ?_ <;> simp only [go_sem, reduceCtorEq, reduceIte, Nat.reduceEqDiff, Nat.reduceLT, Nat.reduceLeDiff, Int.natCast_succ]
  obtain ⟨i, b, ap⟩ := x
  obtain ⟨hi, hbl, hj⟩ := hx
  dsimp only at hi hbl hj ⊢
  by_cases hlt : i < T.length
  · have kt := trimW_ok (T.getD i [])
    have htl := trimB_len (T.getD i [])
    have hse := elem_lenSum hlt
    have hs1 := lenSum_take hlt
    have hs2 := lenSum_le T (i + 1)
    rw [jAll_drop _ hlt] at hj
    have hjl := jStep_len h b ap (trimB (T.getD i []))
    have hinv : ∀ x : Bytes × Bool, jStep h b ap (trimB (T.getD i [])) = x → i + 1 ≤ T.length ∧ x.1.length ≤ lenSum (T.take (i + 1)) + (i + 1) ∧ jAll h (T.drop (i + 1)) x.1 x.2 = R := fun x e => by
      rw [e] at hj hjl
      exact ⟨hlt, by omega, hj⟩
    clear hj hjl
    unfold jStep at hinv
    generalize hs0 : T.getD i [] = s0 at *
    generalize trimB s0 = s at *
    by_cases hs : s = []
    · subst hs
      have hinv := hinv _ (if_pos rfl)
      by_cases hb0 : b = []
      · subst hb0
        obtain ⟨i1, i2, i3⟩ := hinv
        (repeat' first | with_reducible (first | intro _ | refine rc ?_ | refine rl ?_ | refine rh ?_ | refine rt ?_ | refine rf ?_ | refine rs ?_ | refine And.intro ?_ ?_) | omega | simp (maxSteps := 1000000) only [go_sem, simprocAttr, ↓reduceIte, hs0, elemA])
        refine VcCall.k (kt) ?_
        (repeat' first | with_reducible (first | intro _ | refine rc ?_ | refine rl ?_ | refine rh ?_ | refine rt ?_ | refine rf ?_ | refine rs ?_ | refine And.intro ?_ ?_) | omega | simp (maxSteps := 1000000) only [go_sem, simprocAttr, ↓reduceIte, hs0])
        refine ⟨(i + 1, [], false), Ent.auto0 rfl ?_ ?_, ⟨i1, i2, (jAll_nil h _ false true).trans i3⟩, by dsimp only; omega⟩ <;> simp only [go_sem, reduceCtorEq, reduceIte, Nat.reduceEqDiff, Nat.reduceLT, Nat.reduceLeDiff, Int.natCast_succ]
      · (repeat' first | with_reducible (first | intro _ | refine rc ?_ | refine rl ?_ | refine rh ?_ | refine rt ?_ | refine rf ?_ | refine rs ?_ | refine And.intro ?_ ?_) | omega | simp (maxSteps := 1000000) only [go_sem, simprocAttr, ↓reduceIte, hs0, elemA])
        refine VcCall.k (kt) ?_
        (repeat' first | with_reducible (first | intro _ | refine rc ?_ | refine rl ?_ | refine rh ?_ | refine rt ?_ | refine rf ?_ | refine rs ?_ | refine And.intro ?_ ?_) | omega | simp (maxSteps := 1000000) only [go_sem, simprocAttr, ↓reduceIte, hs0, hb0])
        refine ⟨(i + 1, b, true), Ent.auto0 rfl ?_ ?_, hinv, by dsimp only; omega⟩ <;> simp only [go_sem, reduceCtorEq, reduceIte, Nat.reduceEqDiff, Nat.reduceLT, Nat.reduceLeDiff, Int.natCast_succ]
    rw [if_neg hs] at hinv
    have hsl : 0 < s.length := List.length_pos_iff.2 hs
    by_cases hb0 : b = []
    · subst hb0
      have hinv := hinv _ (if_pos rfl)
      (repeat' first | with_reducible (first | intro _ | refine rc ?_ | refine rl ?_ | refine rh ?_ | refine rt ?_ | refine rf ?_ | refine rs ?_ | refine And.intro ?_ ?_) | omega | simp (maxSteps := 1000000) only [go_sem, simprocAttr, ↓reduceIte, hs0, elemA])
      refine VcCall.k (kt) ?_
      (repeat' first | with_reducible (first | intro _ | refine rc ?_ | refine rl ?_ | refine rh ?_ | refine rt ?_ | refine rf ?_ | refine rs ?_ | refine And.intro ?_ ?_) | omega | simp (maxSteps := 1000000) only [go_sem, simprocAttr, ↓reduceIte, hs0, hs, List.length_nil])
      refine ⟨(i + 1, s, false), Ent.auto0 rfl ?_ ?_, hinv, by dsimp only; omega⟩ <;> simp only [go_sem, reduceCtorEq, reduceIte, Nat.reduceEqDiff, Nat.reduceLT, Nat.reduceLeDiff, Int.natCast_succ]
    rw [if_neg hb0] at hinv
    have hbp : 0 < b.length := List.length_pos_iff.2 hb0
    cases ap with
    | true =>
      have hinv := hinv _ (if_pos rfl)
      (repeat' first | with_reducible (first | intro _ | refine rc ?_ | refine rl ?_ | refine rh ?_ | refine rt ?_ | refine rf ?_ | refine rs ?_ | refine And.intro ?_ ?_) | omega | simp (maxSteps := 1000000) only [go_sem, simprocAttr, ↓reduceIte, hs0, elemA])
      refine VcCall.k (kt) ?_
      (repeat' first | with_reducible (first | intro _ | refine rc ?_ | refine rl ?_ | refine rh ?_ | refine rt ?_ | refine rf ?_ | refine rs ?_ | refine And.intro ?_ ?_) | omega | simp (maxSteps := 1000000) only [go_sem, simprocAttr, ↓reduceIte, hs0, hs, hb0])
      refine ⟨(i + 1, b ++ [10] ++ s, false), Ent.auto0 rfl ?_ ?_, hinv, by dsimp only; omega⟩ <;> simp only [go_sem, reduceCtorEq, reduceIte, Nat.reduceEqDiff, Nat.reduceLT, Nat.reduceLeDiff, Int.natCast_succ]
    | false =>
      rw [if_neg (by decide)] at hinv
      have e1 : ((b.length : Nat) : Int) - 1 = ((b.length - 1 : Nat) : Int) := by omega
      rcases (Classical.em (2 ≤ b.length)).symm with h2 | h2
      · have hinv := hinv _ (if_neg (by unfold hy; rw [decide_eq_false h2]; simp))
        (repeat' first | with_reducible (first | intro _ | refine rc ?_ | refine rl ?_ | refine rh ?_ | refine rt ?_ | refine rf ?_ | refine rs ?_ | refine And.intro ?_ ?_) | omega | simp (maxSteps := 1000000) only [go_sem, simprocAttr, ↓reduceIte, hs0, elemA])
        refine VcCall.k (kt) ?_
        (repeat' first | with_reducible (first | intro _ | refine rc ?_ | refine rl ?_ | refine rh ?_ | refine rt ?_ | refine rf ?_ | refine rs ?_ | refine And.intro ?_ ?_) | omega | simp (maxSteps := 1000000) only [go_sem, simprocAttr, ↓reduceIte, hs0, hs, hb0])
        refine ⟨(i + 1, b ++ [32] ++ s, false), Ent.auto0 rfl ?_ ?_, hinv, by dsimp only; omega⟩ <;> simp only [go_sem, reduceCtorEq, reduceIte, Nat.reduceEqDiff, Nat.reduceLT, Nat.reduceLeDiff, Int.natCast_succ]
      have e2 : ((b.length : Nat) : Int) - 2 = ((b.length - 2 : Nat) : Int) := by omega
      have t1 : (((b.length - 1 : Nat) : Int)).toNat = b.length - 1 := Int.toNat_natCast _
      have t2 : (((b.length - 2 : Nat) : Int)).toNat = b.length - 2 := Int.toNat_natCast _
      have ka := isLetter_ok (b.getD (b.length - 2) 0)
      have kb := isLetter_ok (s.getD 0 0)
      have hyd : hy b s = (decide (b.getD (b.length - 1) 0 = 45) && isL (b.getD (b.length - 2) 0) && isL (s.getD 0 0)) := by unfold hy; rw [decide_eq_true h2, Bool.true_and]
      rw [hyd] at hinv
      clear hyd
      have h45 := u8_45 (b.getD (b.length - 1) 0)
      have hlast : isL (b.getD (b.length - 2) 0) = true → isL ((b.take (b.length - 1)).getLastD 0) = true := fun h => by
        rw [List.getLastD_eq_getLast?, List.getLast?_eq_getElem?, List.length_take, List.getElem?_take_of_lt (by omega), show min (b.length - 1) b.length - 1 = b.length - 2 by omega, ← List.getD_eq_getElem?_getD]; exact h
      have hhead : ∃ r, s = s.getD 0 0 :: r := by
        cases s with
        | nil => exact absurd rfl hs
        | cons c r => exact ⟨r, rfl⟩
      obtain ⟨r, hr⟩ := hhead
      generalize hc2 : b.getD (b.length - 2) 0 = c2 at *
      generalize hc1 : b.getD (b.length - 1) 0 = c1 at *
      generalize hc3 : s.getD 0 0 = c3 at *
      rcases (Classical.em (c1 = 45)).symm with hc | hc
      · rw [decide_eq_false hc] at hinv
        have hinv := hinv _ (if_neg (by simp))
        have hc' : ¬ ((c1.toNat : Int) = 45) := fun h => hc (h45.2 h)
        (repeat' first | with_reducible (first | intro _ | refine rc ?_ | refine rl ?_ | refine rh ?_ | refine rt ?_ | refine rf ?_ | refine rs ?_ | refine And.intro ?_ ?_) | omega | simp (maxSteps := 1000000) only [go_sem, simprocAttr, ↓reduceIte, hs0, elemA])
        refine VcCall.k (kt) ?_
        (repeat' first | with_reducible (first | intro _ | refine rc ?_ | refine rl ?_ | refine rh ?_ | refine rt ?_ | refine rf ?_ | refine rs ?_ | refine And.intro ?_ ?_) | omega | simp (maxSteps := 1000000) only [go_sem, simprocAttr, ↓reduceIte, hs0, hs, hb0, e1, e2, t1, t2, hc1, hc2, hc3, hc'])
        refine ⟨(i + 1, b ++ [32] ++ s, false), Ent.auto0 rfl ?_ ?_, hinv, by dsimp only; omega⟩ <;> simp only [go_sem, reduceCtorEq, reduceIte, Nat.reduceEqDiff, Nat.reduceLT, Nat.reduceLeDiff, Int.natCast_succ]
      have hc' := h45.1 hc
      rw [decide_eq_true hc, Bool.true_and] at hinv
      cases hl2 : isL c2 with
      | false =>
        rw [hl2] at hinv ka
        have hinv := hinv _ (if_neg (by simp))
        (repeat' first | with_reducible (first | intro _ | refine rc ?_ | refine rl ?_ | refine rh ?_ | refine rt ?_ | refine rf ?_ | refine rs ?_ | refine And.intro ?_ ?_) | omega | simp (maxSteps := 1000000) only [go_sem, simprocAttr, ↓reduceIte, hs0, elemA])
        refine VcCall.k (kt) ?_
        (repeat' first | with_reducible (first | intro _ | refine rc ?_ | refine rl ?_ | refine rh ?_ | refine rt ?_ | refine rf ?_ | refine rs ?_ | refine And.intro ?_ ?_) | omega | simp (maxSteps := 1000000) only [go_sem, simprocAttr, ↓reduceIte, hs0, hs, hb0, e1, e2, t1, t2, hc1, hc2, hc3, hc'])
        refine VcCall.k (ka) ?_
        (repeat' first | with_reducible (first | intro _ | refine rc ?_ | refine rl ?_ | refine rh ?_ | refine rt ?_ | refine rf ?_ | refine rs ?_ | refine And.intro ?_ ?_) | omega | simp (maxSteps := 1000000) only [go_sem, simprocAttr, ↓reduceIte, hs0, hs, hb0, e1, e2, t1, t2, hc1, hc2, hc3, hc'])
        refine ⟨(i + 1, b ++ [32] ++ s, false), Ent.auto0 rfl ?_ ?_, hinv, by dsimp only; omega⟩ <;> simp only [go_sem, reduceCtorEq, reduceIte, Nat.reduceEqDiff, Nat.reduceLT, Nat.reduceLeDiff, Int.natCast_succ]
      | true =>
        rw [hl2, Bool.true_and] at hinv
        rw [hl2] at ka
        cases hl3 : isL c3 with
        | false =>
          rw [hl3] at hinv kb
          have hinv := hinv _ (if_neg (by simp))
          (repeat' first | with_reducible (first | intro _ | refine rc ?_ | refine rl ?_ | refine rh ?_ | refine rt ?_ | refine rf ?_ | refine rs ?_ | refine And.intro ?_ ?_) | omega | simp (maxSteps := 1000000) only [go_sem, simprocAttr, ↓reduceIte, hs0, elemA])
          refine VcCall.k (kt) ?_
          (repeat' first | with_reducible (first | intro _ | refine rc ?_ | refine rl ?_ | refine rh ?_ | refine rt ?_ | refine rf ?_ | refine rs ?_ | refine And.intro ?_ ?_) | omega | simp (maxSteps := 1000000) only [go_sem, simprocAttr, ↓reduceIte, hs0, hs, hb0, e1, e2, t1, t2, hc1, hc2, hc3, hc'])
          refine VcCall.k (ka) ?_
          (repeat' first | with_reducible (first | intro _ | refine rc ?_ | refine rl ?_ | refine rh ?_ | refine rt ?_ | refine rf ?_ | refine rs ?_ | refine And.intro ?_ ?_) | omega | simp (maxSteps := 1000000) only [go_sem, simprocAttr, ↓reduceIte, hs0, hs, hb0, e1, e2, t1, t2, hc1, hc2, hc3, hc'])
          refine VcCall.k (kb) ?_
          (repeat' first | with_reducible (first | intro _ | refine rc ?_ | refine rl ?_ | refine rh ?_ | refine rt ?_ | refine rf ?_ | refine rs ?_ | refine And.intro ?_ ?_) | omega | simp (maxSteps := 1000000) only [go_sem, simprocAttr, ↓reduceIte, hs0, hs, hb0, e1, e2, t1, t2, hc1, hc2, hc3, hc'])
          refine ⟨(i + 1, b ++ [32] ++ s, false), Ent.auto0 rfl ?_ ?_, hinv, by dsimp only; omega⟩ <;> simp only [go_sem, reduceCtorEq, reduceIte, Nat.reduceEqDiff, Nat.reduceLT, Nat.reduceLeDiff, Int.natCast_succ]
        | true =>
          rw [hl3, if_pos rfl] at hinv
          rw [hl3] at kb
          have kL := lastWord_ok (b.take (b.length - 1)) (by simp; omega)
          rw [lastT_toks (fun e => by have := congrArg List.length e; rw [List.length_take, List.length_nil] at this; omega) (hlast hl2)] at kL
          have kF := firstWord_ok s (by omega)
          have hht : headT (toks s [] []) = if isWd (frow s) = true then frow s else [] := by
            rw [hr]; exact headT_toks hl3
          rw [hht] at kF
          clear hht hlast
          have hgo := goes_eq h0 (lrow (b.take (b.length - 1))) (frow s)
          have hlr : (lrow (b.take (b.length - 1))).length ≤ b.length := by unfold lrow; simp; omega
          have hfr : (frow s).length ≤ s.length := frow_len s
          have hx1 : (if isWd (lrow (b.take (b.length - 1))) = true then lrow (b.take (b.length - 1)) else []).length ≤ b.length := by split <;> first | exact hlr | exact Nat.zero_le _
          have hx2 : (if isWd (frow s) = true then frow s else []).length ≤ s.length := by split <;> first | exact hfr | exact Nat.zero_le _
          generalize (if isWd (lrow (b.take (b.length - 1))) = true then lrow (b.take (b.length - 1)) else []) = x1 at *
          generalize (if isWd (frow s) = true then frow s else []) = x2 at *
          dsimp only at hgo
          rw [hgo] at hinv
          clear hgo hlr hfr
          have kH1 := kH (x1 ++ x2)
          have kH2 := kH x1
          have kH3 := kH x2
          (repeat' first | with_reducible (first | intro _ | refine rc ?_ | refine rl ?_ | refine rh ?_ | refine rt ?_ | refine rf ?_ | refine rs ?_ | refine And.intro ?_ ?_) | omega | simp (maxSteps := 1000000) only [go_sem, simprocAttr, ↓reduceIte, hs0, elemA])
          refine VcCall.k (kt) ?_
          (repeat' first | with_reducible (first | intro _ | refine rc ?_ | refine rl ?_ | refine rh ?_ | refine rt ?_ | refine rf ?_ | refine rs ?_ | refine And.intro ?_ ?_) | omega | simp (maxSteps := 1000000) only [go_sem, simprocAttr, ↓reduceIte, hs0, hs, hb0, e1, e2, t1, t2, hc1, hc2, hc3, hc'])
          refine VcCall.k (ka) ?_
          (repeat' first | with_reducible (first | intro _ | refine rc ?_ | refine rl ?_ | refine rh ?_ | refine rt ?_ | refine rf ?_ | refine rs ?_ | refine And.intro ?_ ?_) | omega | simp (maxSteps := 1000000) only [go_sem, simprocAttr, ↓reduceIte, hs0, hs, hb0, e1, e2, t1, t2, hc1, hc2, hc3, hc'])
          refine VcCall.k (kb) ?_
          (repeat' first | with_reducible (first | intro _ | refine rc ?_ | refine rl ?_ | refine rh ?_ | refine rt ?_ | refine rf ?_ | refine rs ?_ | refine And.intro ?_ ?_) | omega | simp (maxSteps := 1000000) only [go_sem, simprocAttr, ↓reduceIte, hs0, hs, hb0, e1, e2, t1, t2, hc1, hc2, hc3, hc'])
          refine VcCall.fr (FnFr.of_ok kL rfl rfl) (by simp only [noIdR_ok, argOkL, argOk, allOk, argOkN, List.drop_zero, lk, reduceIte, reduceCtorEq, Nat.reduceEqDiff, Option.some.injEq, Item.row.injEq, Item.box.injEq, AV.ro.injEq, exists_eq_left, exists_and_left, exists_eq_left', exists_eq_right, and_assoc, and_true, true_and, List.cons.injEq, exists_eq', exists_eq, Nat.sub_zero]) 1 rfl (by simp [rowsB, Item.below, Fv.below, belowL]) ?_
          (repeat' first | with_reducible (first | intro _ | refine rc ?_ | refine rl ?_ | refine rh ?_ | refine rt ?_ | refine rf ?_ | refine rs ?_ | refine And.intro ?_ ?_) | omega | simp (maxSteps := 1000000) only [go_sem, simprocAttr, ↓reduceIte, hs0, hs, hb0, e1, e2, t1, t2, hc1, hc2, hc3, hc'])
          refine VcCall.k (kF) ?_
          generalize h (x1 ++ x2) = p12 at *
          generalize h x1 = p1 at *
          generalize h x2 = p2 at *
          by_cases n1 : x1 = []
          · subst n1
            cases p1 with
            | true =>
              (repeat' first | with_reducible (first | intro _ | refine rc ?_ | refine rl ?_ | refine rh ?_ | refine rt ?_ | refine rf ?_ | refine rs ?_ | refine And.intro ?_ ?_) | omega | simp (maxSteps := 1000000) only [go_sem, simprocAttr, ↓reduceIte, hs0, hs, hb0, e1, e2, t1, t2, hc1, hc2, hc3, hc'])
              refine VcCall.k (kH2) ?_
              have hinv := hinv (b ++ s, false) (by simp)
              (repeat' first | with_reducible (first | intro _ | refine rc ?_ | refine rl ?_ | refine rh ?_ | refine rt ?_ | refine rf ?_ | refine rs ?_ | refine And.intro ?_ ?_) | omega | simp (maxSteps := 1000000) only [go_sem, simprocAttr, ↓reduceIte, hs0, hs, hb0, e1, e2, t1, t2, hc1, hc2, hc3, hc'])
              refine ⟨(i + 1, b ++ s, false), Ent.auto0 rfl ?_ ?_, hinv, by dsimp only; omega⟩ <;> simp only [go_sem, reduceCtorEq, reduceIte, Nat.reduceEqDiff, Nat.reduceLT, Nat.reduceLeDiff, Int.natCast_succ, Nat.sub_zero]
            | false =>
              (repeat' first | with_reducible (first | intro _ | refine rc ?_ | refine rl ?_ | refine rh ?_ | refine rt ?_ | refine rf ?_ | refine rs ?_ | refine And.intro ?_ ?_) | omega | simp (maxSteps := 1000000) only [go_sem, simprocAttr, ↓reduceIte, hs0, hs, hb0, e1, e2, t1, t2, hc1, hc2, hc3, hc'])
              refine VcCall.k (kH2) ?_
              (repeat' first | with_reducible (first | intro _ | refine rc ?_ | refine rl ?_ | refine rh ?_ | refine rt ?_ | refine rf ?_ | refine rs ?_ | refine And.intro ?_ ?_) | omega | simp (maxSteps := 1000000) only [go_sem, simprocAttr, ↓reduceIte, hs0, hs, hb0, e1, e2, t1, t2, hc1, hc2, hc3, hc'])
              refine VcCall.k (kH3) ?_
              cases p2 with
              | true =>
                have hinv := hinv (b ++ s, false) (by simp)
                (repeat' first | with_reducible (first | intro _ | refine rc ?_ | refine rl ?_ | refine rh ?_ | refine rt ?_ | refine rf ?_ | refine rs ?_ | refine And.intro ?_ ?_) | omega | simp (maxSteps := 1000000) only [go_sem, simprocAttr, ↓reduceIte, hs0, hs, hb0, e1, e2, t1, t2, hc1, hc2, hc3, hc'])
                refine ⟨(i + 1, b ++ s, false), Ent.auto0 rfl ?_ ?_, hinv, by dsimp only; omega⟩ <;> simp only [go_sem, reduceCtorEq, reduceIte, Nat.reduceEqDiff, Nat.reduceLT, Nat.reduceLeDiff, Int.natCast_succ, Nat.sub_zero]
              | false =>
                have hinv := hinv (b.take (b.length - 1) ++ s, false) (by simp)
                (repeat' first | with_reducible (first | intro _ | refine rc ?_ | refine rl ?_ | refine rh ?_ | refine rt ?_ | refine rf ?_ | refine rs ?_ | refine And.intro ?_ ?_) | omega | simp (maxSteps := 1000000) only [go_sem, simprocAttr, ↓reduceIte, hs0, hs, hb0, e1, e2, t1, t2, hc1, hc2, hc3, hc'])
                refine ⟨(i + 1, b.take (b.length - 1) ++ s, false), Ent.auto0 rfl ?_ ?_, hinv, by dsimp only; omega⟩ <;> simp only [go_sem, reduceCtorEq, reduceIte, Nat.reduceEqDiff, Nat.reduceLT, Nat.reduceLeDiff, Int.natCast_succ, Nat.sub_zero]
          by_cases n2 : x2 = []
          · subst n2
            cases p1 with
            | true =>
              (repeat' first | with_reducible (first | intro _ | refine rc ?_ | refine rl ?_ | refine rh ?_ | refine rt ?_ | refine rf ?_ | refine rs ?_ | refine And.intro ?_ ?_) | omega | simp (maxSteps := 1000000) only [go_sem, simprocAttr, ↓reduceIte, hs0, hs, hb0, e1, e2, t1, t2, hc1, hc2, hc3, hc', n1])
              refine VcCall.k (kH2) ?_
              have hinv := hinv (b ++ s, false) (by simp [n1])
              (repeat' first | with_reducible (first | intro _ | refine rc ?_ | refine rl ?_ | refine rh ?_ | refine rt ?_ | refine rf ?_ | refine rs ?_ | refine And.intro ?_ ?_) | omega | simp (maxSteps := 1000000) only [go_sem, simprocAttr, ↓reduceIte, hs0, hs, hb0, e1, e2, t1, t2, hc1, hc2, hc3, hc', n1])
              refine ⟨(i + 1, b ++ s, false), Ent.auto0 rfl ?_ ?_, hinv, by dsimp only; omega⟩ <;> simp only [go_sem, reduceCtorEq, reduceIte, Nat.reduceEqDiff, Nat.reduceLT, Nat.reduceLeDiff, Int.natCast_succ, Nat.sub_zero]
            | false =>
              (repeat' first | with_reducible (first | intro _ | refine rc ?_ | refine rl ?_ | refine rh ?_ | refine rt ?_ | refine rf ?_ | refine rs ?_ | refine And.intro ?_ ?_) | omega | simp (maxSteps := 1000000) only [go_sem, simprocAttr, ↓reduceIte, hs0, hs, hb0, e1, e2, t1, t2, hc1, hc2, hc3, hc', n1])
              refine VcCall.k (kH2) ?_
              (repeat' first | with_reducible (first | intro _ | refine rc ?_ | refine rl ?_ | refine rh ?_ | refine rt ?_ | refine rf ?_ | refine rs ?_ | refine And.intro ?_ ?_) | omega | simp (maxSteps := 1000000) only [go_sem, simprocAttr, ↓reduceIte, hs0, hs, hb0, e1, e2, t1, t2, hc1, hc2, hc3, hc', n1])
              refine VcCall.k (kH3) ?_
              cases p2 with
              | true =>
                have hinv := hinv (b ++ s, false) (by simp [n1])
                (repeat' first | with_reducible (first | intro _ | refine rc ?_ | refine rl ?_ | refine rh ?_ | refine rt ?_ | refine rf ?_ | refine rs ?_ | refine And.intro ?_ ?_) | omega | simp (maxSteps := 1000000) only [go_sem, simprocAttr, ↓reduceIte, hs0, hs, hb0, e1, e2, t1, t2, hc1, hc2, hc3, hc', n1])
                refine ⟨(i + 1, b ++ s, false), Ent.auto0 rfl ?_ ?_, hinv, by dsimp only; omega⟩ <;> simp only [go_sem, reduceCtorEq, reduceIte, Nat.reduceEqDiff, Nat.reduceLT, Nat.reduceLeDiff, Int.natCast_succ, Nat.sub_zero]
              | false =>
                have hinv := hinv (b.take (b.length - 1) ++ s, false) (by simp [n1])
                (repeat' first | with_reducible (first | intro _ | refine rc ?_ | refine rl ?_ | refine rh ?_ | refine rt ?_ | refine rf ?_ | refine rs ?_ | refine And.intro ?_ ?_) | omega | simp (maxSteps := 1000000) only [go_sem, simprocAttr, ↓reduceIte, hs0, hs, hb0, e1, e2, t1, t2, hc1, hc2, hc3, hc', n1])
                refine ⟨(i + 1, b.take (b.length - 1) ++ s, false), Ent.auto0 rfl ?_ ?_, hinv, by dsimp only; omega⟩ <;> simp only [go_sem, reduceCtorEq, reduceIte, Nat.reduceEqDiff, Nat.reduceLT, Nat.reduceLeDiff, Int.natCast_succ, Nat.sub_zero]
          cases p12 with
          | true =>
            (repeat' first | with_reducible (first | intro _ | refine rc ?_ | refine rl ?_ | refine rh ?_ | refine rt ?_ | refine rf ?_ | refine rs ?_ | refine And.intro ?_ ?_) | omega | simp (maxSteps := 1000000) only [go_sem, simprocAttr, ↓reduceIte, hs0, hs, hb0, e1, e2, t1, t2, hc1, hc2, hc3, hc', n1, n2])
            refine VcCall.k (kH1) ?_
            have hinv := hinv (b.take (b.length - 1) ++ s, false) (by simp [n1, n2])
            (repeat' first | with_reducible (first | intro _ | refine rc ?_ | refine rl ?_ | refine rh ?_ | refine rt ?_ | refine rf ?_ | refine rs ?_ | refine And.intro ?_ ?_) | omega | simp (maxSteps := 1000000) only [go_sem, simprocAttr, ↓reduceIte, hs0, hs, hb0, e1, e2, t1, t2, hc1, hc2, hc3, hc', n1, n2])
            refine ⟨(i + 1, b.take (b.length - 1) ++ s, false), Ent.auto0 rfl ?_ ?_, hinv, by dsimp only; omega⟩ <;> simp only [go_sem, reduceCtorEq, reduceIte, Nat.reduceEqDiff, Nat.reduceLT, Nat.reduceLeDiff, Int.natCast_succ, Nat.sub_zero]
          | false =>
            (repeat' first | with_reducible (first | intro _ | refine rc ?_ | refine rl ?_ | refine rh ?_ | refine rt ?_ | refine rf ?_ | refine rs ?_ | refine And.intro ?_ ?_) | omega | simp (maxSteps := 1000000) only [go_sem, simprocAttr, ↓reduceIte, hs0, hs, hb0, e1, e2, t1, t2, hc1, hc2, hc3, hc', n1, n2])
            refine VcCall.k (kH1) ?_
            cases p1 with
            | true =>
              (repeat' first | with_reducible (first | intro _ | refine rc ?_ | refine rl ?_ | refine rh ?_ | refine rt ?_ | refine rf ?_ | refine rs ?_ | refine And.intro ?_ ?_) | omega | simp (maxSteps := 1000000) only [go_sem, simprocAttr, ↓reduceIte, hs0, hs, hb0, e1, e2, t1, t2, hc1, hc2, hc3, hc', n1, n2])
              refine VcCall.k (kH2) ?_
              have hinv := hinv (b ++ s, false) (by simp [n1, n2])
              (repeat' first | with_reducible (first | intro _ | refine rc ?_ | refine rl ?_ | refine rh ?_ | refine rt ?_ | refine rf ?_ | refine rs ?_ | refine And.intro ?_ ?_) | omega | simp (maxSteps := 1000000) only [go_sem, simprocAttr, ↓reduceIte, hs0, hs, hb0, e1, e2, t1, t2, hc1, hc2, hc3, hc', n1, n2])
              refine ⟨(i + 1, b ++ s, false), Ent.auto0 rfl ?_ ?_, hinv, by dsimp only; omega⟩ <;> simp only [go_sem, reduceCtorEq, reduceIte, Nat.reduceEqDiff, Nat.reduceLT, Nat.reduceLeDiff, Int.natCast_succ, Nat.sub_zero]
            | false =>
              (repeat' first | with_reducible (first | intro _ | refine rc ?_ | refine rl ?_ | refine rh ?_ | refine rt ?_ | refine rf ?_ | refine rs ?_ | refine And.intro ?_ ?_) | omega | simp (maxSteps := 1000000) only [go_sem, simprocAttr, ↓reduceIte, hs0, hs, hb0, e1, e2, t1, t2, hc1, hc2, hc3, hc', n1, n2])
              refine VcCall.k (kH2) ?_
              (repeat' first | with_reducible (first | intro _ | refine rc ?_ | refine rl ?_ | refine rh ?_ | refine rt ?_ | refine rf ?_ | refine rs ?_ | refine And.intro ?_ ?_) | omega | simp (maxSteps := 1000000) only [go_sem, simprocAttr, ↓reduceIte, hs0, hs, hb0, e1, e2, t1, t2, hc1, hc2, hc3, hc', n1, n2])
              refine VcCall.k (kH3) ?_
              cases p2 with
              | true =>
                have hinv := hinv (b ++ s, false) (by simp [n1, n2])
                (repeat' first | with_reducible (first | intro _ | refine rc ?_ | refine rl ?_ | refine rh ?_ | refine rt ?_ | refine rf ?_ | refine rs ?_ | refine And.intro ?_ ?_) | omega | simp (maxSteps := 1000000) only [go_sem, simprocAttr, ↓reduceIte, hs0, hs, hb0, e1, e2, t1, t2, hc1, hc2, hc3, hc', n1, n2])
                refine ⟨(i + 1, b ++ s, false), Ent.auto0 rfl ?_ ?_, hinv, by dsimp only; omega⟩ <;> simp only [go_sem, reduceCtorEq, reduceIte, Nat.reduceEqDiff, Nat.reduceLT, Nat.reduceLeDiff, Int.natCast_succ, Nat.sub_zero]
              | false =>
                have hinv := hinv (b.take (b.length - 1) ++ s, false) (by simp [n1, n2])
                (repeat' first | with_reducible (first | intro _ | refine rc ?_ | refine rl ?_ | refine rh ?_ | refine rt ?_ | refine rf ?_ | refine rs ?_ | refine And.intro ?_ ?_) | omega | simp (maxSteps := 1000000) only [go_sem, simprocAttr, ↓reduceIte, hs0, hs, hb0, e1, e2, t1, t2, hc1, hc2, hc3, hc', n1, n2])
                refine ⟨(i + 1, b.take (b.length - 1) ++ s, false), Ent.auto0 rfl ?_ ?_, hinv, by dsimp only; omega⟩ <;> simp only [go_sem, reduceCtorEq, reduceIte, Nat.reduceEqDiff, Nat.reduceLT, Nat.reduceLeDiff, Int.natCast_succ, Nat.sub_zero]
  · have e : i = T.length := by omega
    subst e
    rw [List.drop_length] at hj
    have hj : b = R := hj
    subst hj
    (repeat' first | with_reducible (first | intro _ | refine rc ?_ | refine rl ?_ | refine rh ?_ | refine rt ?_ | refine rf ?_ | refine rs ?_ | refine And.intro ?_ ?_) | omega | simp (maxSteps := 1000000) only [go_sem, simprocAttr, ↓reduceIte])
    refine Ret.auto 0 ?_ rfl ?_ <;> simp only [go_sem, reduceCtorEq, reduceIte, Nat.reduceEqDiff, Nat.reduceLT, Nat.reduceLeDiff, Int.natCast_succ, Post]
end Go.Fv.Y

/- slices.BinarySearch of words. -/
namespace Go.Fv.Y
open Go Go.Proofs
set_option linter.unusedSimpArgs false
set_option linter.unusedVariables false
set_option linter.unnecessarySimpa false
set_option maxRecDepth 8000

end Go.Fv.Y

/- Begin, and the reference's. -/
namespace Go.Fv.Y
open Go Go.Proofs
set_option linter.unusedSimpArgs false
set_option linter.unusedVariables false
set_option linter.unnecessarySimpa false
set_option maxRecDepth 8000

end Go.Fv.Y

/- strings.Compare, and slices.SortFunc of words, by the shelf. -/
namespace Go.Proofs
open Go.Shelf
def Tryz.lays106_ren : Go.Shelf.Ren := ⟨fun | 106 => 57 | 213 => 96 | 265 => 128 | n => n, fun | 9 => 9 | 3 => 3 | n => n, fun | n => n⟩
theorem Tryz.lays106 : Go.Proofs.Lays.n106 Tryz.prog Tryz.lays106_ren := {
  mixed := by kernel_rfl
  f106 := Tryz.func57.trans (congrArg some (by kernel_rfl))
  f213 := Tryz.func96.trans (congrArg some (by kernel_rfl))
  f265 := Tryz.func128.trans (congrArg some (by kernel_rfl))
  t3 := Tryz.underlying3
  a3 := Tryz.isAgg3
  z3 := Tryz.sizeOf3
  v3 := Tryz.zeroValue3
  t9 := Tryz.underlying9
  a9 := Tryz.isAgg9
  z9 := Tryz.sizeOf9
  v9 := Tryz.zeroValue9 }
end Go.Proofs
namespace Go.Proofs
open Go.Shelf
def Tryz.lSoW_ren : Go.Shelf.Ren := ⟨fun | 6 => 86 | 15 => 95 | 14 => 114 | 28 => 126 | 29 => 127 | 20 => 147 | 21 => 148 | 22 => 149 | 23 => 150 | 24 => 151 | 25 => 152 | 26 => 153 | 27 => 154 | 46 => 170 | 47 => 158 | 48 => 159 | 49 => 171 | 50 => 172 | 57 => 176 | n => n, fun | 22 => 23 | 24 => 56 | 25 => 128 | 3 => 3 | 39 => 145 | 0 => 0 | 53 => 165 | 55 => 167 | 4 => 4 | 46 => 158 | 45 => 157 | 50 => 162 | 5 => 5 | 9 => 9 | 66 => 187 | 70 => 191 | 76 => 199 | 77 => 200 | n => n, fun | n => n⟩
theorem Tryz.lSoW : Go.Proofs.SlLaysF0.n6 Tryz.prog Tryz.lSoW_ren := {
  mixed := by kernel_rfl
  f6 := ⟨Tryz.f86.name, by decide, Tryz.func86.trans (congrArg some (by kernel_rfl))⟩
  f14 := ⟨Tryz.f114.name, by decide, Tryz.func114.trans (congrArg some (by kernel_rfl))⟩
  f15 := Tryz.func95.trans (congrArg some (by kernel_rfl))
  f20 := ⟨Tryz.f147.name, by decide, Tryz.func147.trans (congrArg some (by kernel_rfl))⟩
  f21 := ⟨Tryz.f148.name, by decide, Tryz.func148.trans (congrArg some (by kernel_rfl))⟩
  f22 := ⟨Tryz.f149.name, by decide, Tryz.func149.trans (congrArg some (by kernel_rfl))⟩
  f23 := ⟨Tryz.f150.name, by decide, Tryz.func150.trans (congrArg some (by kernel_rfl))⟩
  f24 := ⟨Tryz.f151.name, by decide, Tryz.func151.trans (congrArg some (by kernel_rfl))⟩
  f25 := ⟨Tryz.f152.name, by decide, Tryz.func152.trans (congrArg some (by kernel_rfl))⟩
  f26 := ⟨Tryz.f153.name, by decide, Tryz.func153.trans (congrArg some (by kernel_rfl))⟩
  f27 := ⟨Tryz.f154.name, by decide, Tryz.func154.trans (congrArg some (by kernel_rfl))⟩
  f28 := Tryz.func126.trans (congrArg some (by kernel_rfl))
  f29 := Tryz.func127.trans (congrArg some (by kernel_rfl))
  f46 := ⟨Tryz.f170.name, by decide, Tryz.func170.trans (congrArg some (by kernel_rfl))⟩
  f47 := Tryz.func158.trans (congrArg some (by kernel_rfl))
  f48 := Tryz.func159.trans (congrArg some (by kernel_rfl))
  f49 := ⟨Tryz.f171.name, by decide, Tryz.func171.trans (congrArg some (by kernel_rfl))⟩
  f50 := ⟨Tryz.f172.name, by decide, Tryz.func172.trans (congrArg some (by kernel_rfl))⟩
  f57 := ⟨Tryz.f176.name, by decide, Tryz.func176.trans (congrArg some (by kernel_rfl))⟩
  t0 := Tryz.underlying0
  a0 := Tryz.isAgg0
  z0 := Tryz.sizeOf0
  v0 := Tryz.zeroValue0
  t3 := Tryz.underlying3
  a3 := Tryz.isAgg3
  z3 := Tryz.sizeOf3
  v3 := Tryz.zeroValue3
  t4 := Tryz.underlying4
  a4 := Tryz.isAgg4
  z4 := Tryz.sizeOf4
  v4 := Tryz.zeroValue4
  t5 := Tryz.underlying5
  a5 := Tryz.isAgg5
  z5 := Tryz.sizeOf5
  v5 := Tryz.zeroValue5
  t9 := Tryz.underlying9
  a9 := Tryz.isAgg9
  z9 := Tryz.sizeOf9
  v9 := Tryz.zeroValue9
  t22 := Tryz.underlying23
  a22 := Tryz.isAgg23
  z22 := Tryz.sizeOf23
  v22 := Tryz.zeroValue23
  t25 := Tryz.underlying128
  a25 := Tryz.isAgg128
  z25 := Tryz.sizeOf128
  v25 := Tryz.zeroValue128
  t39 := Tryz.underlying145
  a39 := Tryz.isAgg145
  z39 := Tryz.sizeOf145
  v39 := Tryz.zeroValue145
  t45 := Tryz.underlying157
  a45 := Tryz.isAgg157
  z45 := Tryz.sizeOf157
  v45 := Tryz.zeroValue157
  t46 := Tryz.underlying158
  a46 := Tryz.isAgg158
  z46 := Tryz.sizeOf158
  v46 := Tryz.zeroValue158
  t50 := Tryz.underlying162
  a50 := Tryz.isAgg162
  z50 := Tryz.sizeOf162
  v50 := Tryz.zeroValue162
  t53 := Tryz.underlying165
  a53 := Tryz.isAgg165
  z53 := Tryz.sizeOf165
  v53 := Tryz.zeroValue165
  t55 := Tryz.underlying167
  a55 := Tryz.isAgg167
  z55 := Tryz.sizeOf167
  v55 := Tryz.zeroValue167
  t66 := Tryz.underlying187
  a66 := Tryz.isAgg187
  z66 := Tryz.sizeOf187
  v66 := Tryz.zeroValue187
  t70 := Tryz.underlying191
  a70 := Tryz.isAgg191
  z70 := Tryz.sizeOf191
  v70 := Tryz.zeroValue191
  t76 := Tryz.underlying199
  a76 := Tryz.isAgg199
  z76 := Tryz.sizeOf199
  v76 := Tryz.zeroValue199
  t77 := Tryz.underlying200
  a77 := Tryz.isAgg200
  z77 := Tryz.sizeOf200
  v77 := Tryz.zeroValue200 }
end Go.Proofs
namespace Go.Fv.Y
open Go Go.Proofs
set_option linter.unusedSimpArgs false
set_option linter.unusedVariables false
set_option linter.unnecessarySimpa false
set_option maxRecDepth 8000

theorem compareS_ok (s t : List UInt8) : FnOk Tryz.prog 57 [.str s, .str t] (.int .i64 (Lib.compareBytes s t)) [] := by
  refine ⟨⟨_, Tryz.func57, by kernel_rfl, by kernel_rfl⟩, fun w T vals hg hv => ?_⟩
  cases hv with
  | cons _ _ _ _ h1 hv => cases hv with
    | cons _ _ _ _ h2 hv =>
      cases hv
      cases h1 with
      | str _ e1 => cases h2 with
        | str _ e2 =>
          have L := Tryz.lays106
          refine (Any.strings_Compare { L with } ⟨s.toArray⟩ ⟨t.toArray⟩ w).mono ?_
          rintro e w' ⟨rfl, rfl⟩
          refine ⟨_, rfl, BelowD.refl _ _, fun _ => undef, 0, ?_, ?_, ?_⟩
          · have h1 := cmp_bd s t
            have e1 : IntKind.i64.min = -9223372036854775808 := by decide
            have e2 : IntKind.i64.max = 9223372036854775807 := by decide
            exact .int .i64 _ ⟨by rw [e1]; omega, by rw [e2]; omega⟩
          · intro i it h; cases h
          · intro i j it jt b h; cases h
theorem refDict1_ok (x y : Wd) : FnOk Tryz.prog 87 [.agg x.av, .agg y.av] (.int .i64 (cfW x y)) [] := by
  have k := compareS_ok x.t y.t
  unfold Wd.av cfW
  refine FnOk.of_vc Tryz.func87 rfl (by decide) (by simp [Tryz.f87]) [.tmp 4] rfl fun w0 T0 _ => ?_
  simp only [Tryz.f87, argEnv]
  (repeat' first | with_reducible (first | intro _ | refine rc ?_ | refine rl ?_ | refine rh ?_ | refine rt ?_ | refine rf ?_ | refine rs ?_ | refine And.intro ?_ ?_) | omega | simp (maxSteps := 1000000) only [go_sem, simprocAttr, ↓reduceIte])
  refine VcCall.k (k) ?_
  (repeat' first | with_reducible (first | intro _ | refine rc ?_ | refine rl ?_ | refine rh ?_ | refine rt ?_ | refine rf ?_ | refine rs ?_ | refine And.intro ?_ ?_) | omega | simp (maxSteps := 1000000) only [go_sem, simprocAttr, ↓reduceIte])
  refine Ret.auto 0 ?_ rfl ?_ <;> simp only [go_sem, reduceCtorEq, reduceIte, Nat.reduceEqDiff, Nat.reduceLT, Nat.reduceLeDiff, Int.natCast_succ, Post]
theorem sortWd_io (F : Nat) (kF : ∀ x y, FnFr Tryz.prog F [.agg (Wd.av x), .agg (Wd.av y)] (.int .i64 (cfW x y)) []) (l : List Wd) (hl : ∀ x, x ∈ l → WdOk x) (hn : (l.map Wd.t).Nodup) (hln : l.length ≤ 1000000000) :
    FnIO Tryz.prog 86 [.own 0, .fn F []] [(0, .row 56 (wdR l))] 1 (.tup []) [(0, .row 56 (wdR (sortW l)))] := by
  obtain ⟨l', hp, hs, kS⟩ := sortFK_io Wd.av 2 (fun _ => rfl) (by decide) Tryz.lSoW ⟨_, Tryz.func86, by kernel_rfl, by kernel_rfl⟩ Tryz.isAgg56 Tryz.sizeOf56 56 (good := WdOk)
    cfW_ord F [] rfl (fun x y _ _ => kF x y) l hl (fun x hx y hy => by
      unfold WdOk at hx
      unfold Wd.av at hy
      rcases List.mem_cons.1 hy with rfl | hy
      · show x.t.length ≤ maxLen
        have : maxLen = 9223372036854775807 := rfl
        omega
      · rw [List.mem_singleton] at hy; subst hy; exact InK_i64.2 (by omega)) (by omega)
  rw [sortW_eq hp hs hn] at kS
  exact kS
end Go.Fv.Y

/- The reference's DictError and NewDict. -/
namespace Go.Fv.Y
open Go Go.Proofs
set_option linter.unusedSimpArgs false
set_option linter.unusedVariables false
set_option linter.unnecessarySimpa false
set_option maxRecDepth 8000

def sKs (l : List Wd) : List AV := (l.map Wd.t).map .str
def sVs (l : List Wd) : List AV := (l.map Wd.t).map fun _ => .bool true
theorem updKs_s {l : List Wd} {w : Wd} (h : w.t ∉ l.map Wd.t) : updKs (sKs l) (.str w.t) = sKs (l ++ [w]) := updKs_d h
theorem updVs_s {l : List Wd} {w : Wd} (h : w.t ∉ l.map Wd.t) : updVs (sKs l) (sVs l) (.str w.t) (.bool true) = sVs (l ++ [w]) := by
  unfold updVs sKs sVs
  rw [keyIdx_strs, ixOf_none.2 h]
  simp
theorem getB_s (l : List Wd) (x : Bytes) : getB (sKs l) (sVs l) (.str x) = decide (x ∈ l.map Wd.t) := by
  unfold getB getV sKs sVs
  rw [keyIdx_strs]
  cases h : ixOf (l.map Wd.t) x with
  | none => simp [ixOf_none.1 h]
  | some j =>
    have hj := ixOf_some h
    have hm := List.mem_of_getElem? hj
    obtain ⟨a1, a2⟩ := List.getElem?_eq_some_iff.1 hj
    rw [decide_eq_true hm]
    simp only [Option.bind_some, List.getElem?_map, List.getElem?_map]
    rw [List.getElem?_eq_getElem (by simpa using a1)]
    rfl
theorem isB_s (l : List Wd) : (sVs l).all isB = true := by simp [sVs, isB]
theorem ren_sKs (p : Nat → Nat) (l : List Wd) : renL p (sKs l) = sKs l := renL_kmap p (fun _ => rfl) _
theorem ren_sVs (p : Nat → Nat) (l : List Wd) : renL p (sVs l) = sVs l := renL_kmap p (fun _ => rfl) _
theorem below_sKs (n : Nat) (l : List Wd) : belowL n (sKs l) = true := belowL_kmap n (fun _ => rfl) _
theorem below_sVs (n : Nat) (l : List Wd) : belowL n (sVs l) = true := belowL_kmap n (fun _ => rfl) _
theorem mk_sKs (l : List Wd) (y : List AV) : mkL (sKs l) y = [] := mkL_kmap (fun _ => rfl) _ _
theorem mk_sVs (l : List Wd) (y : List AV) : mkL (sVs l) y = [] := mkL_kmap (fun _ => rfl) _ _
theorem keysT_s {P : Program} {kt : TypeId} (h : P.underlying kt = some .string) (l : List Wd) : KeysT P kt (sKs l) := KeysT_map (fun n => KeyT.str h n) _
theorem wdEs_take (l : List Wd) {i : Nat} (h : i < l.length) : wdEs ((l.take i).map Wd.t) (l.drop i) = if wdE ((l.take i).map Wd.t) (l.getD i Wd.zero) = 0 then wdEs ((l.take (i + 1)).map Wd.t) (l.drop (i + 1)) else wdE ((l.take i).map Wd.t) (l.getD i Wd.zero) := by
  rw [wdEs_drop l h]
  rw [show (l.take (i + 1)).map Wd.t = (l.take i).map Wd.t ++ [(l.getD i Wd.zero).t] by rw [List.take_succ_eq_append_getElem h, List.map_append, getD_lt h]; rfl]
set_option maxHeartbeats 4000000 in
theorem refDictError_ok (l : List Wd) : FnOk Tryz.prog 36 [.ro (wdR l)] (.int .i64 (dictErr l)) [] := by
  unfold dictErr
  refine FnOk.of_vc Tryz.func36 rfl (by decide) (by simp [Tryz.f36]) [.tmp 2] rfl fun w0 T0 _ => ?_
  simp only [Tryz.f36, argEnv]
  by_cases h0 : 5000 < l.length
  · (repeat' first | with_reducible (first | intro _ | refine rc ?_ | refine rl ?_ | refine rh ?_ | refine rt ?_ | refine rf ?_ | refine rs ?_ | refine And.intro ?_ ?_) | omega | simp (maxSteps := 1000000) only [go_sem, simprocAttr, ↓reduceIte, List.length_map])
    refine Ret.auto 0 ?_ rfl ?_ <;> simp only [go_sem, reduceCtorEq, reduceIte, Nat.reduceEqDiff, Nat.reduceLT, Nat.reduceLeDiff, Int.natCast_succ, Post, h0]
  rw [if_neg h0]
  (repeat' first | with_reducible (first | intro _ | refine rc ?_ | refine rl ?_ | refine rh ?_ | refine rt ?_ | refine rf ?_ | refine rs ?_ | refine And.intro ?_ ?_) | omega | simp (maxSteps := 1000000) only [go_sem, simprocAttr, ↓reduceIte, List.length_map])
  refine VcLoop.intro (fun i : Nat => ⟨39, [(12, .int .i64 i), (11, .int .i64 l.length), (10, .ro (wdR l)), (3, .own 0)], [(0, .map (sKs (l.take i)) (sVs (l.take i)))], 1⟩) (fun i => i ≤ l.length ∧ wdEs ((l.take i).map Wd.t) (l.drop i) = wdEs [] l) (fun i => l.length - i) 0 ?_ ⟨Nat.zero_le _, rfl⟩ fun i hi => ?_
  · refine Ent.auto0 rfl ?_ ?_ <;> simp only [go_sem, reduceCtorEq, reduceIte, Nat.reduceEqDiff, Nat.reduceLT, Nat.reduceLeDiff, Int.natCast_succ, List.take_zero, ren_sKs, ren_sVs, below_sKs, below_sVs, mk_sKs, mk_sVs]
    all_goals rfl
  obtain ⟨hi, hc⟩ := hi
  by_cases hlt : i < l.length
  · have he := wd_elem l hlt
    rw [wdEs_take l hlt] at hc
    have ht : l.take (i + 1) = l.take i ++ [l.getD i Wd.zero] := by rw [List.take_succ_eq_append_getElem hlt, getD_lt hlt]
    generalize l.getD i Wd.zero = y at *
    have e1 := getB_s (l.take i) y.t
    have e2 := fun h => @updKs_s (l.take i) y h
    have e3 := fun h => @updVs_s (l.take i) y h
    have e4 := isB_s (l.take i)
    have e5 : KeysT Tryz.prog 9 (sKs (l.take i)) := keysT_s (by kernel_rfl) _
    rw [← ht] at e2 e3
    generalize hL1 : l.take (i + 1) = L1 at *
    generalize l.take i = L0 at *
    have kw := refIsWordA_ok y.t
    unfold wdE at hc
    obtain ⟨yt, yc⟩ := y
    dsimp only at he hc e1 e2 e3 kw
    cases hw : isWd yt with
    | false =>
      rw [hw] at kw
      rw [if_neg (by rw [if_pos hw]; decide), if_pos hw] at hc
      (repeat' first | with_reducible (first | intro _ | refine rc ?_ | refine rl ?_ | refine rh ?_ | refine rt ?_ | refine rf ?_ | refine rs ?_ | refine And.intro ?_ ?_) | omega | simp (maxSteps := 1000000) only [go_sem, simprocAttr, ↓reduceIte, elemA, he, List.length_map])
      refine VcCall.k (kw) ?_
      (repeat' first | with_reducible (first | intro _ | refine rc ?_ | refine rl ?_ | refine rh ?_ | refine rt ?_ | refine rf ?_ | refine rs ?_ | refine And.intro ?_ ?_) | omega | simp (maxSteps := 1000000) only [go_sem, simprocAttr, ↓reduceIte])
      refine Ret.auto 0 ?_ rfl ?_ <;> simp only [go_sem, reduceCtorEq, reduceIte, Nat.reduceEqDiff, Nat.reduceLT, Nat.reduceLeDiff, Int.natCast_succ, Post, ← hc]
    | true =>
      rw [hw] at kw
      rw [if_neg (show ¬ isWd yt = false by rw [hw]; decide)] at hc
      by_cases hr : yc < 1 ∨ 1000000000 < yc
      · rw [if_neg (by rw [if_pos hr]; decide), if_pos hr] at hc
        (repeat' first | with_reducible (first | intro _ | refine rc ?_ | refine rl ?_ | refine rh ?_ | refine rt ?_ | refine rf ?_ | refine rs ?_ | refine And.intro ?_ ?_) | omega | simp (maxSteps := 1000000) only [go_sem, simprocAttr, ↓reduceIte, elemA, he, List.length_map])
        refine VcCall.k (kw) ?_
        (repeat' first | with_reducible (first | intro _ | refine rc ?_ | refine rl ?_ | refine rh ?_ | refine rt ?_ | refine rf ?_ | refine rs ?_ | refine And.intro ?_ ?_) | omega | simp (maxSteps := 1000000) only [go_sem, simprocAttr, ↓reduceIte, hr])
        refine Ret.auto 0 ?_ rfl ?_ <;> simp only [go_sem, reduceCtorEq, reduceIte, Nat.reduceEqDiff, Nat.reduceLT, Nat.reduceLeDiff, Int.natCast_succ, Post, ← hc]
      · rw [if_neg hr] at hc
        by_cases hm : yt ∈ L0.map Wd.t
        · rw [decide_eq_true hm] at e1
          rw [if_neg (by rw [if_pos hm]; decide), if_pos hm] at hc
          (repeat' first | with_reducible (first | intro _ | refine rc ?_ | refine rl ?_ | refine rh ?_ | refine rt ?_ | refine rf ?_ | refine rs ?_ | refine And.intro ?_ ?_) | omega | simp (maxSteps := 1000000) only [go_sem, simprocAttr, ↓reduceIte, elemA, he, List.length_map])
          refine VcCall.k (kw) ?_
          (repeat' first | with_reducible (first | intro _ | refine rc ?_ | refine rl ?_ | refine rh ?_ | refine rt ?_ | refine rf ?_ | refine rs ?_ | refine And.intro ?_ ?_) | omega | simp (maxSteps := 1000000) only [go_sem, simprocAttr, ↓reduceIte, hr, e1, e4, e5])
          refine Ret.auto 0 ?_ rfl ?_ <;> simp only [go_sem, reduceCtorEq, reduceIte, Nat.reduceEqDiff, Nat.reduceLT, Nat.reduceLeDiff, Int.natCast_succ, Post, ← hc]
        · rw [decide_eq_false hm] at e1
          rw [if_pos (by rw [if_neg hm])] at hc
          have e2 := e2 hm
          have e3 := e3 hm
          (repeat' first | with_reducible (first | intro _ | refine rc ?_ | refine rl ?_ | refine rh ?_ | refine rt ?_ | refine rf ?_ | refine rs ?_ | refine And.intro ?_ ?_) | omega | simp (maxSteps := 1000000) only [go_sem, simprocAttr, ↓reduceIte, elemA, he, List.length_map])
          refine VcCall.k (kw) ?_
          (repeat' first | with_reducible (first | intro _ | refine rc ?_ | refine rl ?_ | refine rh ?_ | refine rt ?_ | refine rf ?_ | refine rs ?_ | refine And.intro ?_ ?_) | omega | simp (maxSteps := 1000000) only [go_sem, simprocAttr, ↓reduceIte, hr, e1, e2, e3, e4, e5])
          refine ⟨i + 1, Ent.auto0 rfl ?_ ?_, ⟨by omega, by rw [hL1]; exact hc⟩, by omega⟩ <;> simp only [go_sem, reduceCtorEq, reduceIte, Nat.reduceEqDiff, Nat.reduceLT, Nat.reduceLeDiff, Int.natCast_succ, hL1, ren_sKs, ren_sVs, below_sKs, below_sVs, mk_sKs, mk_sVs]
  · have e : i = l.length := by omega
    subst e
    rw [List.drop_length] at hc
    (repeat' first | with_reducible (first | intro _ | refine rc ?_ | refine rl ?_ | refine rh ?_ | refine rt ?_ | refine rf ?_ | refine rs ?_ | refine And.intro ?_ ?_) | omega | simp (maxSteps := 1000000) only [go_sem, simprocAttr, ↓reduceIte, List.length_map])
    refine Ret.auto 0 ?_ rfl ?_ <;> simp only [go_sem, reduceCtorEq, reduceIte, Nat.reduceEqDiff, Nat.reduceLT, Nat.reduceLeDiff, Int.natCast_succ, Post, ← hc, wdEs]
end Go.Fv.Y
