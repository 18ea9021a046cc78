/-
  A part of the proof of the claim: walks over the program's functions and the plain laws that these need. No condition of its own.
-/
import Derived.Test.YtmdaiceacfgkpaaGreatDoorYLinesJoinCardPart2
import Derived.Test.YtmdaiceacfgkpaaGreatDoorYLinesJoinCardPart3
import Derived.Test.YtmdaiceacfgkpaaGreatDoorYLinesJoinCardPart1
import Derived.Test.YtmdaiceacfgkpaaGreatDoorFvPart9
/- JoinLines. -/
namespace Go.Fv.Y
open Go Go.Proofs
set_option linter.unusedSimpArgs false
set_option linter.unusedVariables false
set_option linter.unnecessarySimpa false
set_option maxRecDepth 8000

theorem elem_lenSum {T : List Bytes} {i : Nat} (h : i < T.length) : (T.getD i []).length ≤ lenSum T := by
  have h1 := lenSum_take h
  have h2 := lenSum_le T (i + 1)
  omega
theorem any_drop {T : List Bytes} {i : Nat} (h : i < T.length) (q : Bytes → Bool) : (T.drop i).any q = (q (T.getD i []) || (T.drop (i + 1)).any q) := by
  rw [List.drop_eq_getElem_cons h, getD_lt h, List.any_cons]
theorem trimW_ok (s : Bytes) : FnOk Tryz.prog 31 [.str s, .str [32, 9]] (.str (trimB s)) [] :=
  trimA_ok s [32, 9] (fun i hi => by
    have : i = 0 ∨ i = 1 := by simp at hi; omega
    rcases this with rfl | rfl <;> decide) (by decide)
theorem byteInts_app (a b : Bytes) : byteInts (a ++ b) = byteInts a ++ b.map (fun b => (b.toNat : Int)) := by unfold byteInts; rw [List.map_append]
theorem byteInts_take (a : Bytes) (n : Nat) : byteInts (a.take n) = (byteInts a).take n := by unfold byteInts; rw [List.map_take]
theorem byteInts_back (b : Bytes) : ((byteInts b).map fun n => UInt8.ofNat n.toNat) = b := by
  have := bytesOf_byteInts b
  unfold bytesOf at this
  exact this
set_option maxHeartbeats 1000000 in
theorem joinNil_ok (T : List Bytes) : FnOk Tryz.prog 8 [.ro (.strs T), .raw (.pointer none)] (.tup [.str [], .int .i64 2]) [] := by
  refine FnOk.of_vc Tryz.func8 rfl (by decide) (by simp [Tryz.f8]) [.tmp 4, .tmp 5] rfl fun w0 T0 _ => ?_
  simp only [Tryz.f8, argEnv]
  (repeat' first | with_reducible (first | intro _ | refine rc ?_ | refine rl ?_ | refine rh ?_ | refine rt ?_ | refine rf ?_ | refine rs ?_ | refine And.intro ?_ ?_) | omega | simp (maxSteps := 1000000) only [go_sem, simprocAttr, ↓reduceIte])
  refine Ret.auto 0 ?_ rfl ?_ <;> simp only [go_sem, reduceCtorEq, reduceIte, Nat.reduceEqDiff, Nat.reduceLT, Nat.reduceLeDiff, Int.natCast_succ, Post]
theorem u8_45 (c : UInt8) : c = 45 ↔ (c.toNat : Int) = 45 := by
  constructor
  · rintro rfl; rfl
  · intro h
    apply UInt8.toNat_inj.1
    have : (45 : UInt8).toNat = 45 := rfl
    omega
theorem frow_len (s : Bytes) : (frow s).length ≤ s.length := by
  unfold frow dropR
  rw [List.length_reverse]
  have h1 := takeWhile_len_le qu (s.takeWhile inW).reverse
  have h2 := takeWhile_len_le inW s
  rw [List.length_reverse] at h1
  omega
set_option maxHeartbeats 16000000 in
theorem joinLines_ok (T : List Bytes) (hT : lenSum T ≤ 1048576) (l : List Wd) (ws : List Bytes) (E : Int) (hE : jErr T = E) (R : Bytes) (hR : (if E = 0 then jAll (hasW l) T [] false else []) = R) :
    FnOk Tryz.prog 8 [.ro (.strs T), .cell [.mp (dKs l) (dVs l), .ro (.strs ws)]] (.tup [.str R, .int .i64 E]) [] := by
  refine FnOk.of_vc Tryz.func8 rfl (by decide) (by simp [Tryz.f8]) [.tmp 4, .tmp 5] rfl fun w0 T0 _ => ?_
  simp only [Tryz.f8, argEnv]
  (repeat' first | with_reducible (first | intro _ | refine rc ?_ | refine rl ?_ | refine rh ?_ | refine rt ?_ | refine rf ?_ | refine rs ?_ | refine And.intro ?_ ?_) | omega | simp (maxSteps := 1000000) only [go_sem, simprocAttr, ↓reduceIte])
  refine VcLoop.intro (fun i : Nat => ⟨112, [(20, .int .i64 i), (19, .int .i64 T.length), (18, .ro (.strs T)), (6, .int .i64 (lenSum (T.take i) : Nat)), (0, .ro (.strs T)), (1, .cell [.mp (dKs l) (dVs l), .ro (.strs ws)])], [], 0⟩) (fun i => i ≤ T.length) (fun i => T.length - i) 0 ?_ (Nat.zero_le _) fun i hi => ?_
  · refine Ent.auto0 rfl ?_ ?_ <;> simp only [go_sem, reduceCtorEq, reduceIte, Nat.reduceEqDiff, Nat.reduceLT, Nat.reduceLeDiff, Int.natCast_succ]
    all_goals rfl
  by_cases hlt : i < T.length
  · have h1 := lenSum_take hlt
    have h2 := lenSum_le T (i + 1)
    have h3 : ((lenSum (T.take (i + 1)) : Nat) : Int) = (lenSum (T.take i) : Nat) + ((T.getD i []).length : Nat) := by omega
    (repeat' first | with_reducible (first | intro _ | refine rc ?_ | refine rl ?_ | refine rh ?_ | refine rt ?_ | refine rf ?_ | refine rs ?_ | refine And.intro ?_ ?_) | omega | simp (maxSteps := 1000000) only [go_sem, simprocAttr, ↓reduceIte, elemA])
    refine ⟨i + 1, Ent.auto0 rfl ?_ ?_, by omega, by omega⟩ <;> simp only [go_sem, reduceCtorEq, reduceIte, Nat.reduceEqDiff, Nat.reduceLT, Nat.reduceLeDiff, Int.natCast_succ, h3]
  have e : i = T.length := by omega
  subst e
  rw [List.take_length]
  unfold jErr at hE
  by_cases hbig : 10000 < T.length ∨ 1048576 < lenSum T
  · rw [if_pos hbig] at hE
    subst hE
    rw [if_neg (by decide)] at hR
    subst hR
    have h1 : 10000 < T.length := by omega
    (repeat' first | with_reducible (first | intro _ | refine rc ?_ | refine rl ?_ | refine rh ?_ | refine rt ?_ | refine rf ?_ | refine rs ?_ | refine And.intro ?_ ?_) | omega | simp (maxSteps := 1000000) only [go_sem, simprocAttr, ↓reduceIte])
    refine Ret.auto 0 ?_ rfl ?_ <;> simp only [go_sem, reduceCtorEq, reduceIte, Nat.reduceEqDiff, Nat.reduceLT, Nat.reduceLeDiff, Int.natCast_succ, Post]
  rw [if_neg hbig] at hE
  have hb1 : T.length ≤ 10000 := by omega
  (repeat' first | with_reducible (first | intro _ | refine rc ?_ | refine rl ?_ | refine rh ?_ | refine rt ?_ | refine rf ?_ | refine rs ?_ | refine And.intro ?_ ?_) | omega | simp (maxSteps := 1000000) only [go_sem, simprocAttr, ↓reduceIte])
  refine VcLoop.intro (fun i : Nat => ⟨112, [(38, .int .i64 i), (37, .int .i64 T.length), (36, .ro (.strs T)), (0, .ro (.strs T)), (1, .cell [.mp (dKs l) (dVs l), .ro (.strs ws)])], [], 0⟩) (fun i => i ≤ T.length ∧ (T.drop i).any (fun s => decide (0 ≤ Lib.index s [10])) = T.any fun s => decide (0 ≤ Lib.index s [10])) (fun i => T.length - i) 0 ?_ ⟨Nat.zero_le _, rfl⟩ fun i hi => ?_
  · refine Ent.auto0 rfl ?_ ?_ <;> simp only [go_sem, reduceCtorEq, reduceIte, Nat.reduceEqDiff, Nat.reduceLT, Nat.reduceLeDiff, Int.natCast_succ]
  obtain ⟨hi, ha⟩ := hi
  by_cases hlt : i < T.length
  · have k := strContains_ok (T.getD i []) [10] (by have := elem_lenSum hlt; omega)
    rw [any_drop hlt] at ha
    generalize hs0 : T.getD i [] = s at *
    by_cases hn : 0 ≤ Lib.index s [10]
    · rw [decide_eq_true hn] at k ha
      rw [← ha, Bool.true_or, if_pos rfl] at hE
      subst hE
      rw [if_neg (by decide)] at hR
      subst hR
      (repeat' first | with_reducible (first | intro _ | refine rc ?_ | refine rl ?_ | refine rh ?_ | refine rt ?_ | refine rf ?_ | refine rs ?_ | refine And.intro ?_ ?_) | omega | simp (maxSteps := 1000000) only [go_sem, simprocAttr, ↓reduceIte, hs0, elemA])
      refine VcCall.k (k) ?_
      (repeat' first | with_reducible (first | intro _ | refine rc ?_ | refine rl ?_ | refine rh ?_ | refine rt ?_ | refine rf ?_ | refine rs ?_ | refine And.intro ?_ ?_) | omega | simp (maxSteps := 1000000) only [go_sem, simprocAttr, ↓reduceIte, hs0])
      refine Ret.auto 0 ?_ rfl ?_ <;> simp only [go_sem, reduceCtorEq, reduceIte, Nat.reduceEqDiff, Nat.reduceLT, Nat.reduceLeDiff, Int.natCast_succ, Post]
    · rw [decide_eq_false hn] at k ha
      rw [Bool.false_or] at ha
      (repeat' first | with_reducible (first | intro _ | refine rc ?_ | refine rl ?_ | refine rh ?_ | refine rt ?_ | refine rf ?_ | refine rs ?_ | refine And.intro ?_ ?_) | omega | simp (maxSteps := 1000000) only [go_sem, simprocAttr, ↓reduceIte, hs0, elemA])
      refine VcCall.k (k) ?_
      (repeat' first | with_reducible (first | intro _ | refine rc ?_ | refine rl ?_ | refine rh ?_ | refine rt ?_ | refine rf ?_ | refine rs ?_ | refine And.intro ?_ ?_) | omega | simp (maxSteps := 1000000) only [go_sem, simprocAttr, ↓reduceIte, hs0])
      refine ⟨i + 1, Ent.auto0 rfl ?_ ?_, ⟨by omega, ha⟩, by omega⟩ <;> simp only [go_sem, reduceCtorEq, reduceIte, Nat.reduceEqDiff, Nat.reduceLT, Nat.reduceLeDiff, Int.natCast_succ]
  have e : i = T.length := by omega
  subst e
  rw [List.drop_length, List.any_nil] at ha
  rw [← ha, if_neg (by decide)] at hE
  subst hE
  rw [if_pos rfl] at hR
  clear ha hi hlt
  (repeat' first | with_reducible (first | intro _ | refine rc ?_ | refine rl ?_ | refine rh ?_ | refine rt ?_ | refine rf ?_ | refine rs ?_ | refine And.intro ?_ ?_) | omega | simp (maxSteps := 1000000) only [go_sem, simprocAttr, ↓reduceIte])
  refine VcLoop.intro (fun x : Nat × Bytes × Bool => ⟨112, [(47, .int .i64 x.1), (46, .int .i64 T.length), (45, .ro (.strs T)), (11, .own 0), (12, .bool x.2.2), (1, .cell [.mp (dKs l) (dVs l), .ro (.strs ws)]), (1000096, .dead)], [(0, .row 5 (.ints .u8 (byteInts x.2.1)))], 1⟩) (fun x => x.1 ≤ T.length ∧ x.2.1.length ≤ lenSum (T.take x.1) + x.1 ∧ jAll (hasW l) (T.drop x.1) x.2.1 x.2.2 = R) (fun x => T.length - x.1) (0, [], false) ?_ ⟨Nat.zero_le _, Nat.zero_le _, hR⟩ fun x hx => ?_
  · refine Ent.auto0 rfl ?_ ?_ <;> simp only [go_sem, reduceCtorEq, reduceIte, Nat.reduceEqDiff, Nat.reduceLT, Nat.reduceLeDiff, Int.natCast_succ]
    all_goals rfl
  obtain ⟨i, b, ap⟩ := x
  obtain ⟨hi, hbl, hj⟩ := hx
  dsimp only at hi hbl hj ⊢
  have hbi := byteInts_len b
  by_cases hlt : i < T.length
  · have kt := trimW_ok (T.getD i [])
    have htl := trimB_len (T.getD i [])
    have hse := elem_lenSum hlt
    have hs1 := lenSum_take hlt
    have hs2 := lenSum_le T (i + 1)
    rw [jAll_drop _ hlt] at hj
    have hjl := jStep_len (hasW l) b ap (trimB (T.getD i []))
    have hinv : ∀ x : Bytes × Bool, jStep (hasW l) b ap (trimB (T.getD i [])) = x → i + 1 ≤ T.length ∧ x.1.length ≤ lenSum (T.take (i + 1)) + (i + 1) ∧ jAll (hasW l) (T.drop (i + 1)) x.1 x.2 = R := fun x e => by
      rw [e] at hj hjl
      exact ⟨hlt, by omega, hj⟩
    clear hj hjl
    unfold jStep at hinv
    generalize hs0 : T.getD i [] = s0 at *
    generalize trimB s0 = s at *
    by_cases hs : s = []
    · subst hs
      have hinv := hinv _ (if_pos rfl)
      (repeat' first | with_reducible (first | intro _ | refine rc ?_ | refine rl ?_ | refine rh ?_ | refine rt ?_ | refine rf ?_ | refine rs ?_ | refine And.intro ?_ ?_) | omega | simp (maxSteps := 1000000) only [go_sem, simprocAttr, ↓reduceIte, hs0, elemA])
      refine VcCall.k (kt) ?_
      (repeat' first | with_reducible (first | intro _ | refine rc ?_ | refine rl ?_ | refine rh ?_ | refine rt ?_ | refine rf ?_ | refine rs ?_ | refine And.intro ?_ ?_) | omega | simp (maxSteps := 1000000) only [go_sem, simprocAttr, ↓reduceIte, hs0, hbi])
      refine ⟨(i + 1, b, true), Ent.auto0 rfl ?_ ?_, hinv, by dsimp only; omega⟩ <;> simp only [go_sem, reduceCtorEq, reduceIte, Nat.reduceEqDiff, Nat.reduceLT, Nat.reduceLeDiff, Int.natCast_succ]
    rw [if_neg hs] at hinv
    have hsl : 0 < s.length := List.length_pos_iff.2 hs
    by_cases hb0 : b = []
    · subst hb0
      have hinv := hinv _ (if_pos rfl)
      have hst : byteInts s = s.map (fun b => (b.toNat : Int)) := rfl
      (repeat' first | with_reducible (first | intro _ | refine rc ?_ | refine rl ?_ | refine rh ?_ | refine rt ?_ | refine rf ?_ | refine rs ?_ | refine And.intro ?_ ?_) | omega | simp (maxSteps := 1000000) only [go_sem, simprocAttr, ↓reduceIte, hs0, elemA])
      refine VcCall.k (kt) ?_
      (repeat' first | with_reducible (first | intro _ | refine rc ?_ | refine rl ?_ | refine rh ?_ | refine rt ?_ | refine rf ?_ | refine rs ?_ | refine And.intro ?_ ?_) | omega | simp (maxSteps := 1000000) only [go_sem, simprocAttr, ↓reduceIte, hs0, hbi, hs, List.length_nil])
      refine ⟨(i + 1, s, false), Ent.auto0 rfl ?_ ?_, hinv, by dsimp only; omega⟩ <;> simp only [go_sem, reduceCtorEq, reduceIte, Nat.reduceEqDiff, Nat.reduceLT, Nat.reduceLeDiff, Int.natCast_succ, hst]
      all_goals rfl
    rw [if_neg hb0] at hinv
    have hbp : 0 < b.length := List.length_pos_iff.2 hb0
    cases ap with
    | true =>
      have hinv := hinv _ (if_pos rfl)
      have hst : byteInts (b ++ [10] ++ s) = byteInts b ++ [10] ++ s.map (fun b => (b.toNat : Int)) := by rw [byteInts_app, byteInts_app]; rfl
      (repeat' first | with_reducible (first | intro _ | refine rc ?_ | refine rl ?_ | refine rh ?_ | refine rt ?_ | refine rf ?_ | refine rs ?_ | refine And.intro ?_ ?_) | omega | simp (maxSteps := 1000000) only [go_sem, simprocAttr, ↓reduceIte, hs0, elemA])
      refine VcCall.k (kt) ?_
      (repeat' first | with_reducible (first | intro _ | refine rc ?_ | refine rl ?_ | refine rh ?_ | refine rt ?_ | refine rf ?_ | refine rs ?_ | refine And.intro ?_ ?_) | omega | simp (maxSteps := 1000000) only [go_sem, simprocAttr, ↓reduceIte, hs0, hbi, hs])
      refine ⟨(i + 1, b ++ [10] ++ s, false), Ent.auto0 rfl ?_ ?_, hinv, by dsimp only; omega⟩ <;> simp only [go_sem, reduceCtorEq, reduceIte, Nat.reduceEqDiff, Nat.reduceLT, Nat.reduceLeDiff, Int.natCast_succ, hst]
    | false =>
      rw [if_neg (by decide)] at hinv
      have e1 : ((b.length : Nat) : Int) - 1 = ((b.length - 1 : Nat) : Int) := by omega
      have hst : byteInts (b ++ [32] ++ s) = byteInts b ++ [32] ++ s.map (fun b => (b.toNat : Int)) := by rw [byteInts_app, byteInts_app]; rfl
      rcases (Classical.em (2 ≤ b.length)).symm with h2 | h2
      · have hinv := hinv _ (if_neg (by unfold hy; rw [decide_eq_false h2]; simp))
        (repeat' first | with_reducible (first | intro _ | refine rc ?_ | refine rl ?_ | refine rh ?_ | refine rt ?_ | refine rf ?_ | refine rs ?_ | refine And.intro ?_ ?_) | omega | simp (maxSteps := 1000000) only [go_sem, simprocAttr, ↓reduceIte, hs0, elemA])
        refine VcCall.k (kt) ?_
        (repeat' first | with_reducible (first | intro _ | refine rc ?_ | refine rl ?_ | refine rh ?_ | refine rt ?_ | refine rf ?_ | refine rs ?_ | refine And.intro ?_ ?_) | omega | simp (maxSteps := 1000000) only [go_sem, simprocAttr, ↓reduceIte, hs0, hbi, hs, hb0])
        refine ⟨(i + 1, b ++ [32] ++ s, false), Ent.auto0 rfl ?_ ?_, hinv, by dsimp only; omega⟩ <;> simp only [go_sem, reduceCtorEq, reduceIte, Nat.reduceEqDiff, Nat.reduceLT, Nat.reduceLeDiff, Int.natCast_succ, hst]
      have e2 : ((b.length : Nat) : Int) - 2 = ((b.length - 2 : Nat) : Int) := by omega
      have t1 : (((b.length - 1 : Nat) : Int)).toNat = b.length - 1 := Int.toNat_natCast _
      have t2 : (((b.length - 2 : Nat) : Int)).toNat = b.length - 2 := Int.toNat_natCast _
      have g1 := byteInts_get (b := b) (i := b.length - 1) (by omega)
      have g2 := byteInts_get (b := b) (i := b.length - 2) (by omega)
      have ka := letter_ok (b.getD (b.length - 2) 0)
      have kb := letter_ok (s.getD 0 0)
      have hyd : hy b s = (decide (b.getD (b.length - 1) 0 = 45) && isL (b.getD (b.length - 2) 0) && isL (s.getD 0 0)) := by unfold hy; rw [decide_eq_true h2, Bool.true_and]
      rw [hyd] at hinv
      clear hyd
      have h45 := u8_45 (b.getD (b.length - 1) 0)
      generalize b.getD (b.length - 2) 0 = c2 at *
      generalize b.getD (b.length - 1) 0 = c1 at *
      generalize hc3 : s.getD 0 0 = c3 at *
      rcases (Classical.em (c1 = 45)).symm with hc | hc
      · rw [decide_eq_false hc] at hinv
        have hinv := hinv _ (if_neg (by simp))
        have hc' : ¬ ((c1.toNat : Int) = 45) := fun h => hc (h45.2 h)
        (repeat' first | with_reducible (first | intro _ | refine rc ?_ | refine rl ?_ | refine rh ?_ | refine rt ?_ | refine rf ?_ | refine rs ?_ | refine And.intro ?_ ?_) | omega | simp (maxSteps := 1000000) only [go_sem, simprocAttr, ↓reduceIte, hs0, elemA])
        refine VcCall.k (kt) ?_
        (repeat' first | with_reducible (first | intro _ | refine rc ?_ | refine rl ?_ | refine rh ?_ | refine rt ?_ | refine rf ?_ | refine rs ?_ | refine And.intro ?_ ?_) | omega | simp (maxSteps := 1000000) only [go_sem, simprocAttr, ↓reduceIte, hs0, hbi, hs, hb0, e1, e2, t1, t2, g1, g2, hc', hc3])
        refine ⟨(i + 1, b ++ [32] ++ s, false), Ent.auto0 rfl ?_ ?_, hinv, by dsimp only; omega⟩ <;> simp only [go_sem, reduceCtorEq, reduceIte, Nat.reduceEqDiff, Nat.reduceLT, Nat.reduceLeDiff, Int.natCast_succ, hst]
      have hc' := h45.1 hc
      rw [decide_eq_true hc, Bool.true_and] at hinv
      cases hl2 : isL c2 with
      | false =>
        rw [hl2] at hinv ka
        have hinv := hinv _ (if_neg (by simp))
        (repeat' first | with_reducible (first | intro _ | refine rc ?_ | refine rl ?_ | refine rh ?_ | refine rt ?_ | refine rf ?_ | refine rs ?_ | refine And.intro ?_ ?_) | omega | simp (maxSteps := 1000000) only [go_sem, simprocAttr, ↓reduceIte, hs0, elemA])
        refine VcCall.k (kt) ?_
        (repeat' first | with_reducible (first | intro _ | refine rc ?_ | refine rl ?_ | refine rh ?_ | refine rt ?_ | refine rf ?_ | refine rs ?_ | refine And.intro ?_ ?_) | omega | simp (maxSteps := 1000000) only [go_sem, simprocAttr, ↓reduceIte, hs0, hbi, hs, hb0, e1, e2, t1, t2, g1, g2, hc', hc3])
        refine VcCall.k (ka) ?_
        (repeat' first | with_reducible (first | intro _ | refine rc ?_ | refine rl ?_ | refine rh ?_ | refine rt ?_ | refine rf ?_ | refine rs ?_ | refine And.intro ?_ ?_) | omega | simp (maxSteps := 1000000) only [go_sem, simprocAttr, ↓reduceIte, hs0, hbi, hs, hb0, e1, e2, t1, t2, g1, g2, hc', hc3])
        refine ⟨(i + 1, b ++ [32] ++ s, false), Ent.auto0 rfl ?_ ?_, hinv, by dsimp only; omega⟩ <;> simp only [go_sem, reduceCtorEq, reduceIte, Nat.reduceEqDiff, Nat.reduceLT, Nat.reduceLeDiff, Int.natCast_succ, hst]
      | true =>
        rw [hl2, Bool.true_and] at hinv
        rw [hl2] at ka
        cases hl3 : isL c3 with
        | false =>
          rw [hl3] at hinv kb
          have hinv := hinv _ (if_neg (by simp))
          (repeat' first | with_reducible (first | intro _ | refine rc ?_ | refine rl ?_ | refine rh ?_ | refine rt ?_ | refine rf ?_ | refine rs ?_ | refine And.intro ?_ ?_) | omega | simp (maxSteps := 1000000) only [go_sem, simprocAttr, ↓reduceIte, hs0, elemA])
          refine VcCall.k (kt) ?_
          (repeat' first | with_reducible (first | intro _ | refine rc ?_ | refine rl ?_ | refine rh ?_ | refine rt ?_ | refine rf ?_ | refine rs ?_ | refine And.intro ?_ ?_) | omega | simp (maxSteps := 1000000) only [go_sem, simprocAttr, ↓reduceIte, hs0, hbi, hs, hb0, e1, e2, t1, t2, g1, g2, hc', hc3])
          refine VcCall.k (ka) ?_
          (repeat' first | with_reducible (first | intro _ | refine rc ?_ | refine rl ?_ | refine rh ?_ | refine rt ?_ | refine rf ?_ | refine rs ?_ | refine And.intro ?_ ?_) | omega | simp (maxSteps := 1000000) only [go_sem, simprocAttr, ↓reduceIte, hs0, hbi, hs, hb0, e1, e2, t1, t2, g1, g2, hc', hc3])
          refine VcCall.k (kb) ?_
          (repeat' first | with_reducible (first | intro _ | refine rc ?_ | refine rl ?_ | refine rh ?_ | refine rt ?_ | refine rf ?_ | refine rs ?_ | refine And.intro ?_ ?_) | omega | simp (maxSteps := 1000000) only [go_sem, simprocAttr, ↓reduceIte, hs0, hbi, hs, hb0, e1, e2, t1, t2, g1, g2, hc', hc3])
          refine ⟨(i + 1, b ++ [32] ++ s, false), Ent.auto0 rfl ?_ ?_, hinv, by dsimp only; omega⟩ <;> simp only [go_sem, reduceCtorEq, reduceIte, Nat.reduceEqDiff, Nat.reduceLT, Nat.reduceLeDiff, Int.natCast_succ, hst]
        | true =>
          rw [hl3, if_pos rfl] at hinv
          rw [hl3] at kb
          clear hst
          have kL := lastRow_ok (b.take (b.length - 1)) (by simp; omega)
          have kF := firstRow_ok s (by omega)
          have hlr : (lrow (b.take (b.length - 1))).length ≤ b.length := by unfold lrow; simp; omega
          have hfr : (frow s).length ≤ s.length := frow_len s
          have kG := hyphenless_ok l ws (lrow (b.take (b.length - 1))) (frow s) (by omega)
          have hbt := byteInts_take b (b.length - 1)
          generalize lrow (b.take (b.length - 1)) = x1 at *
          generalize frow s = x2 at *
          (repeat' first | with_reducible (first | intro _ | refine rc ?_ | refine rl ?_ | refine rh ?_ | refine rt ?_ | refine rf ?_ | refine rs ?_ | refine And.intro ?_ ?_) | omega | simp (maxSteps := 1000000) only [go_sem, simprocAttr, ↓reduceIte, hs0, elemA])
          refine VcCall.k (kt) ?_
          (repeat' first | with_reducible (first | intro _ | refine rc ?_ | refine rl ?_ | refine rh ?_ | refine rt ?_ | refine rf ?_ | refine rs ?_ | refine And.intro ?_ ?_) | omega | simp (maxSteps := 1000000) only [go_sem, simprocAttr, ↓reduceIte, hs0, hbi, hs, hb0, e1, e2, t1, t2, g1, g2, hc', hc3])
          refine VcCall.k (ka) ?_
          (repeat' first | with_reducible (first | intro _ | refine rc ?_ | refine rl ?_ | refine rh ?_ | refine rt ?_ | refine rf ?_ | refine rs ?_ | refine And.intro ?_ ?_) | omega | simp (maxSteps := 1000000) only [go_sem, simprocAttr, ↓reduceIte, hs0, hbi, hs, hb0, e1, e2, t1, t2, g1, g2, hc', hc3])
          refine VcCall.k (kb) ?_
          (repeat' first | with_reducible (first | intro _ | refine rc ?_ | refine rl ?_ | refine rh ?_ | refine rt ?_ | refine rf ?_ | refine rs ?_ | refine And.intro ?_ ?_) | omega | simp (maxSteps := 1000000) only [go_sem, simprocAttr, ↓reduceIte, hs0, hbi, hs, hb0, e1, e2, t1, t2, g1, g2, hc', hc3])
          have hle : b.length - 1 ≤ (byteInts b).length := by omega
          refine VcCall.fr (args' := [.ro (.ints .u8 (byteInts (b.take (b.length - 1))))]) (FnFr.of_ok kL rfl rfl) (by simp [argOkL, allOk, argOkN, lk, subRow, hbt, noIdR, RowV.len, hle]) 1 rfl (by simp [rowsB, Item.below, belowR_ok]) ?_
          (repeat' first | with_reducible (first | intro _ | refine rc ?_ | refine rl ?_ | refine rh ?_ | refine rt ?_ | refine rf ?_ | refine rs ?_ | refine And.intro ?_ ?_) | omega | simp (maxSteps := 1000000) only [go_sem, simprocAttr, ↓reduceIte, hs0, hbi, hs, hb0, e1, e2, t1, t2])
          refine VcCall.k (kF) ?_
          (repeat' first | with_reducible (first | intro _ | refine rc ?_ | refine rl ?_ | refine rh ?_ | refine rt ?_ | refine rf ?_ | refine rs ?_ | refine And.intro ?_ ?_) | omega | simp (maxSteps := 1000000) only [go_sem, simprocAttr, ↓reduceIte, hs0, hbi, hs, hb0, e1, e2, t1, t2])
          refine VcCall.k (kG) ?_
          cases hgo : goes (hasW l) x1 x2 with
          | true =>
            rw [hgo, if_pos rfl] at hinv
            have hinv := hinv _ rfl
            have hst : byteInts (b.take (b.length - 1) ++ s) = (byteInts b).take (b.length - 1) ++ s.map (fun b => (b.toNat : Int)) := by rw [byteInts_app, byteInts_take]
            (repeat' first | with_reducible (first | intro _ | refine rc ?_ | refine rl ?_ | refine rh ?_ | refine rt ?_ | refine rf ?_ | refine rs ?_ | refine And.intro ?_ ?_) | omega | simp (maxSteps := 1000000) only [go_sem, simprocAttr, ↓reduceIte, hs0, hbi, hs, hb0, e1, e2, t1, t2])
            refine ⟨(i + 1, b.take (b.length - 1) ++ s, false), Ent.auto0 rfl ?_ ?_, hinv, by dsimp only; omega⟩ <;> simp only [go_sem, reduceCtorEq, reduceIte, Nat.reduceEqDiff, Nat.reduceLT, Nat.reduceLeDiff, Int.natCast_succ, hst, Nat.sub_zero]
          | false =>
            rw [hgo, if_neg (by decide)] at hinv
            have hinv := hinv _ rfl
            have hst : byteInts (b ++ s) = byteInts b ++ s.map (fun b => (b.toNat : Int)) := byteInts_app b s
            (repeat' first | with_reducible (first | intro _ | refine rc ?_ | refine rl ?_ | refine rh ?_ | refine rt ?_ | refine rf ?_ | refine rs ?_ | refine And.intro ?_ ?_) | omega | simp (maxSteps := 1000000) only [go_sem, simprocAttr, ↓reduceIte, hs0, hbi, hs, hb0, e1, e2, t1, t2])
            refine ⟨(i + 1, b ++ s, false), Ent.auto0 rfl ?_ ?_, hinv, by dsimp only; omega⟩ <;> simp only [go_sem, reduceCtorEq, reduceIte, Nat.reduceEqDiff, Nat.reduceLT, Nat.reduceLeDiff, Int.natCast_succ, hst]
  · have e : i = T.length := by omega
    subst e
    rw [List.drop_length] at hj
    have hj : b = R := hj
    subst hj
    have hz := byteInts_back b
    (repeat' first | with_reducible (first | intro _ | refine rc ?_ | refine rl ?_ | refine rh ?_ | refine rt ?_ | refine rf ?_ | refine rs ?_ | refine And.intro ?_ ?_) | omega | simp (maxSteps := 1000000) only [go_sem, simprocAttr, ↓reduceIte, hz])
    refine Ret.auto 0 ?_ rfl ?_ <;> simp only [go_sem, reduceCtorEq, reduceIte, Nat.reduceEqDiff, Nat.reduceLT, Nat.reduceLeDiff, Int.natCast_succ, Post, hz]
end Go.Fv.Y

/- The reference's closure that puts tokens. -/
namespace Go.Fv.Y
open Go Go.Proofs
set_option linter.unusedSimpArgs false
set_option linter.unusedVariables false
set_option linter.unnecessarySimpa false
set_option maxRecDepth 8000

def putB (btw t : Bytes) (w : Bool) : Bytes := if w = true then [] else btw ++ t
def putO (out : List Tok) (btw t : Bytes) (w : Bool) : List Tok := if w = true then flush out btw ++ [(t, true)] else out

set_option maxHeartbeats 2000000 in
theorem put_ok (out : List Tok) (btw t : Bytes) (w : Bool) (hl : out.length ≤ 1000000000) (hb : btw.length ≤ 1000000000) (ht : t.length ≤ 1000000000) :
    FnIO Tryz.prog 101 [.str t, .bool w, .ptr 0 0, .ptr 1 0] [(0, .box 9 [.str btw]), (1, .box 64 [.own 2]), (2, .row 67 (tkR out))] 3 (.tup [])
      [(0, .box 9 [.str (putB btw t w)]), (1, .box 64 [.own 3]), (3, .row 67 (tkR (putO out btw t w)))] := by
  refine FnIO.of_vc Tryz.func101 rfl (by decide) (by simp [Tryz.f101]) covA3 [] rfl fun w0 T0 _ => ?_
  simp only [Tryz.f101, argEnv]
  cases w with
  | false =>
    have e1 : putB btw t false = btw ++ t := rfl
    have e2 : putO out btw t false = out := rfl
    rw [e1, e2]
    (repeat' first | with_reducible (first | intro _ | refine rc ?_ | refine rl ?_ | refine rh ?_ | refine rt ?_ | refine rf ?_ | refine rs ?_ | refine And.intro ?_ ?_) | omega | simp (maxSteps := 1000000) only [go_sem, simprocAttr, ↓reduceIte, tkR, List.length_map, List.length_append])
    refine RetK.of [(3, 2)] 4 (by decide) (by decide) ?_ rfl ?_ <;> simp only [go_sem, reduceCtorEq, reduceIte, Nat.reduceEqDiff, Nat.reduceLT, Nat.reduceLeDiff, Int.natCast_succ]
  | true =>
    have e1 : putB btw t true = [] := rfl
    have e2 : putO out btw t true = flush out btw ++ [(t, true)] := rfl
    rw [e1, e2]
    by_cases h0 : btw = []
    · have e3 : flush out [] = out := if_pos rfl
      (repeat' first | with_reducible (first | intro _ | refine rc ?_ | refine rl ?_ | refine rh ?_ | refine rt ?_ | refine rf ?_ | refine rs ?_ | refine And.intro ?_ ?_) | omega | simp (maxSteps := 1000000) only [go_sem, simprocAttr, ↓reduceIte, h0, e3, tkR, List.length_map, List.length_append])
      refine RetK.of [(3, 4)] 4 (by decide) (by decide) ?_ rfl ?_ <;> simp only [go_sem, reduceCtorEq, reduceIte, Nat.reduceEqDiff, Nat.reduceLT, Nat.reduceLeDiff, Int.natCast_succ, tkAv, List.map_append, List.map_cons, List.map_nil]
    · have e3 : flush out btw = out ++ [(btw, false)] := if_neg h0
      (repeat' first | with_reducible (first | intro _ | refine rc ?_ | refine rl ?_ | refine rh ?_ | refine rt ?_ | refine rf ?_ | refine rs ?_ | refine And.intro ?_ ?_) | omega | simp (maxSteps := 1000000) only [go_sem, simprocAttr, ↓reduceIte, h0, e3, tkR, List.length_map, List.length_append])
      refine RetK.of [(3, 6)] 4 (by decide) (by decide) ?_ rfl ?_ <;> simp only [go_sem, reduceCtorEq, reduceIte, Nat.reduceEqDiff, Nat.reduceLT, Nat.reduceLeDiff, Int.natCast_succ, tkAv, List.map_append, List.map_cons, List.map_nil]
end Go.Fv.Y

/- The reference's Tokens. -/
namespace Go.Fv.Y
open Go Go.Proofs
set_option linter.unusedSimpArgs false
set_option linter.unusedVariables false
set_option linter.unnecessarySimpa false
set_option maxRecDepth 8000

theorem u_other {u : Bytes} (h : 0 < u.length) (hc : inW (u.getD 0 0) = false) (btw : Bytes) (out : List Tok) : toks u btw out = toks (u.drop 1) (btw ++ u.take 1) out := by
  cases u with
  | nil => simp at h
  | cons c u => exact toks_other hc btw out
theorem u_run {u : Bytes} {n : Nat} (hn : n ≤ u.length) (hr : ∀ j, j < n → inW (u.getD j 0) = true) (he : n < u.length → inW (u.getD n 0) = false) : u.takeWhile inW = u.take n ∧ u.dropWhile inW = u.drop n := by
  have := run_at (s := u) n 0 n (by omega) (Nat.zero_le _) hn (fun j _ h => hr j h) he
  simpa [sub] using this
theorem u_row {u : Bytes} {n : Nat} (h0 : 0 < n) (hn : n ≤ u.length) (hr : ∀ j, j < n → inW (u.getD j 0) = true) (he : n < u.length → inW (u.getD n 0) = false) (btw : Bytes) (out : List Tok) (hw : isWd (midQ (u.take n)) = false) :
    toks u btw out = toks (u.drop n) (btw ++ u.take n) out := by
  obtain ⟨e1, e2⟩ := u_run hn hr he
  cases u with
  | nil => simp at hn; omega
  | cons c u => rw [toks_row (c := c) (s := u) (hr 0 h0) _ _ (by rw [e1, hw]; decide), e1, e2]
theorem u_word {u : Bytes} {n : Nat} (h0 : 0 < n) (hn : n ≤ u.length) (hr : ∀ j, j < n → inW (u.getD j 0) = true) (he : n < u.length → inW (u.getD n 0) = false) (btw : Bytes) (out : List Tok) (hw : isWd (midQ (u.take n)) = true) :
    toks u btw out = toks (u.drop n) (postQ (dropQ (u.take n))) (flush out (btw ++ preQ (u.take n)) ++ [(midQ (u.take n), true)]) := by
  obtain ⟨e1, e2⟩ := u_run hn hr he
  cases u with
  | nil => simp at hn; omega
  | cons c u => rw [toks_word (c := c) (s := u) (hr 0 h0) _ _ (by rw [e1, hw]), e1, e2]

structure RtI where
  u : Bytes
  btw : Bytes
  out : List Tok
set_option maxHeartbeats 8000000 in
theorem refTokensB_ok (s : List UInt8) (hs : s.length ≤ 2097152) : FnOk Tryz.prog 65 [.str s] (.own 0) [(0, .row 67 (tkR (toks s [] [])))] := by
  refine FnOk.of_vc Tryz.func65 rfl (by decide) (by simp [Tryz.f65]) [.tmp 2] rfl fun w0 T0 _ => ?_
  simp only [Tryz.f65, argEnv]
  (repeat' first | with_reducible (first | intro _ | refine rc ?_ | refine rl ?_ | refine rh ?_ | refine rt ?_ | refine rf ?_ | refine rs ?_ | refine And.intro ?_ ?_) | omega | simp (maxSteps := 1000000) only [go_sem, simprocAttr, ↓reduceIte])
  refine VcLoop.intro (fun x : RtI => ⟨90, [(5, .fn 101 [.ptr 0 0, .ptr 1 0]), (4, .ptr 0 0), (3, .ptr 1 0), (0, .str x.u)], [(0, .box 9 [.str x.btw]), (1, .box 64 [.own 2]), (2, .row 67 (tkR x.out))], 3⟩) (fun x => x.btw.length + x.u.length ≤ s.length ∧ toks x.u x.btw x.out = toks s [] [] ∧ x.out.length + 2 * x.u.length ≤ 2 * s.length) (fun x => x.u.length) ⟨s, [], []⟩ ?_ ⟨by simp, rfl, by simp⟩ fun x hx => ?_
  · refine Ent.trans (Ent.nilBox (P := Tryz.prog) 1 0 67 e67 rfl rfl) (Ent.auto0 rfl ?_ ?_) <;> simp only [go_sem, reduceCtorEq, reduceIte, Nat.reduceEqDiff, Nat.reduceLT, Nat.reduceLeDiff, Int.natCast_succ, zrow, tkR, put, List.set_cons_zero, List.set_cons_succ, Nat.zero_mul, List.range_zero, List.map_nil, List.replicate_zero]
  obtain ⟨u, btw, out⟩ := x
  obtain ⟨hbu, ht, hou⟩ := hx
  dsimp only at hbu ht hou ⊢
  by_cases hu : u = []
  · subst hu
    rw [toks_nil] at ht
    rw [← ht]
    by_cases hb : btw = []
    · have e : flush out [] = out := if_pos rfl
      (repeat' first | with_reducible (first | intro _ | refine rc ?_ | refine rl ?_ | refine rh ?_ | refine rt ?_ | refine rf ?_ | refine rs ?_ | refine And.intro ?_ ?_) | omega | simp (maxSteps := 1000000) only [go_sem, simprocAttr, ↓reduceIte, hb, e, tkR])
      refine Ret.auto 1 ?_ rfl ?_ <;> simp only [go_sem, reduceCtorEq, reduceIte, Nat.reduceEqDiff, Nat.reduceLT, Nat.reduceLeDiff, Int.natCast_succ, Post]
    · have e : flush out btw = out ++ [(btw, false)] := if_neg hb
      (repeat' first | with_reducible (first | intro _ | refine rc ?_ | refine rl ?_ | refine rh ?_ | refine rt ?_ | refine rf ?_ | refine rs ?_ | refine And.intro ?_ ?_) | omega | simp (maxSteps := 1000000) only [go_sem, simprocAttr, ↓reduceIte, hb, e, tkR, List.length_map])
      refine Ret.auto 1 ?_ rfl ?_ <;> simp only [go_sem, reduceCtorEq, reduceIte, Nat.reduceEqDiff, Nat.reduceLT, Nat.reduceLeDiff, Int.natCast_succ, Post, tkAv, List.map_append, List.map_cons, List.map_nil]
  · have hul : 0 < u.length := List.length_pos_iff.2 hu
    (repeat' first | with_reducible (first | intro _ | refine rc ?_ | refine rl ?_ | refine rh ?_ | refine rt ?_ | refine rf ?_ | refine rs ?_ | refine And.intro ?_ ?_) | omega | simp (maxSteps := 1000000) only [go_sem, simprocAttr, ↓reduceIte, hu])
    refine VcLoop.intro (fun n : Nat => ⟨90, [(6, .int .i64 n), (5, .fn 101 [.ptr 0 0, .ptr 1 0]), (4, .ptr 0 0), (3, .ptr 1 0), (0, .str u)], [(0, .box 9 [.str btw]), (1, .box 64 [.own 2]), (2, .row 67 (tkR out))], 3⟩) (fun n => n ≤ u.length ∧ ∀ j, j < n → inW (u.getD j 0) = true) (fun n => u.length - n) 0 ?_ ⟨Nat.zero_le _, fun j h => absurd h (Nat.not_lt_zero j)⟩ fun n hn => ?_
    · refine Ent.auto0 rfl ?_ ?_ <;> simp only [go_sem, reduceCtorEq, reduceIte, Nat.reduceEqDiff, Nat.reduceLT, Nat.reduceLeDiff, Int.natCast_succ, tkR]
    obtain ⟨hn, hr⟩ := hn
    by_cases hkl : n < u.length
    · have hkl2 : (n : Int) < u.length := by omega
      (repeat' first | with_reducible (first | intro _ | refine rc ?_ | refine rl ?_ | refine rh ?_ | refine rt ?_ | refine rf ?_ | refine rs ?_ | refine And.intro ?_ ?_) | omega | simp (maxSteps := 1000000) only [go_sem, simprocAttr, ↓reduceIte, hkl2, Int.toNat_natCast])
      refine VcCall.fr (FnFr.of_ok (isLetter_ok (u.getD n 0)) rfl rfl) (by simp only [noIdR_ok, argOkL, argOk, allOk, argOkN, List.drop_zero, lk, reduceIte, reduceCtorEq, Nat.reduceEqDiff, Option.some.injEq, Item.row.injEq, Item.box.injEq, AV.ro.injEq, exists_eq_left, exists_and_left, exists_eq_left', exists_eq_right, and_assoc, and_true, true_and, List.cons.injEq, exists_eq', exists_eq]) 0 rfl (by simp [rowsB]) ?_
      cases hL : isL (u.getD n 0) with
      | true =>
        (repeat' first | with_reducible (first | intro _ | refine rc ?_ | refine rl ?_ | refine rh ?_ | refine rt ?_ | refine rf ?_ | refine rs ?_ | refine And.intro ?_ ?_) | omega | simp (maxSteps := 1000000) only [go_sem, simprocAttr, ↓reduceIte, hL])
        refine ⟨n + 1, Ent.auto0 rfl ?_ ?_, ⟨by omega, fun j h2 => ?_⟩, by omega⟩
        · simp only [go_sem, reduceCtorEq, reduceIte, Nat.reduceEqDiff, Nat.reduceLT, Nat.reduceLeDiff, Int.natCast_succ]
        · simp only [go_sem, reduceCtorEq, reduceIte, Nat.reduceEqDiff, Nat.reduceLT, Nat.reduceLeDiff, Int.natCast_succ, tkR]
        · by_cases hj : j = n
          · rw [hj, inW_eq, hL]; rfl
          · exact hr j (by omega)
      | false =>
        by_cases h39 : ((u.getD n 0).toNat : Int) = 39
        · (repeat' first | with_reducible (first | intro _ | refine rc ?_ | refine rl ?_ | refine rh ?_ | refine rt ?_ | refine rf ?_ | refine rs ?_ | refine And.intro ?_ ?_) | omega | simp (maxSteps := 1000000) only [go_sem, simprocAttr, ↓reduceIte, hL, h39, Int.toNat_natCast])
          refine ⟨n + 1, Ent.auto0 rfl ?_ ?_, ⟨by omega, fun j h2 => ?_⟩, by omega⟩
          · simp only [go_sem, reduceCtorEq, reduceIte, Nat.reduceEqDiff, Nat.reduceLT, Nat.reduceLeDiff, Int.natCast_succ]
          · simp only [go_sem, reduceCtorEq, reduceIte, Nat.reduceEqDiff, Nat.reduceLT, Nat.reduceLeDiff, Int.natCast_succ, tkR]
          · by_cases hj : j = n
            · rw [hj, inW_eq, hL, decide_eq_true h39]; rfl
            · exact hr j (by omega)
        · have he : n < u.length → inW (u.getD n 0) = false := fun _ => by rw [inW_eq, hL, decide_eq_false h39]; rfl
          obtain ⟨t, hT2⟩ : ∃ t, u.take n = t := ⟨_, rfl⟩
          have hT : List.take (n - 0) u = t := hT2
          have htl : t.length = n := by rw [← hT2]; simp; omega
          have hU : List.take (u.length - n) (List.drop n u) = u.drop n := List.take_of_length_le (by simp)
          (repeat' first | with_reducible (first | intro _ | refine rc ?_ | refine rl ?_ | refine rh ?_ | refine rt ?_ | refine rf ?_ | refine rs ?_ | refine And.intro ?_ ?_) | omega | simp (maxSteps := 1000000) only [go_sem, simprocAttr, ↓reduceIte, hL, h39, Int.toNat_natCast, hT])
          · have hn0 : n = 0 := by omega
            subst hn0
            have hst := u_other hul (he hkl) btw out
            have k1 := put_ok out btw (u.take 1) false (by omega) (by omega) (by simp; omega)
            rw [show putB btw (u.take 1) false = btw ++ u.take 1 from rfl, show putO out btw (u.take 1) false = out from rfl] at k1
            have hd : List.take (u.length - 1) (List.drop 1 u) = u.drop 1 := List.take_of_length_le (by simp)
            refine VcCall.io [0, 1, 2] k1 (by decide) (by simp [renL, ren, ioN]) rfl (by simp [subOk, ioN, lk, Item.ren, Item.below, ren, renL, belowL, Fv.below, tkR, renR_ok, belowR_ok]) covA3 4 (by decide) rfl (by simp [rowsB, Item.below, Fv.below, belowL, tkR, belowR_ok]) ?_
            (repeat' first | with_reducible (first | intro _ | refine rc ?_ | refine rl ?_ | refine rh ?_ | refine rt ?_ | refine rf ?_ | refine rs ?_ | refine And.intro ?_ ?_) | omega | simp (maxSteps := 1000000) only [go_sem, simprocAttr, ↓reduceIte, S.ioS, ioRows, ioN, delL, Item.ren, ren, renL, tkR, List.length_cons, List.length_nil, List.getElem?_cons_zero, List.getElem?_cons_succ, List.getElem?_nil, List.cons_append, List.nil_append, Nat.reduceAdd, Nat.sub_self, Nat.add_zero, List.filter, hd])
            refine ⟨⟨u.drop 1, btw ++ u.take 1, out⟩, Ent.auto0 rfl ?_ ?_, ⟨?_, ?_, ?_⟩, ?_⟩
            · simp only [go_sem, reduceCtorEq, reduceIte, Nat.reduceEqDiff, Nat.reduceLT, Nat.reduceLeDiff, Int.natCast_succ]
            · simp only [go_sem, reduceCtorEq, reduceIte, Nat.reduceEqDiff, Nat.reduceLT, Nat.reduceLeDiff, Int.natCast_succ, tkR]
            · simp; omega
            · rw [← hst]; exact ht
            · simp; omega
            · simp; omega
          have hn0 : 0 < n := by omega
          have hall : t.all inW = true := by rw [← hT2, ← (u_run hn hr he).1]; exact takeW_all u
          have hws := u_row hn0 hn hr he btw out
          have hwd := u_word hn0 hn hr he btw out
          rw [hT2] at hws hwd
          have hcd := cut_dec hall
          have hcs := @cut_some t
          have hcp := @cut_parts t (preN t) (preN t + (midQ t).length) rfl rfl
          have hrow := isWd_row hall
          have hple := preN_le t
          have hrl := dropR_len t
          have hprp := preN_eq t
          have hql := takeWhile_len_le qu t
          rw [show t.dropWhile qu = dropQ t from rfl] at hql
          have ha : (t.length : Int) - ((dropQ t).length : Int) = (preN t : Int) := by omega
          refine VcCall.fr (FnFr.of_ok (trimLeft_ok t (by omega)) rfl rfl) (by simp only [noIdR_ok, argOkL, argOk, allOk, argOkN, List.drop_zero, lk, reduceIte, reduceCtorEq, Nat.reduceEqDiff, Option.some.injEq, Item.row.injEq, Item.box.injEq, AV.ro.injEq, exists_eq_left, exists_and_left, exists_eq_left', exists_eq_right, and_assoc, and_true, true_and, List.cons.injEq, exists_eq', exists_eq]) 0 rfl (by simp [rowsB]) ?_
          (repeat' first | with_reducible (first | intro _ | refine rc ?_ | refine rl ?_ | refine rh ?_ | refine rt ?_ | refine rf ?_ | refine rs ?_ | refine And.intro ?_ ?_) | omega | simp (maxSteps := 1000000) only [go_sem, simprocAttr, ↓reduceIte, ha])
          refine VcCall.fr (FnFr.of_ok (trimRight_ok t (by omega)) rfl rfl) (by simp only [noIdR_ok, argOkL, argOk, allOk, argOkN, List.drop_zero, lk, reduceIte, reduceCtorEq, Nat.reduceEqDiff, Option.some.injEq, Item.row.injEq, Item.box.injEq, AV.ro.injEq, exists_eq_left, exists_and_left, exists_eq_left', exists_eq_right, and_assoc, and_true, true_and, List.cons.injEq, exists_eq', exists_eq]) 0 rfl (by simp [rowsB]) ?_
          (repeat' first | with_reducible (first | intro _ | refine rc ?_ | refine rl ?_ | refine rh ?_ | refine rt ?_ | refine rf ?_ | refine rs ?_ | refine And.intro ?_ ?_) | omega | simp (maxSteps := 1000000) only [go_sem, simprocAttr, ↓reduceIte, ha])
          · have hw : isWd (midQ t) = false := hcd.1 (by omega)
            have k1 := put_ok out btw t false (by omega) (by omega) (by omega)
            rw [show putB btw t false = btw ++ t from rfl, show putO out btw t false = out from rfl] at k1
            refine VcCall.io [0, 1, 2] k1 (by decide) (by simp [renL, ren, ioN]) rfl (by simp [subOk, ioN, lk, Item.ren, Item.below, ren, renL, belowL, Fv.below, tkR, renR_ok, belowR_ok]) covA3 4 (by decide) rfl (by simp [rowsB, Item.below, Fv.below, belowL, tkR, belowR_ok]) ?_
            (repeat' first | with_reducible (first | intro _ | refine rc ?_ | refine rl ?_ | refine rh ?_ | refine rt ?_ | refine rf ?_ | refine rs ?_ | refine And.intro ?_ ?_) | omega | simp (maxSteps := 1000000) only [go_sem, simprocAttr, ↓reduceIte, S.ioS, ioRows, ioN, delL, Item.ren, ren, renL, tkR, List.length_cons, List.length_nil, List.getElem?_cons_zero, List.getElem?_cons_succ, List.getElem?_nil, List.cons_append, List.nil_append, Nat.reduceAdd, Nat.sub_self, Nat.add_zero, List.filter, hU, Int.toNat_natCast])
            refine ⟨⟨u.drop n, btw ++ t, out⟩, Ent.auto0 rfl ?_ ?_, ⟨?_, ?_, ?_⟩, ?_⟩
            · simp only [go_sem, reduceCtorEq, reduceIte, Nat.reduceEqDiff, Nat.reduceLT, Nat.reduceLeDiff, Int.natCast_succ]
            · simp only [go_sem, reduceCtorEq, reduceIte, Nat.reduceEqDiff, Nat.reduceLT, Nat.reduceLeDiff, Int.natCast_succ, tkR]
            · simp; omega
            · rw [← hws hw]; exact ht
            · simp; omega
            · simp; omega
          · have hw : isWd (midQ t) = true := by
              cases h : isWd (midQ t) with
              | true => rfl
              | false => have := hcd.2 h; omega
            obtain ⟨hne, h40⟩ := hrow.1 hw
            have hml : 0 < (midQ t).length := List.length_pos_iff.2 hne
            obtain ⟨f1, f2, f3⟩ := hcp
            have hb := hcs hne
            have hst := hwd hw
            have h3 := congrArg List.length (three t)
            simp only [List.length_append] at h3
            rw [← hb] at f2 f3
            have f3' : List.take (t.length - (dropR t).length) (List.drop (dropR t).length t) = postQ (dropQ t) := by rw [List.take_of_length_le (by simp)]; exact f3
            generalize midQ t = m at *
            generalize preQ t = x at *
            generalize postQ (dropQ t) = z at *
            generalize preN t = p at *
            generalize (dropR t).length = q at *
            have k1 := put_ok out btw x false (by omega) (by omega) (by omega)
            rw [show putB btw x false = btw ++ x from rfl, show putO out btw x false = out from rfl] at k1
            have k2 := put_ok out (btw ++ x) m true (by omega) (by simp; omega) (by omega)
            rw [show putB (btw ++ x) m true = [] from rfl, show putO out (btw ++ x) m true = flush out (btw ++ x) ++ [(m, true)] from rfl] at k2
            have hfl := addT_len out (btw ++ x) false
            rw [show addT out (btw ++ x) false = flush out (btw ++ x) from rfl] at hfl
            have hol2 : (flush out (btw ++ x) ++ [(m, true)]).length ≤ out.length + 2 := by simp; omega
            generalize flush out (btw ++ x) ++ [(m, true)] = out2 at *
            have k3 := put_ok out2 [] z false (by omega) (by simp) (by omega)
            rw [show putB [] z false = z from rfl, show putO out2 [] z false = out2 from rfl] at k3
            rw [show List.take (p - 0) t = x from f1]
            refine VcCall.io [0, 1, 2] k1 (by decide) (by simp [renL, ren, ioN]) rfl (by simp [subOk, ioN, lk, Item.ren, Item.below, ren, renL, belowL, Fv.below, tkR, renR_ok, belowR_ok]) covA3 4 (by decide) rfl (by simp [rowsB, Item.below, Fv.below, belowL, tkR, belowR_ok]) ?_
            (repeat' first | with_reducible (first | intro _ | refine rc ?_ | refine rl ?_ | refine rh ?_ | refine rt ?_ | refine rf ?_ | refine rs ?_ | refine And.intro ?_ ?_) | omega | simp (maxSteps := 1000000) only [go_sem, simprocAttr, ↓reduceIte, S.ioS, ioRows, ioN, delL, Item.ren, ren, renL, tkR, List.length_cons, List.length_nil, List.getElem?_cons_zero, List.getElem?_cons_succ, List.getElem?_nil, List.cons_append, List.nil_append, Nat.reduceAdd, Nat.sub_self, Nat.add_zero, List.filter, f2, Int.toNat_natCast])
            refine VcCall.io [0, 1, 3] k2 (by decide) (by simp [renL, ren, ioN]) rfl (by simp [subOk, ioN, lk, Item.ren, Item.below, ren, renL, belowL, Fv.below, tkR, renR_ok, belowR_ok]) covA3 4 (by decide) rfl (by simp [rowsB, Item.below, Fv.below, belowL, tkR, belowR_ok]) ?_
            (repeat' first | with_reducible (first | intro _ | refine rc ?_ | refine rl ?_ | refine rh ?_ | refine rt ?_ | refine rf ?_ | refine rs ?_ | refine And.intro ?_ ?_) | omega | simp (maxSteps := 1000000) only [go_sem, simprocAttr, ↓reduceIte, S.ioS, ioRows, ioN, delL, Item.ren, ren, renL, tkR, List.length_cons, List.length_nil, List.getElem?_cons_zero, List.getElem?_cons_succ, List.getElem?_nil, List.cons_append, List.nil_append, Nat.reduceAdd, Nat.sub_self, Nat.add_zero, List.filter, f3', Int.toNat_natCast])
            refine VcCall.io [0, 1, 4] k3 (by decide) (by simp [renL, ren, ioN]) rfl (by simp [subOk, ioN, lk, Item.ren, Item.below, ren, renL, belowL, Fv.below, tkR, renR_ok, belowR_ok]) covA3 4 (by decide) rfl (by simp [rowsB, Item.below, Fv.below, belowL, tkR, belowR_ok]) ?_
            (repeat' first | with_reducible (first | intro _ | refine rc ?_ | refine rl ?_ | refine rh ?_ | refine rt ?_ | refine rf ?_ | refine rs ?_ | refine And.intro ?_ ?_) | omega | simp (maxSteps := 1000000) only [go_sem, simprocAttr, ↓reduceIte, S.ioS, ioRows, ioN, delL, Item.ren, ren, renL, tkR, List.length_cons, List.length_nil, List.getElem?_cons_zero, List.getElem?_cons_succ, List.getElem?_nil, List.cons_append, List.nil_append, Nat.reduceAdd, Nat.sub_self, Nat.add_zero, List.filter, hU, Int.toNat_natCast])
            refine ⟨⟨u.drop n, z, out2⟩, Ent.auto0 rfl ?_ ?_, ⟨?_, ?_, ?_⟩, ?_⟩
            · simp only [go_sem, reduceCtorEq, reduceIte, Nat.reduceEqDiff, Nat.reduceLT, Nat.reduceLeDiff, Int.natCast_succ]
            · simp only [go_sem, reduceCtorEq, reduceIte, Nat.reduceEqDiff, Nat.reduceLT, Nat.reduceLeDiff, Int.natCast_succ, tkR]
            · simp; omega
            · rw [← hst]; exact ht
            · simp; omega
            · simp; omega
    · have hkl2 : ¬ (n : Int) < u.length := by omega
      have he : n < u.length → inW (u.getD n 0) = false := fun h => absurd h hkl
      obtain ⟨t, hT2⟩ : ∃ t, u.take n = t := ⟨_, rfl⟩
      have hT : List.take (n - 0) u = t := hT2
      have htl : t.length = n := by rw [← hT2]; simp; omega
      have hU : List.take (u.length - n) (List.drop n u) = u.drop n := List.take_of_length_le (by simp)
      (repeat' first | with_reducible (first | intro _ | refine rc ?_ | refine rl ?_ | refine rh ?_ | refine rt ?_ | refine rf ?_ | refine rs ?_ | refine And.intro ?_ ?_) | omega | simp (maxSteps := 1000000) only [go_sem, simprocAttr, ↓reduceIte, hkl2, Int.toNat_natCast, hT])
      have hn0 : 0 < n := by omega
      have hall : t.all inW = true := by rw [← hT2, ← (u_run hn hr he).1]; exact takeW_all u
      have hws := u_row hn0 hn hr he btw out
      have hwd := u_word hn0 hn hr he btw out
      rw [hT2] at hws hwd
      have hcd := cut_dec hall
      have hcs := @cut_some t
      have hcp := @cut_parts t (preN t) (preN t + (midQ t).length) rfl rfl
      have hrow := isWd_row hall
      have hple := preN_le t
      have hrl := dropR_len t
      have hprp := preN_eq t
      have hql := takeWhile_len_le qu t
      rw [show t.dropWhile qu = dropQ t from rfl] at hql
      have ha : (t.length : Int) - ((dropQ t).length : Int) = (preN t : Int) := by omega
      refine VcCall.fr (FnFr.of_ok (trimLeft_ok t (by omega)) rfl rfl) (by simp only [noIdR_ok, argOkL, argOk, allOk, argOkN, List.drop_zero, lk, reduceIte, reduceCtorEq, Nat.reduceEqDiff, Option.some.injEq, Item.row.injEq, Item.box.injEq, AV.ro.injEq, exists_eq_left, exists_and_left, exists_eq_left', exists_eq_right, and_assoc, and_true, true_and, List.cons.injEq, exists_eq', exists_eq]) 0 rfl (by simp [rowsB]) ?_
      (repeat' first | with_reducible (first | intro _ | refine rc ?_ | refine rl ?_ | refine rh ?_ | refine rt ?_ | refine rf ?_ | refine rs ?_ | refine And.intro ?_ ?_) | omega | simp (maxSteps := 1000000) only [go_sem, simprocAttr, ↓reduceIte, ha])
      refine VcCall.fr (FnFr.of_ok (trimRight_ok t (by omega)) rfl rfl) (by simp only [noIdR_ok, argOkL, argOk, allOk, argOkN, List.drop_zero, lk, reduceIte, reduceCtorEq, Nat.reduceEqDiff, Option.some.injEq, Item.row.injEq, Item.box.injEq, AV.ro.injEq, exists_eq_left, exists_and_left, exists_eq_left', exists_eq_right, and_assoc, and_true, true_and, List.cons.injEq, exists_eq', exists_eq]) 0 rfl (by simp [rowsB]) ?_
      (repeat' first | with_reducible (first | intro _ | refine rc ?_ | refine rl ?_ | refine rh ?_ | refine rt ?_ | refine rf ?_ | refine rs ?_ | refine And.intro ?_ ?_) | omega | simp (maxSteps := 1000000) only [go_sem, simprocAttr, ↓reduceIte, ha])
      · have hw : isWd (midQ t) = false := hcd.1 (by omega)
        have k1 := put_ok out btw t false (by omega) (by omega) (by omega)
        rw [show putB btw t false = btw ++ t from rfl, show putO out btw t false = out from rfl] at k1
        refine VcCall.io [0, 1, 2] k1 (by decide) (by simp [renL, ren, ioN]) rfl (by simp [subOk, ioN, lk, Item.ren, Item.below, ren, renL, belowL, Fv.below, tkR, renR_ok, belowR_ok]) covA3 4 (by decide) rfl (by simp [rowsB, Item.below, Fv.below, belowL, tkR, belowR_ok]) ?_
        (repeat' first | with_reducible (first | intro _ | refine rc ?_ | refine rl ?_ | refine rh ?_ | refine rt ?_ | refine rf ?_ | refine rs ?_ | refine And.intro ?_ ?_) | omega | simp (maxSteps := 1000000) only [go_sem, simprocAttr, ↓reduceIte, S.ioS, ioRows, ioN, delL, Item.ren, ren, renL, tkR, List.length_cons, List.length_nil, List.getElem?_cons_zero, List.getElem?_cons_succ, List.getElem?_nil, List.cons_append, List.nil_append, Nat.reduceAdd, Nat.sub_self, Nat.add_zero, List.filter, hU, Int.toNat_natCast])
        refine ⟨⟨u.drop n, btw ++ t, out⟩, Ent.auto0 rfl ?_ ?_, ⟨?_, ?_, ?_⟩, ?_⟩
        · simp only [go_sem, reduceCtorEq, reduceIte, Nat.reduceEqDiff, Nat.reduceLT, Nat.reduceLeDiff, Int.natCast_succ]
        · simp only [go_sem, reduceCtorEq, reduceIte, Nat.reduceEqDiff, Nat.reduceLT, Nat.reduceLeDiff, Int.natCast_succ, tkR]
        · simp; omega
        · rw [← hws hw]; exact ht
        · simp; omega
        · simp; omega
      · have hw : isWd (midQ t) = true := by
          cases h : isWd (midQ t) with
          | true => rfl
          | false => have := hcd.2 h; omega
        obtain ⟨hne, h40⟩ := hrow.1 hw
        have hml : 0 < (midQ t).length := List.length_pos_iff.2 hne
        obtain ⟨f1, f2, f3⟩ := hcp
        have hb := hcs hne
        have hst := hwd hw
        have h3 := congrArg List.length (three t)
        simp only [List.length_append] at h3
        rw [← hb] at f2 f3
        have f3' : List.take (t.length - (dropR t).length) (List.drop (dropR t).length t) = postQ (dropQ t) := by rw [List.take_of_length_le (by simp)]; exact f3
        generalize midQ t = m at *
        generalize preQ t = x at *
        generalize postQ (dropQ t) = z at *
        generalize preN t = p at *
        generalize (dropR t).length = q at *
        have k1 := put_ok out btw x false (by omega) (by omega) (by omega)
        rw [show putB btw x false = btw ++ x from rfl, show putO out btw x false = out from rfl] at k1
        have k2 := put_ok out (btw ++ x) m true (by omega) (by simp; omega) (by omega)
        rw [show putB (btw ++ x) m true = [] from rfl, show putO out (btw ++ x) m true = flush out (btw ++ x) ++ [(m, true)] from rfl] at k2
        have hfl := addT_len out (btw ++ x) false
        rw [show addT out (btw ++ x) false = flush out (btw ++ x) from rfl] at hfl
        have hol2 : (flush out (btw ++ x) ++ [(m, true)]).length ≤ out.length + 2 := by simp; omega
        generalize flush out (btw ++ x) ++ [(m, true)] = out2 at *
        have k3 := put_ok out2 [] z false (by omega) (by simp) (by omega)
        rw [show putB [] z false = z from rfl, show putO out2 [] z false = out2 from rfl] at k3
        rw [show List.take (p - 0) t = x from f1]
        refine VcCall.io [0, 1, 2] k1 (by decide) (by simp [renL, ren, ioN]) rfl (by simp [subOk, ioN, lk, Item.ren, Item.below, ren, renL, belowL, Fv.below, tkR, renR_ok, belowR_ok]) covA3 4 (by decide) rfl (by simp [rowsB, Item.below, Fv.below, belowL, tkR, belowR_ok]) ?_
        (repeat' first | with_reducible (first | intro _ | refine rc ?_ | refine rl ?_ | refine rh ?_ | refine rt ?_ | refine rf ?_ | refine rs ?_ | refine And.intro ?_ ?_) | omega | simp (maxSteps := 1000000) only [go_sem, simprocAttr, ↓reduceIte, S.ioS, ioRows, ioN, delL, Item.ren, ren, renL, tkR, List.length_cons, List.length_nil, List.getElem?_cons_zero, List.getElem?_cons_succ, List.getElem?_nil, List.cons_append, List.nil_append, Nat.reduceAdd, Nat.sub_self, Nat.add_zero, List.filter, f2, Int.toNat_natCast])
        refine VcCall.io [0, 1, 3] k2 (by decide) (by simp [renL, ren, ioN]) rfl (by simp [subOk, ioN, lk, Item.ren, Item.below, ren, renL, belowL, Fv.below, tkR, renR_ok, belowR_ok]) covA3 4 (by decide) rfl (by simp [rowsB, Item.below, Fv.below, belowL, tkR, belowR_ok]) ?_
        (repeat' first | with_reducible (first | intro _ | refine rc ?_ | refine rl ?_ | refine rh ?_ | refine rt ?_ | refine rf ?_ | refine rs ?_ | refine And.intro ?_ ?_) | omega | simp (maxSteps := 1000000) only [go_sem, simprocAttr, ↓reduceIte, S.ioS, ioRows, ioN, delL, Item.ren, ren, renL, tkR, List.length_cons, List.length_nil, List.getElem?_cons_zero, List.getElem?_cons_succ, List.getElem?_nil, List.cons_append, List.nil_append, Nat.reduceAdd, Nat.sub_self, Nat.add_zero, List.filter, f3', Int.toNat_natCast])
        refine VcCall.io [0, 1, 4] k3 (by decide) (by simp [renL, ren, ioN]) rfl (by simp [subOk, ioN, lk, Item.ren, Item.below, ren, renL, belowL, Fv.below, tkR, renR_ok, belowR_ok]) covA3 4 (by decide) rfl (by simp [rowsB, Item.below, Fv.below, belowL, tkR, belowR_ok]) ?_
        (repeat' first | with_reducible (first | intro _ | refine rc ?_ | refine rl ?_ | refine rh ?_ | refine rt ?_ | refine rf ?_ | refine rs ?_ | refine And.intro ?_ ?_) | omega | simp (maxSteps := 1000000) only [go_sem, simprocAttr, ↓reduceIte, S.ioS, ioRows, ioN, delL, Item.ren, ren, renL, tkR, List.length_cons, List.length_nil, List.getElem?_cons_zero, List.getElem?_cons_succ, List.getElem?_nil, List.cons_append, List.nil_append, Nat.reduceAdd, Nat.sub_self, Nat.add_zero, List.filter, hU, Int.toNat_natCast])
        refine ⟨⟨u.drop n, z, out2⟩, Ent.auto0 rfl ?_ ?_, ⟨?_, ?_, ?_⟩, ?_⟩
        · simp only [go_sem, reduceCtorEq, reduceIte, Nat.reduceEqDiff, Nat.reduceLT, Nat.reduceLeDiff, Int.natCast_succ]
        · simp only [go_sem, reduceCtorEq, reduceIte, Nat.reduceEqDiff, Nat.reduceLT, Nat.reduceLeDiff, Int.natCast_succ, tkR]
        · simp; omega
        · rw [← hst]; exact ht
        · simp; omega
        · simp; omega
end Go.Fv.Y

/- Lines put together: the small functions of the reference. -/
namespace Go.Fv.Y
open Go Go.Proofs
set_option linter.unusedSimpArgs false
set_option linter.unusedVariables false
set_option linter.unnecessarySimpa false
set_option maxRecDepth 8000

theorem lastT_at {l : List Tok} {n : Nat} (h : l.length = n + 1) : lastT l = if (l.getD n ([], false)).2 = true then (l.getD n ([], false)).1 else [] := by
  have e : l = l.take n ++ [l.getD n ([], false)] := by
    have := List.take_append_drop n l
    rw [List.drop_eq_getElem_cons (by omega), List.drop_eq_nil_of_le (by omega), ← getD_lt (d := ([], false)) (by omega)] at this
    exact this.symm
  conv => lhs; rw [e]
  rw [lastT_snoc]
theorem headT_at {l : List Tok} (h : 0 < l.length) : headT l = if (l.getD 0 ([], false)).2 = true then (l.getD 0 ([], false)).1 else [] := by
  cases l with
  | nil => exact absurd h (Nat.lt_irrefl 0)
  | cons a l => rfl
set_option maxHeartbeats 2000000 in
theorem lastWord_ok (s : Bytes) (hs : s.length ≤ 2097152) : FnOk Tryz.prog 44 [.str s] (.str (lastT (toks s [] []))) [] := by
  have c1 := refTokensB_ok s hs
  have hll := toks_len _ s [] [] (Nat.le_refl _)
  simp only [List.length_nil] at hll
  generalize toks s [] [] = l at *
  refine FnOk.of_vc Tryz.func44 rfl (by decide) (by simp [Tryz.f44]) [.tmp 2] rfl fun w0 T0 _ => ?_
  simp only [Tryz.f44, argEnv]
  (repeat' first | with_reducible (first | intro _ | refine rc ?_ | refine rl ?_ | refine rh ?_ | refine rt ?_ | refine rf ?_ | refine rs ?_ | refine And.intro ?_ ?_) | omega | simp (maxSteps := 1000000) only [go_sem, simprocAttr, ↓reduceIte])
  refine VcCall.ro (.ro (tkR l)) (FnFr.of_ok c1 rfl (by simp [noRoRows, noRoItem, noRoRow, noRoL, noRo, tkR, tkAv])) (by simp only [noIdR_ok, argOkL, argOk, allOk, argOkN, List.drop_zero, lk, reduceIte, reduceCtorEq, Nat.reduceEqDiff, Option.some.injEq, Item.row.injEq, Item.box.injEq, AV.ro.injEq, exists_eq_left, exists_and_left, exists_eq_left', exists_eq_right, and_assoc, and_true, true_and, List.cons.injEq, exists_eq', exists_eq]) (by simp [outOk, argOkL, allOk, argOk, argOkN, lk, noIdR_ok, tkR]) rfl ?_
  cases hn : l.length with
  | zero =>
    have : l = [] := List.eq_nil_of_length_eq_zero hn
    subst this
    (repeat' first | with_reducible (first | intro _ | refine rc ?_ | refine rl ?_ | refine rh ?_ | refine rt ?_ | refine rf ?_ | refine rs ?_ | refine And.intro ?_ ?_) | omega | simp (maxSteps := 1000000) only [go_sem, simprocAttr, ↓reduceIte, tkR, List.length_map, hn, List.length_nil, List.map_nil])
    refine Ret.auto 0 ?_ rfl ?_ <;> simp only [go_sem, reduceCtorEq, reduceIte, Nat.reduceEqDiff, Nat.reduceLT, Nat.reduceLeDiff, Int.natCast_succ, Post, lastT]
  | succ n =>
    have ha := lastT_at hn
    have hel := tk_elem l (i := n) (by omega)
    have hkk : (((n + 1 : Nat) : Int) - 1) = (n : Int) := by omega
    have hkt : ((n : Int)).toNat = n := Int.toNat_natCast n
    generalize l.getD n ([], false) = z at *
    obtain ⟨z1, z2⟩ := z
    dsimp only at hel ha
    cases z2 with
    | true =>
      rw [if_pos rfl] at ha
      (repeat' first | with_reducible (first | intro _ | refine rc ?_ | refine rl ?_ | refine rh ?_ | refine rt ?_ | refine rf ?_ | refine rs ?_ | refine And.intro ?_ ?_) | omega | simp (maxSteps := 1000000) only [go_sem, simprocAttr, ↓reduceIte, elemA, hel, tkR, List.length_map, hn, hkk, hkt])
      refine Ret.auto 0 ?_ rfl ?_ <;> simp only [go_sem, reduceCtorEq, reduceIte, Nat.reduceEqDiff, Nat.reduceLT, Nat.reduceLeDiff, Int.natCast_succ, Post, ha]
    | false =>
      rw [if_neg (by decide)] at ha
      (repeat' first | with_reducible (first | intro _ | refine rc ?_ | refine rl ?_ | refine rh ?_ | refine rt ?_ | refine rf ?_ | refine rs ?_ | refine And.intro ?_ ?_) | omega | simp (maxSteps := 1000000) only [go_sem, simprocAttr, ↓reduceIte, elemA, hel, tkR, List.length_map, hn, hkk, hkt])
      refine Ret.auto 0 ?_ rfl ?_ <;> simp only [go_sem, reduceCtorEq, reduceIte, Nat.reduceEqDiff, Nat.reduceLT, Nat.reduceLeDiff, Int.natCast_succ, Post, ha]
set_option maxHeartbeats 2000000 in
theorem firstWord_ok (s : Bytes) (hs : s.length ≤ 2097152) : FnOk Tryz.prog 45 [.str s] (.str (headT (toks s [] []))) [] := by
  have c1 := refTokensB_ok s hs
  have hll := toks_len _ s [] [] (Nat.le_refl _)
  simp only [List.length_nil] at hll
  generalize toks s [] [] = l at *
  refine FnOk.of_vc Tryz.func45 rfl (by decide) (by simp [Tryz.f45]) [.tmp 2] rfl fun w0 T0 _ => ?_
  simp only [Tryz.f45, argEnv]
  (repeat' first | with_reducible (first | intro _ | refine rc ?_ | refine rl ?_ | refine rh ?_ | refine rt ?_ | refine rf ?_ | refine rs ?_ | refine And.intro ?_ ?_) | omega | simp (maxSteps := 1000000) only [go_sem, simprocAttr, ↓reduceIte])
  refine VcCall.ro (.ro (tkR l)) (FnFr.of_ok c1 rfl (by simp [noRoRows, noRoItem, noRoRow, noRoL, noRo, tkR, tkAv])) (by simp only [noIdR_ok, argOkL, argOk, allOk, argOkN, List.drop_zero, lk, reduceIte, reduceCtorEq, Nat.reduceEqDiff, Option.some.injEq, Item.row.injEq, Item.box.injEq, AV.ro.injEq, exists_eq_left, exists_and_left, exists_eq_left', exists_eq_right, and_assoc, and_true, true_and, List.cons.injEq, exists_eq', exists_eq]) (by simp [outOk, argOkL, allOk, argOk, argOkN, lk, noIdR_ok, tkR]) rfl ?_
  by_cases hn : 0 < l.length
  · have ha := headT_at hn
    have hel := tk_elem l (i := 0) hn
    generalize l.getD 0 ([], false) = z at *
    obtain ⟨z1, z2⟩ := z
    dsimp only at hel ha
    cases z2 with
    | true =>
      rw [if_pos rfl] at ha
      (repeat' first | with_reducible (first | intro _ | refine rc ?_ | refine rl ?_ | refine rh ?_ | refine rt ?_ | refine rf ?_ | refine rs ?_ | refine And.intro ?_ ?_) | omega | simp (maxSteps := 1000000) only [go_sem, simprocAttr, ↓reduceIte, elemA, hel, tkR, List.length_map])
      refine Ret.auto 0 ?_ rfl ?_ <;> simp only [go_sem, reduceCtorEq, reduceIte, Nat.reduceEqDiff, Nat.reduceLT, Nat.reduceLeDiff, Int.natCast_succ, Post, ha]
    | false =>
      rw [if_neg (by decide)] at ha
      (repeat' first | with_reducible (first | intro _ | refine rc ?_ | refine rl ?_ | refine rh ?_ | refine rt ?_ | refine rf ?_ | refine rs ?_ | refine And.intro ?_ ?_) | omega | simp (maxSteps := 1000000) only [go_sem, simprocAttr, ↓reduceIte, elemA, hel, tkR, List.length_map])
      refine Ret.auto 0 ?_ rfl ?_ <;> simp only [go_sem, reduceCtorEq, reduceIte, Nat.reduceEqDiff, Nat.reduceLT, Nat.reduceLeDiff, Int.natCast_succ, Post, ha]
  · have : l = [] := List.eq_nil_of_length_eq_zero (by omega)
    subst this
    (repeat' first | with_reducible (first | intro _ | refine rc ?_ | refine rl ?_ | refine rh ?_ | refine rt ?_ | refine rf ?_ | refine rs ?_ | refine And.intro ?_ ?_) | omega | simp (maxSteps := 1000000) only [go_sem, simprocAttr, ↓reduceIte, tkR, List.length_map, List.length_nil, List.map_nil])
    refine Ret.auto 0 ?_ rfl ?_ <;> simp only [go_sem, reduceCtorEq, reduceIte, Nat.reduceEqDiff, Nat.reduceLT, Nat.reduceLeDiff, Int.natCast_succ, Post, headT]
theorem joinNl_ok (s : Bytes) (hs : s.length ≤ 1048576) : FnOk Tryz.prog 39 [.str s] (.bool (nlIn s)) [] := by
  have k := strContains_ok s [10] hs
  unfold nlIn
  refine FnOk.of_vc Tryz.func39 rfl (by decide) (by simp [Tryz.f39]) [.tmp 2] rfl fun w0 T0 _ => ?_
  simp only [Tryz.f39, argEnv]
  (repeat' first | with_reducible (first | intro _ | refine rc ?_ | refine rl ?_ | refine rh ?_ | refine rt ?_ | refine rf ?_ | refine rs ?_ | refine And.intro ?_ ?_) | omega | simp (maxSteps := 1000000) only [go_sem, simprocAttr, ↓reduceIte])
  refine VcCall.k (k) ?_
  (repeat' first | with_reducible (first | intro _ | refine rc ?_ | refine rl ?_ | refine rh ?_ | refine rt ?_ | refine rf ?_ | refine rs ?_ | refine And.intro ?_ ?_) | omega | simp (maxSteps := 1000000) only [go_sem, simprocAttr, ↓reduceIte])
  refine Ret.auto 0 ?_ rfl ?_ <;> simp only [go_sem, reduceCtorEq, reduceIte, Nat.reduceEqDiff, Nat.reduceLT, Nat.reduceLeDiff, Int.natCast_succ, Post]
end Go.Fv.Y

namespace Go.Fv.Y
open Go Go.Proofs
set_option linter.unusedSimpArgs false
set_option linter.unusedVariables false
set_option maxRecDepth 8000
/-- The first place where something holds, or -1. -/
def firstAt {α : Type} (q : α → Bool) : List α → Nat → Int
  | [], _ => -1
  | x :: l, i => if q x = true then i else firstAt q l (i + 1)
theorem firstAt_any {α : Type} (q : α → Bool) : ∀ (l : List α) (i : Nat), (0 ≤ firstAt q l i) ↔ l.any q = true
  | [], i => by simp [firstAt]
  | x :: l, i => by
    simp only [firstAt, List.any_cons]
    split
    · rename_i h; simp [h]
    · rename_i h; simp [h, firstAt_any q l (i + 1)]
theorem drop_at {α : Type} (l : List α) (d : α) {i : Nat} (h : i < l.length) : l.drop i = l.getD i d :: l.drop (i + 1) := by
  rw [List.drop_eq_getElem_cons h, getD_lt h]
set_option maxHeartbeats 1000000 in
theorem indexFuncS_ok (l : List (List UInt8)) (f : Nat) (caps : List AV) [CapsOk caps] (q : List UInt8 → Bool) (hq : ∀ s : List UInt8, s ∈ l → FnFr Tryz.prog f ([.str s] ++ caps) (.bool (q s)) []) :
    FnOk Tryz.prog 88 [.ro (.strs l), .fn f caps] (.int .i64 (firstAt q l 0)) [] := by
  refine FnOk.of_vc Tryz.func88 rfl (by decide) (by simp [Tryz.f88]) [.tmp 4] rfl fun w0 T0 _ => ?_
  simp only [Tryz.f88, argEnv]
  (repeat' first | with_reducible (first | intro _ | refine rc ?_ | refine rl ?_ | refine rh ?_ | refine rt ?_ | refine rf ?_ | refine rs ?_ | refine And.intro ?_ ?_) | omega | simp (maxSteps := 1000000) only [go_sem, simprocAttr, ↓reduceIte])
  refine VcLoop.intro (fun i : Nat => ⟨19, [(0, .ro (.strs l)), (1, .fn f caps), (7, .int .i64 l.length), (8, .int .i64 i)], [], 0⟩) (fun i => i ≤ l.length ∧ firstAt q (l.drop i) i = firstAt q l 0) (fun i => l.length - i) 0 ?_ ⟨Nat.zero_le _, rfl⟩ fun i hI => ?_
  · refine Ent.auto0 rfl ?_ ?_ <;> simp only [go_sem, reduceCtorEq, reduceIte, Nat.reduceEqDiff, Nat.reduceLT, Nat.reduceLeDiff, Int.natCast_succ]
  obtain ⟨hl, hI⟩ := hI
  (repeat' first | with_reducible (first | intro _ | refine rc ?_ | refine rl ?_ | refine rh ?_ | refine rt ?_ | refine rf ?_ | refine rs ?_ | refine And.intro ?_ ?_) | omega | simp (maxSteps := 1000000) only [go_sem, simprocAttr, ↓reduceIte])
  · have hlt : i < l.length := by omega
    have hd := drop_at l [] hlt
    rw [hd, firstAt] at hI
    refine VcCall.fr (args' := [.str (l.getD i [])] ++ caps) (hq _ (by rw [getD_lt hlt]; exact List.getElem_mem hlt)) (by simp [argOkL, allOk, argOkN, allOk_caps]) 0 rfl (by simp [rowsB]) ?_
    (repeat' first | with_reducible (first | intro _ | refine rc ?_ | refine rl ?_ | refine rh ?_ | refine rt ?_ | refine rf ?_ | refine rs ?_ | refine And.intro ?_ ?_) | omega | simp (maxSteps := 1000000) only [go_sem, simprocAttr, ↓reduceIte])
    · rename_i h2
      rw [if_pos h2] at hI
      refine Ret.auto 0 ?_ rfl ?_ <;> simp only [go_sem, reduceCtorEq, reduceIte, Nat.reduceEqDiff, Nat.reduceLT, Nat.reduceLeDiff, Int.natCast_succ, Post]
      rw [← hI]
    · rename_i h2
      rw [if_neg (by rw [h2]; exact Bool.false_ne_true)] at hI
      refine ⟨i + 1, Ent.auto0 rfl ?_ ?_, ⟨by omega, hI⟩, by omega⟩ <;> simp only [go_sem, reduceCtorEq, reduceIte, Nat.reduceEqDiff, Nat.reduceLT, Nat.reduceLeDiff, Int.natCast_succ]
      all_goals rfl
  · have e : i = l.length := by omega
    subst e
    rw [List.drop_length] at hI
    refine Ret.auto 0 ?_ rfl ?_ <;> simp only [go_sem, reduceCtorEq, reduceIte, Nat.reduceEqDiff, Nat.reduceLT, Nat.reduceLeDiff, Int.natCast_succ, Post]
    rw [← hI]; rfl
theorem contFuncS_ok (l : List (List UInt8)) (f : Nat) (caps : List AV) [CapsOk caps] (q : List UInt8 → Bool) (hq : ∀ s : List UInt8, s ∈ l → FnFr Tryz.prog f ([.str s] ++ caps) (.bool (q s)) []) :
    FnOk Tryz.prog 38 [.ro (.strs l), .fn f caps] (.bool (l.any q)) [] := by
  have k := indexFuncS_ok l f caps q hq
  have e : l.any q = decide (0 ≤ firstAt q l 0) := by rw [Bool.eq_iff_iff, decide_eq_true_eq, firstAt_any]
  rw [e]
  refine FnOk.of_vc Tryz.func38 rfl (by decide) (by simp [Tryz.f38]) [.tmp 4] rfl fun w0 T0 _ => ?_
  simp only [Tryz.f38, argEnv]
  (repeat' first | with_reducible (first | intro _ | refine rc ?_ | refine rl ?_ | refine rh ?_ | refine rt ?_ | refine rf ?_ | refine rs ?_ | refine And.intro ?_ ?_) | omega | simp (maxSteps := 1000000) only [go_sem, simprocAttr, ↓reduceIte])
  refine VcCall.fr (args' := [.ro (.strs l), .fn f caps]) (FnFr.of_ok k rfl rfl) (by simp [argOkL, allOk, argOkN, allOk_caps5]) 0 rfl (by simp [rowsB]) ?_
  (repeat' first | with_reducible (first | intro _ | refine rc ?_ | refine rl ?_ | refine rh ?_ | refine rt ?_ | refine rf ?_ | refine rs ?_ | refine And.intro ?_ ?_) | omega | simp (maxSteps := 1000000) only [go_sem, simprocAttr, ↓reduceIte])
  refine Ret.auto 0 ?_ rfl ?_ <;> simp only [go_sem, reduceCtorEq, reduceIte, Nat.reduceEqDiff, Nat.reduceLT, Nat.reduceLeDiff, Int.natCast_succ, Post]
end Go.Fv.Y
