/-
  A part of the proof of the claim: walks over the program's functions and the plain laws that these need. No condition of its own.
-/
import Derived.Test.YtingcghleidhmaaDoorPSplitsMatchCardPart2
/-! Stretches: the walk. -/
namespace Go.Fv.P
open Go Go.Proofs
set_option linter.unusedSimpArgs false
set_option linter.unusedVariables false
set_option linter.unnecessarySimpa false
set_option maxRecDepth 8000

def stAv (s : Nat × Nat) : List AV := [.int .i64 s.1, .int .i64 s.2]
instance : FNoId stAv := ⟨fun _ => rfl⟩
def stR (l : List (Nat × Nat)) : RowV := .objs 2 (l.map stAv)
theorem st_elem (l : List (Nat × Nat)) {i : Nat} (h : i < l.length) : (l.map stAv).getD i [] = [.int .i64 (l.getD i (0, 0)).1, .int .i64 (l.getD i (0, 0)).2] := by
  rw [getD_lt (by simpa using h), getD_lt h, List.getElem_map]; rfl
theorem strs_len (is : Nat → Bool) : ∀ n i, (strs is n i).length ≤ n
  | 0, i => by unfold strs; simp
  | n + 1, i => by
    unfold strs
    split
    · have := strs_len is (n - (runE is (n + 1) i - i)) (runE is (n + 1) i + 1)
      simp only [List.length_cons]; omega
    · have := strs_len is n (i + 1)
      omega
termination_by n => n
decreasing_by all_goals omega
set_option maxHeartbeats 4000000 in
theorem stretches_ok (a z : Nat) (haz : a ≤ z) (hz : z ≤ 10000) (f : Nat) (caps : List AV) [CapsOk caps] (is : Nat → Bool) (hq : ∀ i : Nat, a ≤ i → i < z → FnFr Tryd.prog f ([.int .i64 i] ++ caps) (.bool (is i)) []) :
    FnOk Tryd.prog 88 [.int .i64 a, .int .i64 z, .fn f caps] (.own 0) [(0, .row 116 (stR (strs is (z - a) a)))] := by
  have hsl := strs_len is (z - a) a
  refine FnOk.of_vc Tryd.func88 rfl (by decide) (by simp [Tryd.f88]) [.tmp 6] rfl fun w0 T0 _ => ?_
  simp only [Tryd.f88, argEnv]
  (repeat' first | with_reducible (first | refine Asm.intro fun _ => ?_ | refine Chk.g ?_ | refine AnyI.i64 fun _ _ => ?_ | refine LetW.g ?_ | refine LetW.h ?_ | refine Ite.t fun _ => ?_ | refine Ite.f fun _ => ?_ | refine Ite.decide (fun _ => ?_) fun _ => ?_ | refine Ite.bool (fun _ => ?_) fun _ => ?_ | refine And.intro ?_ ?_) | omega | simp (maxSteps := 1000000) only [go_sem, reduceCtorEq, Nat.reduceLT, Nat.reduceLeDiff, reduceIte, ↓reduceIte, Nat.reduceEqDiff, Nat.reduceAdd, Nat.reduceMul, Nat.reduceSub, Int.reduceLE, Int.reduceLT, Int.reduceNeg, Int.reduceToNat])
  refine VcLoop.intro (fun x : Nat × List (Nat × Nat) => ⟨41, [(7, .own 0), (8, .int .i64 x.1), (1, .int .i64 z), (2, .fn f caps)], [(0, .row 116 (.objs 2 (x.2.map stAv)))], 1⟩) (fun x => a ≤ x.1 ∧ x.1 ≤ z + 1 ∧ x.2 ++ strs is (z - x.1) x.1 = strs is (z - a) a) (fun x => z + 1 - x.1) (a, []) ?_ ⟨Nat.le_refl _, by omega, rfl⟩ fun x hx => ?_
  · refine Ent.auto0 rfl ?_ ?_ <;> simp only [go_sem, reduceCtorEq, reduceIte, Nat.reduceEqDiff, Nat.reduceLT, Nat.reduceLeDiff, Int.natCast_succ, List.map_nil, zrow]
  obtain ⟨i, l⟩ := x
  obtain ⟨h1, h2, h3⟩ := hx
  dsimp only at h1 h2 h3 ⊢
  have hll : l.length ≤ 10000 := by
    have := congrArg List.length h3
    rw [List.length_append] at this
    omega
  by_cases hlt : i < z
  · obtain ⟨n, hn⟩ : ∃ n, z - i = n + 1 := ⟨z - i - 1, by omega⟩
    have hqi := hq i h1 hlt
    have hnx : strs is (n + 1) i = if is i = true then (i, runE is (n + 1) i - i) :: strs is (n - (runE is (n + 1) i - i)) (runE is (n + 1) i + 1) else strs is n (i + 1) := by rw [strs]
    rw [hn] at h3
    cases hi : is i with
    | false =>
      rw [hi] at hqi
      rw [if_neg (by rw [hi]; decide)] at hnx
      (repeat' first | with_reducible (first | refine Asm.intro fun _ => ?_ | refine Chk.g ?_ | refine AnyI.i64 fun _ _ => ?_ | refine LetW.g ?_ | refine LetW.h ?_ | refine Ite.t fun _ => ?_ | refine Ite.f fun _ => ?_ | refine Ite.decide (fun _ => ?_) fun _ => ?_ | refine Ite.bool (fun _ => ?_) fun _ => ?_ | refine And.intro ?_ ?_) | omega | simp (maxSteps := 1000000) only [go_sem, reduceCtorEq, Nat.reduceLT, Nat.reduceLeDiff, reduceIte, ↓reduceIte, Nat.reduceEqDiff, Nat.reduceAdd, Nat.reduceMul, Nat.reduceSub, Int.reduceLE, Int.reduceLT, Int.reduceNeg, Int.reduceToNat])
      refine VcCall.fr (args' := [.int .i64 i] ++ caps) hqi (by simp [argOkL, allOk, argOkN, allOk_caps]) 0 rfl (by simp [rowsB]) ?_
      (repeat' first | with_reducible (first | refine Asm.intro fun _ => ?_ | refine Chk.g ?_ | refine AnyI.i64 fun _ _ => ?_ | refine LetW.g ?_ | refine LetW.h ?_ | refine Ite.t fun _ => ?_ | refine Ite.f fun _ => ?_ | refine Ite.decide (fun _ => ?_) fun _ => ?_ | refine Ite.bool (fun _ => ?_) fun _ => ?_ | refine And.intro ?_ ?_) | omega | simp (maxSteps := 1000000) only [go_sem, reduceCtorEq, Nat.reduceLT, Nat.reduceLeDiff, reduceIte, ↓reduceIte, Nat.reduceEqDiff, Nat.reduceAdd, Nat.reduceMul, Nat.reduceSub, Int.reduceLE, Int.reduceLT, Int.reduceNeg, Int.reduceToNat])
      refine ⟨(i + 1, l), Ent.auto0 rfl ?_ ?_, ⟨by dsimp only; omega, by dsimp only; omega, ?_⟩, by dsimp only; omega⟩
      · simp only [go_sem, reduceCtorEq, reduceIte, Nat.reduceEqDiff, Nat.reduceLT, Nat.reduceLeDiff, Int.natCast_succ]
      · simp only [go_sem, reduceCtorEq, reduceIte, Nat.reduceEqDiff, Nat.reduceLT, Nat.reduceLeDiff, Int.natCast_succ]
      · show l ++ strs is (z - (i + 1)) (i + 1) = _
        rw [show z - (i + 1) = n by omega, ← h3, hnx]
    | true =>
      rw [hi] at hqi
      rw [if_pos hi] at hnx
      (repeat' first | with_reducible (first | refine Asm.intro fun _ => ?_ | refine Chk.g ?_ | refine AnyI.i64 fun _ _ => ?_ | refine LetW.g ?_ | refine LetW.h ?_ | refine Ite.t fun _ => ?_ | refine Ite.f fun _ => ?_ | refine Ite.decide (fun _ => ?_) fun _ => ?_ | refine Ite.bool (fun _ => ?_) fun _ => ?_ | refine And.intro ?_ ?_) | omega | simp (maxSteps := 1000000) only [go_sem, reduceCtorEq, Nat.reduceLT, Nat.reduceLeDiff, reduceIte, ↓reduceIte, Nat.reduceEqDiff, Nat.reduceAdd, Nat.reduceMul, Nat.reduceSub, Int.reduceLE, Int.reduceLT, Int.reduceNeg, Int.reduceToNat])
      refine VcCall.fr (args' := [.int .i64 i] ++ caps) hqi (by simp [argOkL, allOk, argOkN, allOk_caps]) 0 rfl (by simp [rowsB]) ?_
      (repeat' first | with_reducible (first | refine Asm.intro fun _ => ?_ | refine Chk.g ?_ | refine AnyI.i64 fun _ _ => ?_ | refine LetW.g ?_ | refine LetW.h ?_ | refine Ite.t fun _ => ?_ | refine Ite.f fun _ => ?_ | refine Ite.decide (fun _ => ?_) fun _ => ?_ | refine Ite.bool (fun _ => ?_) fun _ => ?_ | refine And.intro ?_ ?_) | omega | simp (maxSteps := 1000000) only [go_sem, reduceCtorEq, Nat.reduceLT, Nat.reduceLeDiff, reduceIte, ↓reduceIte, Nat.reduceEqDiff, Nat.reduceAdd, Nat.reduceMul, Nat.reduceSub, Int.reduceLE, Int.reduceLT, Int.reduceNeg, Int.reduceToNat])
      refine VcLoop.intro (fun k : Nat => ⟨41, [(9, .int .i64 k), (7, .own 0), (8, .int .i64 i), (1, .int .i64 z), (2, .fn f caps)], [(0, .row 116 (.objs 2 (l.map stAv)))], 1⟩) (fun k => i ≤ k ∧ k ≤ z ∧ runE is (z - k) k = runE is (n + 1) i) (fun k => z - k) i ?_ ⟨Nat.le_refl _, by omega, by rw [hn]⟩ fun k hk => ?_
      · refine Ent.auto0 rfl ?_ ?_ <;> simp only [go_sem, reduceCtorEq, reduceIte, Nat.reduceEqDiff, Nat.reduceLT, Nat.reduceLeDiff, Int.natCast_succ]
      obtain ⟨k1, k2, k3⟩ := hk
      have hcast : ((k - i : Nat) : Int) = (k : Int) - i := by omega
      by_cases hkz : k < z
      · have hqk := hq k (by omega) hkz
        have hdk : decide ((k : Int) < z) = true := by simp; exact hkz
        obtain ⟨m, hm⟩ : ∃ m, z - k = m + 1 := ⟨z - k - 1, by omega⟩
        have hrn : runE is (m + 1) k = if is k = true then runE is m (k + 1) else k := rfl
        rw [hm] at k3
        cases hik : is k with
        | true =>
          rw [hik] at hqk
          rw [if_pos hik] at hrn
          (repeat' first | with_reducible (first | refine Asm.intro fun _ => ?_ | refine Chk.g ?_ | refine AnyI.i64 fun _ _ => ?_ | refine LetW.g ?_ | refine LetW.h ?_ | refine Ite.t fun _ => ?_ | refine Ite.f fun _ => ?_ | refine Ite.decide (fun _ => ?_) fun _ => ?_ | refine Ite.bool (fun _ => ?_) fun _ => ?_ | refine And.intro ?_ ?_) | omega | simp (maxSteps := 1000000) only [go_sem, reduceCtorEq, Nat.reduceLT, Nat.reduceLeDiff, reduceIte, ↓reduceIte, Nat.reduceEqDiff, Nat.reduceAdd, Nat.reduceMul, Nat.reduceSub, Int.reduceLE, Int.reduceLT, Int.reduceNeg, Int.reduceToNat, hdk])
          refine VcCall.fr (args' := [.int .i64 k] ++ caps) hqk (by simp [argOkL, allOk, argOkN, allOk_caps]) 0 rfl (by simp [rowsB]) ?_
          (repeat' first | with_reducible (first | refine Asm.intro fun _ => ?_ | refine Chk.g ?_ | refine AnyI.i64 fun _ _ => ?_ | refine LetW.g ?_ | refine LetW.h ?_ | refine Ite.t fun _ => ?_ | refine Ite.f fun _ => ?_ | refine Ite.decide (fun _ => ?_) fun _ => ?_ | refine Ite.bool (fun _ => ?_) fun _ => ?_ | refine And.intro ?_ ?_) | omega | simp (maxSteps := 1000000) only [go_sem, reduceCtorEq, Nat.reduceLT, Nat.reduceLeDiff, reduceIte, ↓reduceIte, Nat.reduceEqDiff, Nat.reduceAdd, Nat.reduceMul, Nat.reduceSub, Int.reduceLE, Int.reduceLT, Int.reduceNeg, Int.reduceToNat, hdk])
          refine ⟨k + 1, Ent.auto0 rfl ?_ ?_, ⟨by omega, by omega, by rw [show z - (k + 1) = m by omega, ← hrn]; exact k3⟩, by omega⟩ <;> simp only [go_sem, reduceCtorEq, reduceIte, Nat.reduceEqDiff, Nat.reduceLT, Nat.reduceLeDiff, Int.natCast_succ]
        | false =>
          rw [hik] at hqk
          rw [if_neg (by rw [hik]; decide)] at hrn
          rw [hrn] at k3
          (repeat' first | with_reducible (first | refine Asm.intro fun _ => ?_ | refine Chk.g ?_ | refine AnyI.i64 fun _ _ => ?_ | refine LetW.g ?_ | refine LetW.h ?_ | refine Ite.t fun _ => ?_ | refine Ite.f fun _ => ?_ | refine Ite.decide (fun _ => ?_) fun _ => ?_ | refine Ite.bool (fun _ => ?_) fun _ => ?_ | refine And.intro ?_ ?_) | omega | simp (maxSteps := 1000000) only [go_sem, reduceCtorEq, Nat.reduceLT, Nat.reduceLeDiff, reduceIte, ↓reduceIte, Nat.reduceEqDiff, Nat.reduceAdd, Nat.reduceMul, Nat.reduceSub, Int.reduceLE, Int.reduceLT, Int.reduceNeg, Int.reduceToNat, hdk])
          refine VcCall.fr (args' := [.int .i64 k] ++ caps) hqk (by simp [argOkL, allOk, argOkN, allOk_caps]) 0 rfl (by simp [rowsB]) ?_
          (repeat' first | with_reducible (first | refine Asm.intro fun _ => ?_ | refine Chk.g ?_ | refine AnyI.i64 fun _ _ => ?_ | refine LetW.g ?_ | refine LetW.h ?_ | refine Ite.t fun _ => ?_ | refine Ite.f fun _ => ?_ | refine Ite.decide (fun _ => ?_) fun _ => ?_ | refine Ite.bool (fun _ => ?_) fun _ => ?_ | refine And.intro ?_ ?_) | omega | simp (maxSteps := 1000000) only [go_sem, reduceCtorEq, Nat.reduceLT, Nat.reduceLeDiff, reduceIte, ↓reduceIte, Nat.reduceEqDiff, Nat.reduceAdd, Nat.reduceMul, Nat.reduceSub, Int.reduceLE, Int.reduceLT, Int.reduceNeg, Int.reduceToNat, hdk, List.length_map])
          refine ⟨(k + 1, l ++ [(i, k - i)]), Ent.auto0 rfl ?_ ?_, ⟨by dsimp only; omega, by dsimp only; omega, ?_⟩, by dsimp only; omega⟩
          · simp only [go_sem, reduceCtorEq, reduceIte, Nat.reduceEqDiff, Nat.reduceLT, Nat.reduceLeDiff, Int.natCast_succ]
          · simp only [go_sem, reduceCtorEq, reduceIte, Nat.reduceEqDiff, Nat.reduceLT, Nat.reduceLeDiff, Int.natCast_succ, List.map_append, List.map_cons, List.map_nil, stAv, hcast]
          · show (l ++ [(i, k - i)]) ++ strs is (z - (k + 1)) (k + 1) = _
            rw [← h3, hnx, ← k3, List.append_assoc, show z - (k + 1) = n - (k - i) by omega]; rfl
      · have e : k = z := by omega
        subst e
        have hdk : decide ((k : Int) < k) = false := by simp
        have k3' : k = runE is (n + 1) i := by rw [← k3, Nat.sub_self]; rfl
        (repeat' first | with_reducible (first | refine Asm.intro fun _ => ?_ | refine Chk.g ?_ | refine AnyI.i64 fun _ _ => ?_ | refine LetW.g ?_ | refine LetW.h ?_ | refine Ite.t fun _ => ?_ | refine Ite.f fun _ => ?_ | refine Ite.decide (fun _ => ?_) fun _ => ?_ | refine Ite.bool (fun _ => ?_) fun _ => ?_ | refine And.intro ?_ ?_) | omega | simp (maxSteps := 1000000) only [go_sem, reduceCtorEq, Nat.reduceLT, Nat.reduceLeDiff, reduceIte, ↓reduceIte, Nat.reduceEqDiff, Nat.reduceAdd, Nat.reduceMul, Nat.reduceSub, Int.reduceLE, Int.reduceLT, Int.reduceNeg, Int.reduceToNat, hdk, List.length_map])
        refine ⟨(k + 1, l ++ [(i, k - i)]), Ent.auto0 rfl ?_ ?_, ⟨by dsimp only; omega, by dsimp only; omega, ?_⟩, by dsimp only; omega⟩
        · simp only [go_sem, reduceCtorEq, reduceIte, Nat.reduceEqDiff, Nat.reduceLT, Nat.reduceLeDiff, Int.natCast_succ]
        · simp only [go_sem, reduceCtorEq, reduceIte, Nat.reduceEqDiff, Nat.reduceLT, Nat.reduceLeDiff, Int.natCast_succ, List.map_append, List.map_cons, List.map_nil, stAv, hcast]
        · show (l ++ [(i, k - i)]) ++ strs is (k - (k + 1)) (k + 1) = _
          rw [← h3, hnx, ← k3', List.append_assoc, show k - (k + 1) = n - (k - i) by omega]; rfl
  · have e0 : strs is (z - i) i = [] := by rw [show z - i = 0 by omega]; unfold strs; rfl
    rw [e0, List.append_nil] at h3
    subst h3
    (repeat' first | with_reducible (first | refine Asm.intro fun _ => ?_ | refine Chk.g ?_ | refine AnyI.i64 fun _ _ => ?_ | refine LetW.g ?_ | refine LetW.h ?_ | refine Ite.t fun _ => ?_ | refine Ite.f fun _ => ?_ | refine Ite.decide (fun _ => ?_) fun _ => ?_ | refine Ite.bool (fun _ => ?_) fun _ => ?_ | refine And.intro ?_ ?_) | omega | simp (maxSteps := 1000000) only [go_sem, reduceCtorEq, Nat.reduceLT, Nat.reduceLeDiff, reduceIte, ↓reduceIte, Nat.reduceEqDiff, Nat.reduceAdd, Nat.reduceMul, Nat.reduceSub, Int.reduceLE, Int.reduceLT, Int.reduceNeg, Int.reduceToNat])
    refine Ret.auto 1 ?_ rfl ?_ <;> simp only [go_sem, reduceCtorEq, reduceIte, Nat.reduceEqDiff, Nat.reduceLT, Nat.reduceLeDiff, Int.natCast_succ, Post, stR]
theorem wide_bd {n least : Nat} : ∀ {l : List (Nat × Nat)} {b : Nat × Nat}, (∀ s, s ∈ l → s.1 ≤ n ∧ s.2 ≤ n) → b.1 ≤ n ∧ b.2 ≤ n → (l.foldl (wide least) b).1 ≤ n ∧ (l.foldl (wide least) b).2 ≤ n
  | [], b, _, h => h
  | s :: l, b, hs, h => by
    rw [List.foldl_cons]
    refine wide_bd (fun t ht => hs t (.tail _ ht)) ?_
    unfold wide; split
    · exact hs s (.head _)
    · exact h
set_option maxHeartbeats 2000000 in
theorem widest_ok (l : List (Nat × Nat)) (hl : l.length ≤ 10000) (least : Nat) (hle : least ≤ 4000) (hs : ∀ s, s ∈ l → s.1 ≤ 10000 ∧ s.2 ≤ 10000) :
    FnOk Tryd.prog 87 [.ro (stR l), .int .i64 least] (.agg (stAv (widest least l))) [] := by
  refine FnOk.of_vc Tryd.func87 rfl (by decide) (by simp [Tryd.f87]) [.cell 4 116] rfl fun w0 T0 _ => ?_
  simp only [Tryd.f87, argEnv]
  (repeat' first | with_reducible (first | refine Asm.intro fun _ => ?_ | refine Chk.g ?_ | refine AnyI.i64 fun _ _ => ?_ | refine LetW.g ?_ | refine LetW.h ?_ | refine Ite.t fun _ => ?_ | refine Ite.f fun _ => ?_ | refine Ite.decide (fun _ => ?_) fun _ => ?_ | refine Ite.bool (fun _ => ?_) fun _ => ?_ | refine And.intro ?_ ?_) | omega | simp (maxSteps := 1000000) only [go_sem, reduceCtorEq, Nat.reduceLT, Nat.reduceLeDiff, reduceIte, ↓reduceIte, Nat.reduceEqDiff, Nat.reduceAdd, Nat.reduceMul, Nat.reduceSub, Int.reduceLE, Int.reduceLT, Int.reduceNeg, Int.reduceToNat, stR, List.length_map])
  refine VcLoop.intro (fun i : Nat => ⟨27, [(9, .int .i64 i), (8, .int .i64 l.length), (7, .ro (stR l)), (1, .int .i64 least), (4, .ptr 0 0)], [(0, .box 116 (stAv ((l.take i).foldl (wide least) (0, 0))))], 1⟩) (fun i => i ≤ l.length) (fun i => l.length - i) 0 ?_ (Nat.zero_le _) fun i hi => ?_
  · refine Ent.auto0 rfl ?_ ?_ <;> simp only [go_sem, reduceCtorEq, reduceIte, Nat.reduceEqDiff, Nat.reduceLT, Nat.reduceLeDiff, Int.natCast_succ, List.take_zero, List.foldl_nil, stAv, stR]
  have hbd := wide_bd (least := least) (n := 10000) (l := l.take i) (b := (0, 0)) (fun s hm => hs s (List.mem_of_mem_take hm)) ⟨by decide, by decide⟩
  by_cases hlt : i < l.length
  · have he := st_elem l hlt
    have hm := hs (l.getD i (0, 0)) (by rw [getD_lt hlt]; exact List.getElem_mem hlt)
    have ht : (l.take (i + 1)).foldl (wide least) (0, 0) = wide least ((l.take i).foldl (wide least) (0, 0)) (l.getD i (0, 0)) := by
      rw [List.take_succ_eq_append_getElem hlt, List.foldl_append, getD_lt hlt]; rfl
    generalize (l.take i).foldl (wide least) (0, 0) = B at *
    generalize l.getD i (0, 0) = s at *
    obtain ⟨b1, b2⟩ := B
    obtain ⟨s1, s2⟩ := s
    dsimp only at hbd hm he
    unfold stAv
    (repeat' first | with_reducible (first | refine Asm.intro fun _ => ?_ | refine Chk.g ?_ | refine AnyI.i64 fun _ _ => ?_ | refine LetW.g ?_ | refine LetW.h ?_ | refine Ite.t fun _ => ?_ | refine Ite.f fun _ => ?_ | refine Ite.decide (fun _ => ?_) fun _ => ?_ | refine Ite.bool (fun _ => ?_) fun _ => ?_ | refine And.intro ?_ ?_) | omega | simp (maxSteps := 1000000) only [go_sem, reduceCtorEq, Nat.reduceLT, Nat.reduceLeDiff, reduceIte, ↓reduceIte, Nat.reduceEqDiff, Nat.reduceAdd, Nat.reduceMul, Nat.reduceSub, Int.reduceLE, Int.reduceLT, Int.reduceNeg, Int.reduceToNat, stR, List.length_map, elemA, he, Int.toNat_natCast])
    · have hw : wide least (b1, b2) (s1, s2) = (s1, s2) := if_pos (by dsimp only; omega)
      rw [hw] at ht
      refine ⟨i + 1, Ent.auto0 rfl ?_ ?_, by omega, by omega⟩ <;> simp only [go_sem, reduceCtorEq, reduceIte, Nat.reduceEqDiff, Nat.reduceLT, Nat.reduceLeDiff, Int.natCast_succ, ht, stR]
    · have hw : wide least (b1, b2) (s1, s2) = (b1, b2) := if_neg (by dsimp only; omega)
      rw [hw] at ht
      refine ⟨i + 1, Ent.auto0 rfl ?_ ?_, by omega, by omega⟩ <;> simp only [go_sem, reduceCtorEq, reduceIte, Nat.reduceEqDiff, Nat.reduceLT, Nat.reduceLeDiff, Int.natCast_succ, ht, stR]
  · have e : i = l.length := by omega
    subst e
    rw [List.take_length]
    have eh : l.foldl (wide least) (0, 0) = widest least l := rfl
    rw [eh]
    generalize widest least l = A at *
    unfold stAv
    (repeat' first | with_reducible (first | refine Asm.intro fun _ => ?_ | refine Chk.g ?_ | refine AnyI.i64 fun _ _ => ?_ | refine LetW.g ?_ | refine LetW.h ?_ | refine Ite.t fun _ => ?_ | refine Ite.f fun _ => ?_ | refine Ite.decide (fun _ => ?_) fun _ => ?_ | refine Ite.bool (fun _ => ?_) fun _ => ?_ | refine And.intro ?_ ?_) | omega | simp (maxSteps := 1000000) only [go_sem, reduceCtorEq, Nat.reduceLT, Nat.reduceLeDiff, reduceIte, ↓reduceIte, Nat.reduceEqDiff, Nat.reduceAdd, Nat.reduceMul, Nat.reduceSub, Int.reduceLE, Int.reduceLT, Int.reduceNeg, Int.reduceToNat, stR, List.length_map])
    refine Ret.auto 0 ?_ rfl ?_ <;> simp only [go_sem, reduceCtorEq, reduceIte, Nat.reduceEqDiff, Nat.reduceLT, Nat.reduceLeDiff, Int.natCast_succ, Post, List.drop_zero]
theorem mul_bd {a b : Nat} (ha : a ≤ 10000) (hb : b ≤ 4000) : 0 ≤ (a : Int) * b ∧ (a : Int) * b ≤ 40000000 := by
  have h : a * b ≤ 10000 * 4000 := Nat.mul_le_mul ha hb
  rw [← Int.natCast_mul]
  omega
theorem atColumns_ok (c r : Nat × Nat) (gx gy : Nat) (hc : c.1 ≤ 10000 ∧ c.2 ≤ 10000) (hr : r.1 ≤ 10000 ∧ r.2 ≤ 10000) (hx : gx ≤ 4000) (hy : gy ≤ 4000) :
    FnOk Tryd.prog 76 [.agg (stAv c), .agg (stAv r), .int .i64 gx, .int .i64 gy] (.bool (decide (0 < c.2 ∧ (r.2 = 0 ∨ r.2 * gx < c.2 * gy)))) [] := by
  obtain ⟨c1, c2⟩ := c
  obtain ⟨r1, r2⟩ := r
  dsimp only at *
  have m1 := mul_bd hr.2 hx
  have m2 := mul_bd hc.2 hy
  have m3 : (r2 * gx < c2 * gy) ↔ ((r2 : Int) * gx < (c2 : Int) * gy) := by rw [← Int.natCast_mul, ← Int.natCast_mul]; omega
  have e : decide (0 < c2 ∧ (r2 = 0 ∨ r2 * gx < c2 * gy)) = decide (0 < (c2 : Int) ∧ ((r2 : Int) = 0 ∨ (r2 : Int) * gx < (c2 : Int) * gy)) := by
    exact decide_eq_decide.2 (by rw [m3]; omega)
  rw [e]
  unfold stAv
  dsimp only
  refine FnOk.of_vc Tryd.func76 rfl (by decide) (by simp [Tryd.f76]) [.tmp 8] rfl fun w0 T0 _ => ?_
  simp only [Tryd.f76, argEnv]
  have n1 : -9223372036854775808 ≤ (c2 : Int) * gy ∧ (c2 : Int) * gy ≤ 9223372036854775807 := by omega
  have n2 : -9223372036854775808 ≤ (r2 : Int) * gx ∧ (r2 : Int) * gx ≤ 9223372036854775807 := by omega
  (repeat' first | with_reducible (first | refine Asm.intro fun _ => ?_ | refine Chk.g ?_ | refine AnyI.i64 fun _ _ => ?_ | refine LetW.g ?_ | refine LetW.h ?_ | refine Ite.t fun _ => ?_ | refine Ite.f fun _ => ?_ | refine Ite.decide (fun _ => ?_) fun _ => ?_ | refine Ite.bool (fun _ => ?_) fun _ => ?_ | refine And.intro ?_ ?_) | omega | simp (maxSteps := 1000000) only [go_sem, reduceCtorEq, Nat.reduceLT, Nat.reduceLeDiff, reduceIte, ↓reduceIte, Nat.reduceEqDiff, Nat.reduceAdd, Nat.reduceMul, Nat.reduceSub, Int.reduceLE, Int.reduceLT, Int.reduceNeg, Int.reduceToNat, eq_true n1.1, eq_true n1.2, eq_true n2.1, eq_true n2.2])
  all_goals refine Ret.auto 0 ?_ rfl ?_ <;> simp only [go_sem, reduceCtorEq, reduceIte, Nat.reduceEqDiff, Nat.reduceLT, Nat.reduceLeDiff, Int.natCast_succ, Post]
end Go.Fv.P

/-! The closures of cut: the walk. -/
namespace Go.Fv.P
open Go Go.Proofs
set_option linter.unusedSimpArgs false
set_option linter.unusedVariables false
set_option linter.unnecessarySimpa false
set_option maxRecDepth 8000

set_option maxHeartbeats 1000000 in
theorem cutA_ok (p : List Bool) (w h : Nat) (hw : w ≤ 4000) (hh : h ≤ 4000) (gx gy : Nat) (o : List Nb) (b : Nb) (i : Nat) (hi : i < w) (hb : InP b w h) :
    FnOk Tryd.prog 89 [.int .i64 i, .cell [.cell (ctr p w h gx gy (.ro (nbs o)))], .cell b.av] (.bool (colE p w b i)) [] := by
  have k := column_ok p w h hw hh gx gy o b i hi hb
  have e : colE p w b i = !decide (0 < (colN p w b i : Int)) := by
    unfold colE
    by_cases h0 : colN p w b i = 0
    · rw [h0]; rfl
    · rw [decide_eq_false h0, decide_eq_true (by omega : 0 < (colN p w b i : Int))]; rfl
  rw [e]
  generalize decide (0 < (colN p w b i : Int)) = q at *
  unfold ctr Nb.av at *
  generalize sumL p w h = sc at *
  refine FnOk.of_vc Tryd.func89 rfl (by decide) (by simp [Tryd.f89]) [.tmp 4] rfl fun w0 T0 _ => ?_
  simp only [Tryd.f89, argEnv]
  (repeat' first | with_reducible (first | refine Asm.intro fun _ => ?_ | refine Chk.g ?_ | refine AnyI.i64 fun _ _ => ?_ | refine LetW.g ?_ | refine LetW.h ?_ | refine Ite.t fun _ => ?_ | refine Ite.f fun _ => ?_ | refine Ite.decide (fun _ => ?_) fun _ => ?_ | refine Ite.bool (fun _ => ?_) fun _ => ?_ | refine And.intro ?_ ?_) | omega | simp (maxSteps := 1000000) only [go_sem, reduceCtorEq, Nat.reduceLT, Nat.reduceLeDiff, reduceIte, ↓reduceIte, Nat.reduceEqDiff, Nat.reduceAdd, Nat.reduceMul, Nat.reduceSub, Int.reduceLE, Int.reduceLT, Int.reduceNeg, Int.reduceToNat])
  refine VcCall.fr (FnFr.of_ok (k) rfl rfl) (by simp only [noIdR_ok, argOkL, argOk, allOk, argOkN, List.drop_zero, lk, reduceIte, reduceCtorEq, Nat.reduceEqDiff, Option.some.injEq, Item.row.injEq, Item.box.injEq, AV.ro.injEq, exists_eq_left, exists_and_left, exists_eq_left', exists_eq_right, and_assoc, and_true, true_and, List.cons.injEq, exists_eq', exists_eq]) 0 rfl (by simp [rowsB]) ?_
  (repeat' first | with_reducible (first | refine Asm.intro fun _ => ?_ | refine Chk.g ?_ | refine AnyI.i64 fun _ _ => ?_ | refine LetW.g ?_ | refine LetW.h ?_ | refine Ite.t fun _ => ?_ | refine Ite.f fun _ => ?_ | refine Ite.decide (fun _ => ?_) fun _ => ?_ | refine Ite.bool (fun _ => ?_) fun _ => ?_ | refine And.intro ?_ ?_) | omega | simp (maxSteps := 1000000) only [go_sem, reduceCtorEq, Nat.reduceLT, Nat.reduceLeDiff, reduceIte, ↓reduceIte, Nat.reduceEqDiff, Nat.reduceAdd, Nat.reduceMul, Nat.reduceSub, Int.reduceLE, Int.reduceLT, Int.reduceNeg, Int.reduceToNat])
  refine Ret.auto 0 ?_ rfl ?_ <;> simp only [go_sem, reduceCtorEq, reduceIte, Nat.reduceEqDiff, Nat.reduceLT, Nat.reduceLeDiff, Int.natCast_succ, Post]
set_option maxHeartbeats 1000000 in
theorem cutB_ok (p : List Bool) (w h : Nat) (hw : w ≤ 4000) (hh : h ≤ 4000) (gx gy : Nat) (o : List Nb) (b : Nb) (i : Nat) (hi : i < h) (hb : InP b w h) :
    FnOk Tryd.prog 91 [.int .i64 i, .cell [.cell (ctr p w h gx gy (.ro (nbs o)))], .cell b.av] (.bool (rowE p w b i)) [] := by
  have k := row_ok p w h hw hh gx gy o b i hi hb
  have e : rowE p w b i = !decide (0 < (rowN p w b i : Int)) := by
    unfold rowE
    by_cases h0 : rowN p w b i = 0
    · rw [h0]; rfl
    · rw [decide_eq_false h0, decide_eq_true (by omega : 0 < (rowN p w b i : Int))]; rfl
  rw [e]
  generalize decide (0 < (rowN p w b i : Int)) = q at *
  unfold ctr Nb.av at *
  generalize sumL p w h = sc at *
  refine FnOk.of_vc Tryd.func91 rfl (by decide) (by simp [Tryd.f91]) [.tmp 4] rfl fun w0 T0 _ => ?_
  simp only [Tryd.f91, argEnv]
  (repeat' first | with_reducible (first | refine Asm.intro fun _ => ?_ | refine Chk.g ?_ | refine AnyI.i64 fun _ _ => ?_ | refine LetW.g ?_ | refine LetW.h ?_ | refine Ite.t fun _ => ?_ | refine Ite.f fun _ => ?_ | refine Ite.decide (fun _ => ?_) fun _ => ?_ | refine Ite.bool (fun _ => ?_) fun _ => ?_ | refine And.intro ?_ ?_) | omega | simp (maxSteps := 1000000) only [go_sem, reduceCtorEq, Nat.reduceLT, Nat.reduceLeDiff, reduceIte, ↓reduceIte, Nat.reduceEqDiff, Nat.reduceAdd, Nat.reduceMul, Nat.reduceSub, Int.reduceLE, Int.reduceLT, Int.reduceNeg, Int.reduceToNat])
  refine VcCall.fr (FnFr.of_ok (k) rfl rfl) (by simp only [noIdR_ok, argOkL, argOk, allOk, argOkN, List.drop_zero, lk, reduceIte, reduceCtorEq, Nat.reduceEqDiff, Option.some.injEq, Item.row.injEq, Item.box.injEq, AV.ro.injEq, exists_eq_left, exists_and_left, exists_eq_left', exists_eq_right, and_assoc, and_true, true_and, List.cons.injEq, exists_eq', exists_eq]) 0 rfl (by simp [rowsB]) ?_
  (repeat' first | with_reducible (first | refine Asm.intro fun _ => ?_ | refine Chk.g ?_ | refine AnyI.i64 fun _ _ => ?_ | refine LetW.g ?_ | refine LetW.h ?_ | refine Ite.t fun _ => ?_ | refine Ite.f fun _ => ?_ | refine Ite.decide (fun _ => ?_) fun _ => ?_ | refine Ite.bool (fun _ => ?_) fun _ => ?_ | refine And.intro ?_ ?_) | omega | simp (maxSteps := 1000000) only [go_sem, reduceCtorEq, Nat.reduceLT, Nat.reduceLeDiff, reduceIte, ↓reduceIte, Nat.reduceEqDiff, Nat.reduceAdd, Nat.reduceMul, Nat.reduceSub, Int.reduceLE, Int.reduceLT, Int.reduceNeg, Int.reduceToNat])
  refine Ret.auto 0 ?_ rfl ?_ <;> simp only [go_sem, reduceCtorEq, reduceIte, Nat.reduceEqDiff, Nat.reduceLT, Nat.reduceLeDiff, Int.natCast_succ, Post]
end Go.Fv.P

/-! The box as small as its ink permits: the walk. -/
namespace Go.Fv.P
open Go Go.Proofs
set_option linter.unusedSimpArgs false
set_option linter.unusedVariables false
set_option linter.unnecessarySimpa false
set_option maxRecDepth 8000

section
variable (p : List Bool) (w : Nat)
theorem trimL_next {b : Nb} (h0 : 0 < b.w) : trimL p w b.w b = if colN p w b b.x = 0 then trimL p w (b.w - 1) ⟨b.x + 1, b.y, b.w - 1, b.h⟩ else b := by
  obtain ⟨x, y, W, H⟩ := b
  dsimp only at *
  obtain ⟨n, rfl⟩ : ∃ n, W = n + 1 := ⟨W - 1, by omega⟩
  rfl
theorem trimR_next {b : Nb} (h0 : 0 < b.w) : trimR p w b.w b = if colN p w b (b.x + b.w - 1) = 0 then trimR p w (b.w - 1) ⟨b.x, b.y, b.w - 1, b.h⟩ else b := by
  obtain ⟨x, y, W, H⟩ := b
  dsimp only at *
  obtain ⟨n, rfl⟩ : ∃ n, W = n + 1 := ⟨W - 1, by omega⟩
  rfl
theorem trimT_next {b : Nb} (h0 : 0 < b.h) : trimT p w b.h b = if rowN p w b b.y = 0 then trimT p w (b.h - 1) ⟨b.x, b.y + 1, b.w, b.h - 1⟩ else b := by
  obtain ⟨x, y, W, H⟩ := b
  dsimp only at *
  obtain ⟨n, rfl⟩ : ∃ n, H = n + 1 := ⟨H - 1, by omega⟩
  rfl
theorem trimB_next {b : Nb} (h0 : 0 < b.h) : trimB p w b.h b = if rowN p w b (b.y + b.h - 1) = 0 then trimB p w (b.h - 1) ⟨b.x, b.y, b.w, b.h - 1⟩ else b := by
  obtain ⟨x, y, W, H⟩ := b
  dsimp only at *
  obtain ⟨n, rfl⟩ : ∃ n, H = n + 1 := ⟨H - 1, by omega⟩
  rfl
end
set_option maxHeartbeats 4000000 in
theorem tight_ok (p : List Bool) (w h : Nat) (hw : w ≤ 4000) (hh : h ≤ 4000) (gx gy : Nat) (o : List Nb) (b : Nb) (hb : InP b w h) (hi : 0 < inkB p w b) :
    FnOk Tryd.prog 86 [.cell (ctr p w h gx gy (.ro (nbs o))), .agg b.av] (.tup [.agg (tightB p w b).av, .bool true]) [] := by
  have kI : FnOk Tryd.prog 121 [.cell (sumL p w h), .agg [.int .i64 b.x, .int .i64 b.y, .int .i64 b.w, .int .i64 b.h]] (.int .i64 (inkB p w b)) [] := sumsIn_ok p w h hw hh b.x b.y b.w b.h hb.1 hb.2
  have kc := column_ok p w h hw hh gx gy o
  have kr := row_ok p w h hw hh gx gy o
  simp only [ctr, Nb.av] at kc kr ⊢
  generalize sumL p w h = sc at *
  have ht : tightB p w b = trimB p w (trimT p w (trimR p w (trimL p w b.w b).w (trimL p w b.w b)).h (trimR p w (trimL p w b.w b).w (trimL p w b.w b))).h (trimT p w (trimR p w (trimL p w b.w b).w (trimL p w b.w b)).h (trimR p w (trimL p w b.w b).w (trimL p w b.w b))) := rfl
  refine FnOk.of_vc Tryd.func86 rfl (by decide) (by simp [Tryd.f86]) [.cell 4 26, .tmp 5] rfl fun w0 T0 _ => ?_
  simp only [Tryd.f86, argEnv]
  (repeat' first | with_reducible (first | refine Asm.intro fun _ => ?_ | refine Chk.g ?_ | refine AnyI.i64 fun _ _ => ?_ | refine LetW.g ?_ | refine LetW.h ?_ | refine Ite.t fun _ => ?_ | refine Ite.f fun _ => ?_ | refine Ite.decide (fun _ => ?_) fun _ => ?_ | refine Ite.bool (fun _ => ?_) fun _ => ?_ | refine And.intro ?_ ?_) | omega | simp (maxSteps := 1000000) only [go_sem, reduceCtorEq, Nat.reduceLT, Nat.reduceLeDiff, reduceIte, ↓reduceIte, Nat.reduceEqDiff, Nat.reduceAdd, Nat.reduceMul, Nat.reduceSub, Int.reduceLE, Int.reduceLT, Int.reduceNeg, Int.reduceToNat])
  refine VcDraw.lex [] [] (by kernel_rfl) (by kernel_rfl) ?_
  (repeat' first | with_reducible (first | refine Asm.intro fun _ => ?_ | refine Chk.g ?_ | refine AnyI.i64 fun _ _ => ?_ | refine LetW.g ?_ | refine LetW.h ?_ | refine Ite.t fun _ => ?_ | refine Ite.f fun _ => ?_ | refine Ite.decide (fun _ => ?_) fun _ => ?_ | refine Ite.bool (fun _ => ?_) fun _ => ?_ | refine And.intro ?_ ?_) | omega | simp (maxSteps := 1000000) only [go_sem, reduceCtorEq, Nat.reduceLT, Nat.reduceLeDiff, reduceIte, ↓reduceIte, Nat.reduceEqDiff, Nat.reduceAdd, Nat.reduceMul, Nat.reduceSub, Int.reduceLE, Int.reduceLT, Int.reduceNeg, Int.reduceToNat])
  refine QV.intro (.int .i64 (inkB p w b)) ?_ ?_
  · (repeat' first | with_reducible (first | refine Asm.intro fun _ => ?_ | refine Chk.g ?_ | refine AnyI.i64 fun _ _ => ?_ | refine LetW.g ?_ | refine LetW.h ?_ | refine Ite.t fun _ => ?_ | refine Ite.f fun _ => ?_ | refine Ite.decide (fun _ => ?_) fun _ => ?_ | refine Ite.bool (fun _ => ?_) fun _ => ?_ | refine And.intro ?_ ?_) | omega | simp (maxSteps := 1000000) only [go_sem, reduceCtorEq, Nat.reduceLT, Nat.reduceLeDiff, reduceIte, ↓reduceIte, Nat.reduceEqDiff, Nat.reduceAdd, Nat.reduceMul, Nat.reduceSub, Int.reduceLE, Int.reduceLT, Int.reduceNeg, Int.reduceToNat])
    refine VcCall.fr (FnFr.of_ok (kI) rfl rfl) (by simp only [noIdR_ok, argOkL, argOk, allOk, argOkN, List.drop_zero, lk, reduceIte, reduceCtorEq, Nat.reduceEqDiff, Option.some.injEq, Item.row.injEq, Item.box.injEq, AV.ro.injEq, exists_eq_left, exists_and_left, exists_eq_left', exists_eq_right, and_assoc, and_true, true_and, List.cons.injEq, exists_eq', exists_eq]) 0 rfl (by simp [rowsB]) ?_
    (repeat' first | with_reducible (first | refine Asm.intro fun _ => ?_ | refine Chk.g ?_ | refine AnyI.i64 fun _ _ => ?_ | refine LetW.g ?_ | refine LetW.h ?_ | refine Ite.t fun _ => ?_ | refine Ite.f fun _ => ?_ | refine Ite.decide (fun _ => ?_) fun _ => ?_ | refine Ite.bool (fun _ => ?_) fun _ => ?_ | refine And.intro ?_ ?_) | omega | simp (maxSteps := 1000000) only [go_sem, reduceCtorEq, Nat.reduceLT, Nat.reduceLeDiff, reduceIte, ↓reduceIte, Nat.reduceEqDiff, Nat.reduceAdd, Nat.reduceMul, Nat.reduceSub, Int.reduceLE, Int.reduceLT, Int.reduceNeg, Int.reduceToNat])
  (repeat' first | with_reducible (first | refine Asm.intro fun _ => ?_ | refine Chk.g ?_ | refine AnyI.i64 fun _ _ => ?_ | refine LetW.g ?_ | refine LetW.h ?_ | refine Ite.t fun _ => ?_ | refine Ite.f fun _ => ?_ | refine Ite.decide (fun _ => ?_) fun _ => ?_ | refine Ite.bool (fun _ => ?_) fun _ => ?_ | refine And.intro ?_ ?_) | omega | simp (maxSteps := 1000000) only [go_sem, reduceCtorEq, Nat.reduceLT, Nat.reduceLeDiff, reduceIte, ↓reduceIte, Nat.reduceEqDiff, Nat.reduceAdd, Nat.reduceMul, Nat.reduceSub, Int.reduceLE, Int.reduceLT, Int.reduceNeg, Int.reduceToNat])
  refine VcLoop.intro (fun c1 : Nb => ⟨71, [(0, .cell [.int .i64 w, .int .i64 h, .ro (.bools p), .cell sc, .int .i64 gx, .int .i64 gy, .ro (nbs o)]), (3, .ptr 0 0), (4, .ptr 1 0)], [(0, .box 26 [.int .i64 c1.x, .int .i64 c1.y, .int .i64 c1.w, .int .i64 c1.h]), (1, .box 26 [.int .i64 0, .int .i64 0, .int .i64 0, .int .i64 0])], 2⟩) (fun c1 => InP c1 w h ∧ 0 < inkB p w c1 ∧ trimL p w c1.w c1 = trimL p w b.w b) (fun c1 => c1.w) b ?_ ⟨hb, hi, rfl⟩ fun c1 hb1 => ?_
  · refine Ent.auto0 rfl ?_ ?_ <;> simp only [go_sem, reduceCtorEq, reduceIte, Nat.reduceEqDiff, Nat.reduceLT, Nat.reduceLeDiff, Int.natCast_succ]
  obtain ⟨hP1, hI1, ht1⟩ := hb1
  have hw1 := ink_w p w hI1
  have hnx := trimL_next p w hw1
  have hp2 := hP1
  unfold InP at hp2
  have kk := kc c1 (c1.x) (by omega) hP1
  have epos : ((c1.x : Nat) : Int) = c1.x := by omega
  have hst := trimL_step p w hw1
  by_cases hc : colN p w c1 c1.x = 0
  · rw [if_pos hc, ht1] at hnx
    replace hst := hst hc
    rw [hc] at kk
    rw [show decide (0 < ((0 : Nat) : Int)) = false from rfl, epos] at kk
    (repeat' first | with_reducible (first | refine Asm.intro fun _ => ?_ | refine Chk.g ?_ | refine AnyI.i64 fun _ _ => ?_ | refine LetW.g ?_ | refine LetW.h ?_ | refine Ite.t fun _ => ?_ | refine Ite.f fun _ => ?_ | refine Ite.decide (fun _ => ?_) fun _ => ?_ | refine Ite.bool (fun _ => ?_) fun _ => ?_ | refine And.intro ?_ ?_) | omega | simp (maxSteps := 1000000) only [go_sem, reduceCtorEq, Nat.reduceLT, Nat.reduceLeDiff, reduceIte, ↓reduceIte, Nat.reduceEqDiff, Nat.reduceAdd, Nat.reduceMul, Nat.reduceSub, Int.reduceLE, Int.reduceLT, Int.reduceNeg, Int.reduceToNat])
    refine VcCall.fr (FnFr.of_ok (kk) rfl rfl) (by simp only [noIdR_ok, argOkL, argOk, allOk, argOkN, List.drop_zero, lk, reduceIte, reduceCtorEq, Nat.reduceEqDiff, Option.some.injEq, Item.row.injEq, Item.box.injEq, AV.ro.injEq, exists_eq_left, exists_and_left, exists_eq_left', exists_eq_right, and_assoc, and_true, true_and, List.cons.injEq, exists_eq', exists_eq]) 0 rfl (by simp [rowsB]) ?_
    (repeat' first | with_reducible (first | refine Asm.intro fun _ => ?_ | refine Chk.g ?_ | refine AnyI.i64 fun _ _ => ?_ | refine LetW.g ?_ | refine LetW.h ?_ | refine Ite.t fun _ => ?_ | refine Ite.f fun _ => ?_ | refine Ite.decide (fun _ => ?_) fun _ => ?_ | refine Ite.bool (fun _ => ?_) fun _ => ?_ | refine And.intro ?_ ?_) | omega | simp (maxSteps := 1000000) only [go_sem, reduceCtorEq, Nat.reduceLT, Nat.reduceLeDiff, reduceIte, ↓reduceIte, Nat.reduceEqDiff, Nat.reduceAdd, Nat.reduceMul, Nat.reduceSub, Int.reduceLE, Int.reduceLT, Int.reduceNeg, Int.reduceToNat])
    refine ⟨⟨c1.x + 1, c1.y, c1.w - 1, c1.h⟩, Ent.auto0 rfl ?_ ?_, ⟨by unfold InP; dsimp only; omega, by omega, hnx.symm⟩, by dsimp only; omega⟩ <;> simp only [go_sem, reduceCtorEq, reduceIte, Nat.reduceEqDiff, Nat.reduceLT, Nat.reduceLeDiff, Int.natCast_succ]
    all_goals (try omega)
  rw [if_neg hc] at hnx
  rw [show decide (0 < ((colN p w c1 c1.x : Nat) : Int)) = true from decide_eq_true (by omega), epos] at kk
  (repeat' first | with_reducible (first | refine Asm.intro fun _ => ?_ | refine Chk.g ?_ | refine AnyI.i64 fun _ _ => ?_ | refine LetW.g ?_ | refine LetW.h ?_ | refine Ite.t fun _ => ?_ | refine Ite.f fun _ => ?_ | refine Ite.decide (fun _ => ?_) fun _ => ?_ | refine Ite.bool (fun _ => ?_) fun _ => ?_ | refine And.intro ?_ ?_) | omega | simp (maxSteps := 1000000) only [go_sem, reduceCtorEq, Nat.reduceLT, Nat.reduceLeDiff, reduceIte, ↓reduceIte, Nat.reduceEqDiff, Nat.reduceAdd, Nat.reduceMul, Nat.reduceSub, Int.reduceLE, Int.reduceLT, Int.reduceNeg, Int.reduceToNat])
  refine VcCall.fr (FnFr.of_ok (kk) rfl rfl) (by simp only [noIdR_ok, argOkL, argOk, allOk, argOkN, List.drop_zero, lk, reduceIte, reduceCtorEq, Nat.reduceEqDiff, Option.some.injEq, Item.row.injEq, Item.box.injEq, AV.ro.injEq, exists_eq_left, exists_and_left, exists_eq_left', exists_eq_right, and_assoc, and_true, true_and, List.cons.injEq, exists_eq', exists_eq]) 0 rfl (by simp [rowsB]) ?_
  (repeat' first | with_reducible (first | refine Asm.intro fun _ => ?_ | refine Chk.g ?_ | refine AnyI.i64 fun _ _ => ?_ | refine LetW.g ?_ | refine LetW.h ?_ | refine Ite.t fun _ => ?_ | refine Ite.f fun _ => ?_ | refine Ite.decide (fun _ => ?_) fun _ => ?_ | refine Ite.bool (fun _ => ?_) fun _ => ?_ | refine And.intro ?_ ?_) | omega | simp (maxSteps := 1000000) only [go_sem, reduceCtorEq, Nat.reduceLT, Nat.reduceLeDiff, reduceIte, ↓reduceIte, Nat.reduceEqDiff, Nat.reduceAdd, Nat.reduceMul, Nat.reduceSub, Int.reduceLE, Int.reduceLT, Int.reduceNeg, Int.reduceToNat])
  have hE1 : c1 = trimL p w b.w b := hnx.symm.trans ht1
  clear hnx kk epos hst hc ht1 hw1 hp2
  refine VcLoop.intro (fun c2 : Nb => ⟨71, [(0, .cell [.int .i64 w, .int .i64 h, .ro (.bools p), .cell sc, .int .i64 gx, .int .i64 gy, .ro (nbs o)]), (3, .ptr 0 0), (4, .ptr 1 0)], [(0, .box 26 [.int .i64 c2.x, .int .i64 c2.y, .int .i64 c2.w, .int .i64 c2.h]), (1, .box 26 [.int .i64 0, .int .i64 0, .int .i64 0, .int .i64 0])], 2⟩) (fun c2 => InP c2 w h ∧ 0 < inkB p w c2 ∧ trimR p w c2.w c2 = trimR p w c1.w c1) (fun c2 => c2.w) c1 ?_ ⟨hP1, hI1, rfl⟩ fun c2 hb1 => ?_
  · refine Ent.auto0 rfl ?_ ?_ <;> simp only [go_sem, reduceCtorEq, reduceIte, Nat.reduceEqDiff, Nat.reduceLT, Nat.reduceLeDiff, Int.natCast_succ]
  obtain ⟨hP2, hI2, ht1⟩ := hb1
  have hw1 := ink_w p w hI2
  have hnx := trimR_next p w hw1
  have hp2 := hP2
  unfold InP at hp2
  have kk := kc c2 (c2.x + c2.w - 1) (by omega) hP2
  have epos : ((c2.x + c2.w - 1 : Nat) : Int) = (c2.x : Int) + c2.w - 1 := by omega
  have hst := trimR_step p w hw1
  by_cases hc : colN p w c2 (c2.x + c2.w - 1) = 0
  · rw [if_pos hc, ht1] at hnx
    replace hst := hst hc
    rw [hc] at kk
    rw [show decide (0 < ((0 : Nat) : Int)) = false from rfl, epos] at kk
    (repeat' first | with_reducible (first | refine Asm.intro fun _ => ?_ | refine Chk.g ?_ | refine AnyI.i64 fun _ _ => ?_ | refine LetW.g ?_ | refine LetW.h ?_ | refine Ite.t fun _ => ?_ | refine Ite.f fun _ => ?_ | refine Ite.decide (fun _ => ?_) fun _ => ?_ | refine Ite.bool (fun _ => ?_) fun _ => ?_ | refine And.intro ?_ ?_) | omega | simp (maxSteps := 1000000) only [go_sem, reduceCtorEq, Nat.reduceLT, Nat.reduceLeDiff, reduceIte, ↓reduceIte, Nat.reduceEqDiff, Nat.reduceAdd, Nat.reduceMul, Nat.reduceSub, Int.reduceLE, Int.reduceLT, Int.reduceNeg, Int.reduceToNat])
    refine VcCall.fr (FnFr.of_ok (kk) rfl rfl) (by simp only [noIdR_ok, argOkL, argOk, allOk, argOkN, List.drop_zero, lk, reduceIte, reduceCtorEq, Nat.reduceEqDiff, Option.some.injEq, Item.row.injEq, Item.box.injEq, AV.ro.injEq, exists_eq_left, exists_and_left, exists_eq_left', exists_eq_right, and_assoc, and_true, true_and, List.cons.injEq, exists_eq', exists_eq]) 0 rfl (by simp [rowsB]) ?_
    (repeat' first | with_reducible (first | refine Asm.intro fun _ => ?_ | refine Chk.g ?_ | refine AnyI.i64 fun _ _ => ?_ | refine LetW.g ?_ | refine LetW.h ?_ | refine Ite.t fun _ => ?_ | refine Ite.f fun _ => ?_ | refine Ite.decide (fun _ => ?_) fun _ => ?_ | refine Ite.bool (fun _ => ?_) fun _ => ?_ | refine And.intro ?_ ?_) | omega | simp (maxSteps := 1000000) only [go_sem, reduceCtorEq, Nat.reduceLT, Nat.reduceLeDiff, reduceIte, ↓reduceIte, Nat.reduceEqDiff, Nat.reduceAdd, Nat.reduceMul, Nat.reduceSub, Int.reduceLE, Int.reduceLT, Int.reduceNeg, Int.reduceToNat])
    refine ⟨⟨c2.x, c2.y, c2.w - 1, c2.h⟩, Ent.auto0 rfl ?_ ?_, ⟨by unfold InP; dsimp only; omega, by omega, hnx.symm⟩, by dsimp only; omega⟩ <;> simp only [go_sem, reduceCtorEq, reduceIte, Nat.reduceEqDiff, Nat.reduceLT, Nat.reduceLeDiff, Int.natCast_succ]
    all_goals (try omega)
  rw [if_neg hc] at hnx
  rw [show decide (0 < ((colN p w c2 (c2.x + c2.w - 1) : Nat) : Int)) = true from decide_eq_true (by omega), epos] at kk
  (repeat' first | with_reducible (first | refine Asm.intro fun _ => ?_ | refine Chk.g ?_ | refine AnyI.i64 fun _ _ => ?_ | refine LetW.g ?_ | refine LetW.h ?_ | refine Ite.t fun _ => ?_ | refine Ite.f fun _ => ?_ | refine Ite.decide (fun _ => ?_) fun _ => ?_ | refine Ite.bool (fun _ => ?_) fun _ => ?_ | refine And.intro ?_ ?_) | omega | simp (maxSteps := 1000000) only [go_sem, reduceCtorEq, Nat.reduceLT, Nat.reduceLeDiff, reduceIte, ↓reduceIte, Nat.reduceEqDiff, Nat.reduceAdd, Nat.reduceMul, Nat.reduceSub, Int.reduceLE, Int.reduceLT, Int.reduceNeg, Int.reduceToNat])
  refine VcCall.fr (FnFr.of_ok (kk) rfl rfl) (by simp only [noIdR_ok, argOkL, argOk, allOk, argOkN, List.drop_zero, lk, reduceIte, reduceCtorEq, Nat.reduceEqDiff, Option.some.injEq, Item.row.injEq, Item.box.injEq, AV.ro.injEq, exists_eq_left, exists_and_left, exists_eq_left', exists_eq_right, and_assoc, and_true, true_and, List.cons.injEq, exists_eq', exists_eq]) 0 rfl (by simp [rowsB]) ?_
  (repeat' first | with_reducible (first | refine Asm.intro fun _ => ?_ | refine Chk.g ?_ | refine AnyI.i64 fun _ _ => ?_ | refine LetW.g ?_ | refine LetW.h ?_ | refine Ite.t fun _ => ?_ | refine Ite.f fun _ => ?_ | refine Ite.decide (fun _ => ?_) fun _ => ?_ | refine Ite.bool (fun _ => ?_) fun _ => ?_ | refine And.intro ?_ ?_) | omega | simp (maxSteps := 1000000) only [go_sem, reduceCtorEq, Nat.reduceLT, Nat.reduceLeDiff, reduceIte, ↓reduceIte, Nat.reduceEqDiff, Nat.reduceAdd, Nat.reduceMul, Nat.reduceSub, Int.reduceLE, Int.reduceLT, Int.reduceNeg, Int.reduceToNat])
  have hE2 : c2 = trimR p w c1.w c1 := hnx.symm.trans ht1
  clear hnx kk epos hst hc ht1 hw1 hp2
  refine VcLoop.intro (fun c3 : Nb => ⟨71, [(0, .cell [.int .i64 w, .int .i64 h, .ro (.bools p), .cell sc, .int .i64 gx, .int .i64 gy, .ro (nbs o)]), (3, .ptr 0 0), (4, .ptr 1 0)], [(0, .box 26 [.int .i64 c3.x, .int .i64 c3.y, .int .i64 c3.w, .int .i64 c3.h]), (1, .box 26 [.int .i64 0, .int .i64 0, .int .i64 0, .int .i64 0])], 2⟩) (fun c3 => InP c3 w h ∧ 0 < inkB p w c3 ∧ trimT p w c3.h c3 = trimT p w c2.h c2) (fun c3 => c3.h) c2 ?_ ⟨hP2, hI2, rfl⟩ fun c3 hb1 => ?_
  · refine Ent.auto0 rfl ?_ ?_ <;> simp only [go_sem, reduceCtorEq, reduceIte, Nat.reduceEqDiff, Nat.reduceLT, Nat.reduceLeDiff, Int.natCast_succ]
  obtain ⟨hP3, hI3, ht1⟩ := hb1
  have hw1 := ink_h p w hI3
  have hnx := trimT_next p w hw1
  have hp2 := hP3
  unfold InP at hp2
  have kk := kr c3 (c3.y) (by omega) hP3
  have epos : ((c3.y : Nat) : Int) = c3.y := by omega
  have hst := trimT_step p w hw1
  by_cases hc : rowN p w c3 c3.y = 0
  · rw [if_pos hc, ht1] at hnx
    replace hst := hst hc
    rw [hc] at kk
    rw [show decide (0 < ((0 : Nat) : Int)) = false from rfl, epos] at kk
    (repeat' first | with_reducible (first | refine Asm.intro fun _ => ?_ | refine Chk.g ?_ | refine AnyI.i64 fun _ _ => ?_ | refine LetW.g ?_ | refine LetW.h ?_ | refine Ite.t fun _ => ?_ | refine Ite.f fun _ => ?_ | refine Ite.decide (fun _ => ?_) fun _ => ?_ | refine Ite.bool (fun _ => ?_) fun _ => ?_ | refine And.intro ?_ ?_) | omega | simp (maxSteps := 1000000) only [go_sem, reduceCtorEq, Nat.reduceLT, Nat.reduceLeDiff, reduceIte, ↓reduceIte, Nat.reduceEqDiff, Nat.reduceAdd, Nat.reduceMul, Nat.reduceSub, Int.reduceLE, Int.reduceLT, Int.reduceNeg, Int.reduceToNat])
    refine VcCall.fr (FnFr.of_ok (kk) rfl rfl) (by simp only [noIdR_ok, argOkL, argOk, allOk, argOkN, List.drop_zero, lk, reduceIte, reduceCtorEq, Nat.reduceEqDiff, Option.some.injEq, Item.row.injEq, Item.box.injEq, AV.ro.injEq, exists_eq_left, exists_and_left, exists_eq_left', exists_eq_right, and_assoc, and_true, true_and, List.cons.injEq, exists_eq', exists_eq]) 0 rfl (by simp [rowsB]) ?_
    (repeat' first | with_reducible (first | refine Asm.intro fun _ => ?_ | refine Chk.g ?_ | refine AnyI.i64 fun _ _ => ?_ | refine LetW.g ?_ | refine LetW.h ?_ | refine Ite.t fun _ => ?_ | refine Ite.f fun _ => ?_ | refine Ite.decide (fun _ => ?_) fun _ => ?_ | refine Ite.bool (fun _ => ?_) fun _ => ?_ | refine And.intro ?_ ?_) | omega | simp (maxSteps := 1000000) only [go_sem, reduceCtorEq, Nat.reduceLT, Nat.reduceLeDiff, reduceIte, ↓reduceIte, Nat.reduceEqDiff, Nat.reduceAdd, Nat.reduceMul, Nat.reduceSub, Int.reduceLE, Int.reduceLT, Int.reduceNeg, Int.reduceToNat])
    refine ⟨⟨c3.x, c3.y + 1, c3.w, c3.h - 1⟩, Ent.auto0 rfl ?_ ?_, ⟨by unfold InP; dsimp only; omega, by omega, hnx.symm⟩, by dsimp only; omega⟩ <;> simp only [go_sem, reduceCtorEq, reduceIte, Nat.reduceEqDiff, Nat.reduceLT, Nat.reduceLeDiff, Int.natCast_succ]
    all_goals (try omega)
  rw [if_neg hc] at hnx
  rw [show decide (0 < ((rowN p w c3 c3.y : Nat) : Int)) = true from decide_eq_true (by omega), epos] at kk
  (repeat' first | with_reducible (first | refine Asm.intro fun _ => ?_ | refine Chk.g ?_ | refine AnyI.i64 fun _ _ => ?_ | refine LetW.g ?_ | refine LetW.h ?_ | refine Ite.t fun _ => ?_ | refine Ite.f fun _ => ?_ | refine Ite.decide (fun _ => ?_) fun _ => ?_ | refine Ite.bool (fun _ => ?_) fun _ => ?_ | refine And.intro ?_ ?_) | omega | simp (maxSteps := 1000000) only [go_sem, reduceCtorEq, Nat.reduceLT, Nat.reduceLeDiff, reduceIte, ↓reduceIte, Nat.reduceEqDiff, Nat.reduceAdd, Nat.reduceMul, Nat.reduceSub, Int.reduceLE, Int.reduceLT, Int.reduceNeg, Int.reduceToNat])
  refine VcCall.fr (FnFr.of_ok (kk) rfl rfl) (by simp only [noIdR_ok, argOkL, argOk, allOk, argOkN, List.drop_zero, lk, reduceIte, reduceCtorEq, Nat.reduceEqDiff, Option.some.injEq, Item.row.injEq, Item.box.injEq, AV.ro.injEq, exists_eq_left, exists_and_left, exists_eq_left', exists_eq_right, and_assoc, and_true, true_and, List.cons.injEq, exists_eq', exists_eq]) 0 rfl (by simp [rowsB]) ?_
  (repeat' first | with_reducible (first | refine Asm.intro fun _ => ?_ | refine Chk.g ?_ | refine AnyI.i64 fun _ _ => ?_ | refine LetW.g ?_ | refine LetW.h ?_ | refine Ite.t fun _ => ?_ | refine Ite.f fun _ => ?_ | refine Ite.decide (fun _ => ?_) fun _ => ?_ | refine Ite.bool (fun _ => ?_) fun _ => ?_ | refine And.intro ?_ ?_) | omega | simp (maxSteps := 1000000) only [go_sem, reduceCtorEq, Nat.reduceLT, Nat.reduceLeDiff, reduceIte, ↓reduceIte, Nat.reduceEqDiff, Nat.reduceAdd, Nat.reduceMul, Nat.reduceSub, Int.reduceLE, Int.reduceLT, Int.reduceNeg, Int.reduceToNat])
  have hE3 : c3 = trimT p w c2.h c2 := hnx.symm.trans ht1
  clear hnx kk epos hst hc ht1 hw1 hp2
  refine VcLoop.intro (fun c4 : Nb => ⟨71, [(0, .cell [.int .i64 w, .int .i64 h, .ro (.bools p), .cell sc, .int .i64 gx, .int .i64 gy, .ro (nbs o)]), (3, .ptr 0 0), (4, .ptr 1 0)], [(0, .box 26 [.int .i64 c4.x, .int .i64 c4.y, .int .i64 c4.w, .int .i64 c4.h]), (1, .box 26 [.int .i64 0, .int .i64 0, .int .i64 0, .int .i64 0])], 2⟩) (fun c4 => InP c4 w h ∧ 0 < inkB p w c4 ∧ trimB p w c4.h c4 = trimB p w c3.h c3) (fun c4 => c4.h) c3 ?_ ⟨hP3, hI3, rfl⟩ fun c4 hb1 => ?_
  · refine Ent.auto0 rfl ?_ ?_ <;> simp only [go_sem, reduceCtorEq, reduceIte, Nat.reduceEqDiff, Nat.reduceLT, Nat.reduceLeDiff, Int.natCast_succ]
  obtain ⟨hP4, hI4, ht1⟩ := hb1
  have hw1 := ink_h p w hI4
  have hnx := trimB_next p w hw1
  have hp2 := hP4
  unfold InP at hp2
  have kk := kr c4 (c4.y + c4.h - 1) (by omega) hP4
  have epos : ((c4.y + c4.h - 1 : Nat) : Int) = (c4.y : Int) + c4.h - 1 := by omega
  have hst := trimB_step p w hw1
  by_cases hc : rowN p w c4 (c4.y + c4.h - 1) = 0
  · rw [if_pos hc, ht1] at hnx
    replace hst := hst hc
    rw [hc] at kk
    rw [show decide (0 < ((0 : Nat) : Int)) = false from rfl, epos] at kk
    (repeat' first | with_reducible (first | refine Asm.intro fun _ => ?_ | refine Chk.g ?_ | refine AnyI.i64 fun _ _ => ?_ | refine LetW.g ?_ | refine LetW.h ?_ | refine Ite.t fun _ => ?_ | refine Ite.f fun _ => ?_ | refine Ite.decide (fun _ => ?_) fun _ => ?_ | refine Ite.bool (fun _ => ?_) fun _ => ?_ | refine And.intro ?_ ?_) | omega | simp (maxSteps := 1000000) only [go_sem, reduceCtorEq, Nat.reduceLT, Nat.reduceLeDiff, reduceIte, ↓reduceIte, Nat.reduceEqDiff, Nat.reduceAdd, Nat.reduceMul, Nat.reduceSub, Int.reduceLE, Int.reduceLT, Int.reduceNeg, Int.reduceToNat])
    refine VcCall.fr (FnFr.of_ok (kk) rfl rfl) (by simp only [noIdR_ok, argOkL, argOk, allOk, argOkN, List.drop_zero, lk, reduceIte, reduceCtorEq, Nat.reduceEqDiff, Option.some.injEq, Item.row.injEq, Item.box.injEq, AV.ro.injEq, exists_eq_left, exists_and_left, exists_eq_left', exists_eq_right, and_assoc, and_true, true_and, List.cons.injEq, exists_eq', exists_eq]) 0 rfl (by simp [rowsB]) ?_
    (repeat' first | with_reducible (first | refine Asm.intro fun _ => ?_ | refine Chk.g ?_ | refine AnyI.i64 fun _ _ => ?_ | refine LetW.g ?_ | refine LetW.h ?_ | refine Ite.t fun _ => ?_ | refine Ite.f fun _ => ?_ | refine Ite.decide (fun _ => ?_) fun _ => ?_ | refine Ite.bool (fun _ => ?_) fun _ => ?_ | refine And.intro ?_ ?_) | omega | simp (maxSteps := 1000000) only [go_sem, reduceCtorEq, Nat.reduceLT, Nat.reduceLeDiff, reduceIte, ↓reduceIte, Nat.reduceEqDiff, Nat.reduceAdd, Nat.reduceMul, Nat.reduceSub, Int.reduceLE, Int.reduceLT, Int.reduceNeg, Int.reduceToNat])
    refine ⟨⟨c4.x, c4.y, c4.w, c4.h - 1⟩, Ent.auto0 rfl ?_ ?_, ⟨by unfold InP; dsimp only; omega, by omega, hnx.symm⟩, by dsimp only; omega⟩ <;> simp only [go_sem, reduceCtorEq, reduceIte, Nat.reduceEqDiff, Nat.reduceLT, Nat.reduceLeDiff, Int.natCast_succ]
    all_goals (try omega)
  rw [if_neg hc] at hnx
  rw [show decide (0 < ((rowN p w c4 (c4.y + c4.h - 1) : Nat) : Int)) = true from decide_eq_true (by omega), epos] at kk
  (repeat' first | with_reducible (first | refine Asm.intro fun _ => ?_ | refine Chk.g ?_ | refine AnyI.i64 fun _ _ => ?_ | refine LetW.g ?_ | refine LetW.h ?_ | refine Ite.t fun _ => ?_ | refine Ite.f fun _ => ?_ | refine Ite.decide (fun _ => ?_) fun _ => ?_ | refine Ite.bool (fun _ => ?_) fun _ => ?_ | refine And.intro ?_ ?_) | omega | simp (maxSteps := 1000000) only [go_sem, reduceCtorEq, Nat.reduceLT, Nat.reduceLeDiff, reduceIte, ↓reduceIte, Nat.reduceEqDiff, Nat.reduceAdd, Nat.reduceMul, Nat.reduceSub, Int.reduceLE, Int.reduceLT, Int.reduceNeg, Int.reduceToNat])
  refine VcCall.fr (FnFr.of_ok (kk) rfl rfl) (by simp only [noIdR_ok, argOkL, argOk, allOk, argOkN, List.drop_zero, lk, reduceIte, reduceCtorEq, Nat.reduceEqDiff, Option.some.injEq, Item.row.injEq, Item.box.injEq, AV.ro.injEq, exists_eq_left, exists_and_left, exists_eq_left', exists_eq_right, and_assoc, and_true, true_and, List.cons.injEq, exists_eq', exists_eq]) 0 rfl (by simp [rowsB]) ?_
  (repeat' first | with_reducible (first | refine Asm.intro fun _ => ?_ | refine Chk.g ?_ | refine AnyI.i64 fun _ _ => ?_ | refine LetW.g ?_ | refine LetW.h ?_ | refine Ite.t fun _ => ?_ | refine Ite.f fun _ => ?_ | refine Ite.decide (fun _ => ?_) fun _ => ?_ | refine Ite.bool (fun _ => ?_) fun _ => ?_ | refine And.intro ?_ ?_) | omega | simp (maxSteps := 1000000) only [go_sem, reduceCtorEq, Nat.reduceLT, Nat.reduceLeDiff, reduceIte, ↓reduceIte, Nat.reduceEqDiff, Nat.reduceAdd, Nat.reduceMul, Nat.reduceSub, Int.reduceLE, Int.reduceLT, Int.reduceNeg, Int.reduceToNat])
  have hE4 : c4 = trimB p w c3.h c3 := hnx.symm.trans ht1
  clear hnx kk epos hst hc ht1 hw1 hp2
  rw [ht, ← hE1, ← hE2, ← hE3, ← hE4]
  refine Ret.auto 0 ?_ rfl ?_ <;> simp only [go_sem, reduceCtorEq, reduceIte, Nat.reduceEqDiff, Nat.reduceLT, Nat.reduceLeDiff, Int.natCast_succ, Post, List.drop_zero]
theorem tight_no (p : List Bool) (w h : Nat) (hw : w ≤ 4000) (hh : h ≤ 4000) (gx gy : Nat) (o : List Nb) (b : Nb) (hb : InP b w h) (hi : inkB p w b = 0) :
    FnOk Tryd.prog 86 [.cell (ctr p w h gx gy (.ro (nbs o))), .agg b.av] (.tup [.agg b.av, .bool false]) [] := by
  have kI : FnOk Tryd.prog 121 [.cell (sumL p w h), .agg [.int .i64 b.x, .int .i64 b.y, .int .i64 b.w, .int .i64 b.h]] (.int .i64 (inkB p w b)) [] := sumsIn_ok p w h hw hh b.x b.y b.w b.h hb.1 hb.2
  rw [hi] at kI
  simp only [ctr, Nb.av]
  generalize sumL p w h = sc at *
  refine FnOk.of_vc Tryd.func86 rfl (by decide) (by simp [Tryd.f86]) [.cell 4 26, .tmp 5] rfl fun w0 T0 _ => ?_
  simp only [Tryd.f86, argEnv]
  (repeat' first | with_reducible (first | refine Asm.intro fun _ => ?_ | refine Chk.g ?_ | refine AnyI.i64 fun _ _ => ?_ | refine LetW.g ?_ | refine LetW.h ?_ | refine Ite.t fun _ => ?_ | refine Ite.f fun _ => ?_ | refine Ite.decide (fun _ => ?_) fun _ => ?_ | refine Ite.bool (fun _ => ?_) fun _ => ?_ | refine And.intro ?_ ?_) | omega | simp (maxSteps := 1000000) only [go_sem, reduceCtorEq, Nat.reduceLT, Nat.reduceLeDiff, reduceIte, ↓reduceIte, Nat.reduceEqDiff, Nat.reduceAdd, Nat.reduceMul, Nat.reduceSub, Int.reduceLE, Int.reduceLT, Int.reduceNeg, Int.reduceToNat])
  refine VcDraw.lex [] [] (by kernel_rfl) (by kernel_rfl) ?_
  (repeat' first | with_reducible (first | refine Asm.intro fun _ => ?_ | refine Chk.g ?_ | refine AnyI.i64 fun _ _ => ?_ | refine LetW.g ?_ | refine LetW.h ?_ | refine Ite.t fun _ => ?_ | refine Ite.f fun _ => ?_ | refine Ite.decide (fun _ => ?_) fun _ => ?_ | refine Ite.bool (fun _ => ?_) fun _ => ?_ | refine And.intro ?_ ?_) | omega | simp (maxSteps := 1000000) only [go_sem, reduceCtorEq, Nat.reduceLT, Nat.reduceLeDiff, reduceIte, ↓reduceIte, Nat.reduceEqDiff, Nat.reduceAdd, Nat.reduceMul, Nat.reduceSub, Int.reduceLE, Int.reduceLT, Int.reduceNeg, Int.reduceToNat])
  refine QV.intro (.int .i64 ((0 : Nat) : Int)) ?_ ?_
  · (repeat' first | with_reducible (first | refine Asm.intro fun _ => ?_ | refine Chk.g ?_ | refine AnyI.i64 fun _ _ => ?_ | refine LetW.g ?_ | refine LetW.h ?_ | refine Ite.t fun _ => ?_ | refine Ite.f fun _ => ?_ | refine Ite.decide (fun _ => ?_) fun _ => ?_ | refine Ite.bool (fun _ => ?_) fun _ => ?_ | refine And.intro ?_ ?_) | omega | simp (maxSteps := 1000000) only [go_sem, reduceCtorEq, Nat.reduceLT, Nat.reduceLeDiff, reduceIte, ↓reduceIte, Nat.reduceEqDiff, Nat.reduceAdd, Nat.reduceMul, Nat.reduceSub, Int.reduceLE, Int.reduceLT, Int.reduceNeg, Int.reduceToNat])
    refine VcCall.fr (FnFr.of_ok (kI) rfl rfl) (by simp only [noIdR_ok, argOkL, argOk, allOk, argOkN, List.drop_zero, lk, reduceIte, reduceCtorEq, Nat.reduceEqDiff, Option.some.injEq, Item.row.injEq, Item.box.injEq, AV.ro.injEq, exists_eq_left, exists_and_left, exists_eq_left', exists_eq_right, and_assoc, and_true, true_and, List.cons.injEq, exists_eq', exists_eq]) 0 rfl (by simp [rowsB]) ?_
    (repeat' first | with_reducible (first | refine Asm.intro fun _ => ?_ | refine Chk.g ?_ | refine AnyI.i64 fun _ _ => ?_ | refine LetW.g ?_ | refine LetW.h ?_ | refine Ite.t fun _ => ?_ | refine Ite.f fun _ => ?_ | refine Ite.decide (fun _ => ?_) fun _ => ?_ | refine Ite.bool (fun _ => ?_) fun _ => ?_ | refine And.intro ?_ ?_) | omega | simp (maxSteps := 1000000) only [go_sem, reduceCtorEq, Nat.reduceLT, Nat.reduceLeDiff, reduceIte, ↓reduceIte, Nat.reduceEqDiff, Nat.reduceAdd, Nat.reduceMul, Nat.reduceSub, Int.reduceLE, Int.reduceLT, Int.reduceNeg, Int.reduceToNat])
  (repeat' first | with_reducible (first | refine Asm.intro fun _ => ?_ | refine Chk.g ?_ | refine AnyI.i64 fun _ _ => ?_ | refine LetW.g ?_ | refine LetW.h ?_ | refine Ite.t fun _ => ?_ | refine Ite.f fun _ => ?_ | refine Ite.decide (fun _ => ?_) fun _ => ?_ | refine Ite.bool (fun _ => ?_) fun _ => ?_ | refine And.intro ?_ ?_) | omega | simp (maxSteps := 1000000) only [go_sem, reduceCtorEq, Nat.reduceLT, Nat.reduceLeDiff, reduceIte, ↓reduceIte, Nat.reduceEqDiff, Nat.reduceAdd, Nat.reduceMul, Nat.reduceSub, Int.reduceLE, Int.reduceLT, Int.reduceNeg, Int.reduceToNat])
  refine Ret.auto 0 ?_ rfl ?_ <;> simp only [go_sem, reduceCtorEq, reduceIte, Nat.reduceEqDiff, Nat.reduceLT, Nat.reduceLeDiff, Int.natCast_succ, Post, List.drop_zero]
end Go.Fv.P
