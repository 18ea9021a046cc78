/-
  A part of the proof of the claim: walks over the program's functions and the plain laws that these need. No condition of its own.
-/
import Derived.Test.YtingcghleidhmaaGreatDoorQLayoutsMatchCardPart2
import Derived.Test.YtingcghleidhmaaGreatDoorFvPart11
/-! Stretches: the walk. -/
namespace Go.Fv.Q
open Go Go.Proofs
set_option linter.unusedSimpArgs false
set_option linter.unusedVariables false
set_option linter.unnecessarySimpa false
set_option maxRecDepth 8000

def stAv (s : Nat × Nat) : List AV := [.int .i64 s.1, .int .i64 s.2]
instance : FNoId stAv := ⟨fun _ => rfl⟩
def stR (l : List (Nat × Nat)) : RowV := .objs 2 (l.map stAv)
theorem st_elem (l : List (Nat × Nat)) {i : Nat} (h : i < l.length) : (l.map stAv).getD i [] = [.int .i64 (l.getD i (0, 0)).1, .int .i64 (l.getD i (0, 0)).2] := by
  rw [getD_lt (by simpa using h), getD_lt h, List.getElem_map]; rfl
theorem strs_len (is : Nat → Bool) : ∀ n i, (strs is n i).length ≤ n
  | 0, i => by unfold strs; simp
  | n + 1, i => by
    unfold strs
    split
    · have := strs_len is (n - (runE is (n + 1) i - i)) (runE is (n + 1) i + 1)
      simp only [List.length_cons]; omega
    · have := strs_len is n (i + 1)
      omega
termination_by n => n
decreasing_by all_goals omega
set_option maxHeartbeats 4000000 in
theorem stretches_ok (a z : Nat) (haz : a ≤ z) (hz : z ≤ 10000) (f : Nat) (caps : List AV) [CapsOk caps] (is : Nat → Bool) (hq : ∀ i : Nat, a ≤ i → i < z → FnFr Tryz.prog f ([.int .i64 i] ++ caps) (.bool (is i)) []) :
    FnOk Tryz.prog 60 [.int .i64 a, .int .i64 z, .fn f caps] (.own 0) [(0, .row 114 (stR (strs is (z - a) a)))] := by
  have hsl := strs_len is (z - a) a
  refine FnOk.of_vc Tryz.func60 rfl (by decide) (by simp [Tryz.f60]) [.tmp 6] rfl fun w0 T0 _ => ?_
  simp only [Tryz.f60, argEnv]
  (repeat' first | with_reducible (first | intro _ | refine rc ?_ | refine rl ?_ | refine rh ?_ | refine rt ?_ | refine rf ?_ | refine rs ?_ | refine And.intro ?_ ?_) | omega | simp (maxSteps := 1000000) only [go_sem, simprocAttr, ↓reduceIte])
  refine VcLoop.intro (fun x : Nat × List (Nat × Nat) => ⟨41, [(7, .own 0), (8, .int .i64 x.1), (1, .int .i64 z), (2, .fn f caps)], [(0, .row 114 (.objs 2 (x.2.map stAv)))], 1⟩) (fun x => a ≤ x.1 ∧ x.1 ≤ z + 1 ∧ x.2 ++ strs is (z - x.1) x.1 = strs is (z - a) a) (fun x => z + 1 - x.1) (a, []) ?_ ⟨Nat.le_refl _, by omega, rfl⟩ fun x hx => ?_
  · refine Ent.auto0 rfl ?_ ?_ <;> simp only [go_sem, reduceCtorEq, reduceIte, Nat.reduceEqDiff, Nat.reduceLT, Nat.reduceLeDiff, Int.natCast_succ, List.map_nil, zrow]
  obtain ⟨i, l⟩ := x
  obtain ⟨h1, h2, h3⟩ := hx
  dsimp only at h1 h2 h3 ⊢
  have hll : l.length ≤ 10000 := by
    have := congrArg List.length h3
    rw [List.length_append] at this
    omega
  by_cases hlt : i < z
  · obtain ⟨n, hn⟩ : ∃ n, z - i = n + 1 := ⟨z - i - 1, by omega⟩
    have hqi := hq i h1 hlt
    have hnx : strs is (n + 1) i = if is i = true then (i, runE is (n + 1) i - i) :: strs is (n - (runE is (n + 1) i - i)) (runE is (n + 1) i + 1) else strs is n (i + 1) := by rw [strs]
    rw [hn] at h3
    cases hi : is i with
    | false =>
      rw [hi] at hqi
      rw [if_neg (by rw [hi]; decide)] at hnx
      (repeat' first | with_reducible (first | intro _ | refine rc ?_ | refine rl ?_ | refine rh ?_ | refine rt ?_ | refine rf ?_ | refine rs ?_ | refine And.intro ?_ ?_) | omega | simp (maxSteps := 1000000) only [go_sem, simprocAttr, ↓reduceIte])
      refine VcCall.fr (args' := [.int .i64 i] ++ caps) hqi (by simp [argOkL, allOk, argOkN, allOk_caps]) 0 rfl (by simp [rowsB]) ?_
      (repeat' first | with_reducible (first | intro _ | refine rc ?_ | refine rl ?_ | refine rh ?_ | refine rt ?_ | refine rf ?_ | refine rs ?_ | refine And.intro ?_ ?_) | omega | simp (maxSteps := 1000000) only [go_sem, simprocAttr, ↓reduceIte])
      refine ⟨(i + 1, l), Ent.auto0 rfl ?_ ?_, ⟨by dsimp only; omega, by dsimp only; omega, ?_⟩, by dsimp only; omega⟩
      · simp only [go_sem, reduceCtorEq, reduceIte, Nat.reduceEqDiff, Nat.reduceLT, Nat.reduceLeDiff, Int.natCast_succ]
      · simp only [go_sem, reduceCtorEq, reduceIte, Nat.reduceEqDiff, Nat.reduceLT, Nat.reduceLeDiff, Int.natCast_succ]
      · show l ++ strs is (z - (i + 1)) (i + 1) = _
        rw [show z - (i + 1) = n by omega, ← h3, hnx]
    | true =>
      rw [hi] at hqi
      rw [if_pos hi] at hnx
      (repeat' first | with_reducible (first | intro _ | refine rc ?_ | refine rl ?_ | refine rh ?_ | refine rt ?_ | refine rf ?_ | refine rs ?_ | refine And.intro ?_ ?_) | omega | simp (maxSteps := 1000000) only [go_sem, simprocAttr, ↓reduceIte])
      refine VcCall.fr (args' := [.int .i64 i] ++ caps) hqi (by simp [argOkL, allOk, argOkN, allOk_caps]) 0 rfl (by simp [rowsB]) ?_
      (repeat' first | with_reducible (first | intro _ | refine rc ?_ | refine rl ?_ | refine rh ?_ | refine rt ?_ | refine rf ?_ | refine rs ?_ | refine And.intro ?_ ?_) | omega | simp (maxSteps := 1000000) only [go_sem, simprocAttr, ↓reduceIte])
      refine VcLoop.intro (fun k : Nat => ⟨41, [(9, .int .i64 k), (7, .own 0), (8, .int .i64 i), (1, .int .i64 z), (2, .fn f caps)], [(0, .row 114 (.objs 2 (l.map stAv)))], 1⟩) (fun k => i ≤ k ∧ k ≤ z ∧ runE is (z - k) k = runE is (n + 1) i) (fun k => z - k) i ?_ ⟨Nat.le_refl _, by omega, by rw [hn]⟩ fun k hk => ?_
      · refine Ent.auto0 rfl ?_ ?_ <;> simp only [go_sem, reduceCtorEq, reduceIte, Nat.reduceEqDiff, Nat.reduceLT, Nat.reduceLeDiff, Int.natCast_succ]
      obtain ⟨k1, k2, k3⟩ := hk
      have hcast : ((k - i : Nat) : Int) = (k : Int) - i := by omega
      by_cases hkz : k < z
      · have hqk := hq k (by omega) hkz
        have hdk : decide ((k : Int) < z) = true := by simp; exact hkz
        obtain ⟨m, hm⟩ : ∃ m, z - k = m + 1 := ⟨z - k - 1, by omega⟩
        have hrn : runE is (m + 1) k = if is k = true then runE is m (k + 1) else k := rfl
        rw [hm] at k3
        cases hik : is k with
        | true =>
          rw [hik] at hqk
          rw [if_pos hik] at hrn
          (repeat' first | with_reducible (first | intro _ | refine rc ?_ | refine rl ?_ | refine rh ?_ | refine rt ?_ | refine rf ?_ | refine rs ?_ | refine And.intro ?_ ?_) | omega | simp (maxSteps := 1000000) only [go_sem, simprocAttr, ↓reduceIte, hdk])
          refine VcCall.fr (args' := [.int .i64 k] ++ caps) hqk (by simp [argOkL, allOk, argOkN, allOk_caps]) 0 rfl (by simp [rowsB]) ?_
          (repeat' first | with_reducible (first | intro _ | refine rc ?_ | refine rl ?_ | refine rh ?_ | refine rt ?_ | refine rf ?_ | refine rs ?_ | refine And.intro ?_ ?_) | omega | simp (maxSteps := 1000000) only [go_sem, simprocAttr, ↓reduceIte, hdk])
          refine ⟨k + 1, Ent.auto0 rfl ?_ ?_, ⟨by omega, by omega, by rw [show z - (k + 1) = m by omega, ← hrn]; exact k3⟩, by omega⟩ <;> simp only [go_sem, reduceCtorEq, reduceIte, Nat.reduceEqDiff, Nat.reduceLT, Nat.reduceLeDiff, Int.natCast_succ]
        | false =>
          rw [hik] at hqk
          rw [if_neg (by rw [hik]; decide)] at hrn
          rw [hrn] at k3
          (repeat' first | with_reducible (first | intro _ | refine rc ?_ | refine rl ?_ | refine rh ?_ | refine rt ?_ | refine rf ?_ | refine rs ?_ | refine And.intro ?_ ?_) | omega | simp (maxSteps := 1000000) only [go_sem, simprocAttr, ↓reduceIte, hdk])
          refine VcCall.fr (args' := [.int .i64 k] ++ caps) hqk (by simp [argOkL, allOk, argOkN, allOk_caps]) 0 rfl (by simp [rowsB]) ?_
          (repeat' first | with_reducible (first | intro _ | refine rc ?_ | refine rl ?_ | refine rh ?_ | refine rt ?_ | refine rf ?_ | refine rs ?_ | refine And.intro ?_ ?_) | omega | simp (maxSteps := 1000000) only [go_sem, simprocAttr, ↓reduceIte, hdk, List.length_map])
          refine ⟨(k + 1, l ++ [(i, k - i)]), Ent.auto0 rfl ?_ ?_, ⟨by dsimp only; omega, by dsimp only; omega, ?_⟩, by dsimp only; omega⟩
          · simp only [go_sem, reduceCtorEq, reduceIte, Nat.reduceEqDiff, Nat.reduceLT, Nat.reduceLeDiff, Int.natCast_succ]
          · simp only [go_sem, reduceCtorEq, reduceIte, Nat.reduceEqDiff, Nat.reduceLT, Nat.reduceLeDiff, Int.natCast_succ, List.map_append, List.map_cons, List.map_nil, stAv, hcast]
          · show (l ++ [(i, k - i)]) ++ strs is (z - (k + 1)) (k + 1) = _
            rw [← h3, hnx, ← k3, List.append_assoc, show z - (k + 1) = n - (k - i) by omega]; rfl
      · have e : k = z := by omega
        subst e
        have hdk : decide ((k : Int) < k) = false := by simp
        have k3' : k = runE is (n + 1) i := by rw [← k3, Nat.sub_self]; rfl
        (repeat' first | with_reducible (first | intro _ | refine rc ?_ | refine rl ?_ | refine rh ?_ | refine rt ?_ | refine rf ?_ | refine rs ?_ | refine And.intro ?_ ?_) | omega | simp (maxSteps := 1000000) only [go_sem, simprocAttr, ↓reduceIte, hdk, List.length_map])
        refine ⟨(k + 1, l ++ [(i, k - i)]), Ent.auto0 rfl ?_ ?_, ⟨by dsimp only; omega, by dsimp only; omega, ?_⟩, by dsimp only; omega⟩
        · simp only [go_sem, reduceCtorEq, reduceIte, Nat.reduceEqDiff, Nat.reduceLT, Nat.reduceLeDiff, Int.natCast_succ]
        · simp only [go_sem, reduceCtorEq, reduceIte, Nat.reduceEqDiff, Nat.reduceLT, Nat.reduceLeDiff, Int.natCast_succ, List.map_append, List.map_cons, List.map_nil, stAv, hcast]
        · show (l ++ [(i, k - i)]) ++ strs is (k - (k + 1)) (k + 1) = _
          rw [← h3, hnx, ← k3', List.append_assoc, show k - (k + 1) = n - (k - i) by omega]; rfl
  · have e0 : strs is (z - i) i = [] := by rw [show z - i = 0 by omega]; unfold strs; rfl
    rw [e0, List.append_nil] at h3
    subst h3
    (repeat' first | with_reducible (first | intro _ | refine rc ?_ | refine rl ?_ | refine rh ?_ | refine rt ?_ | refine rf ?_ | refine rs ?_ | refine And.intro ?_ ?_) | omega | simp (maxSteps := 1000000) only [go_sem, simprocAttr, ↓reduceIte])
    refine Ret.auto 1 ?_ rfl ?_ <;> simp only [go_sem, reduceCtorEq, reduceIte, Nat.reduceEqDiff, Nat.reduceLT, Nat.reduceLeDiff, Int.natCast_succ, Post, stR]
theorem wide_bd {n least : Nat} : ∀ {l : List (Nat × Nat)} {b : Nat × Nat}, (∀ s, s ∈ l → s.1 ≤ n ∧ s.2 ≤ n) → b.1 ≤ n ∧ b.2 ≤ n → (l.foldl (wide least) b).1 ≤ n ∧ (l.foldl (wide least) b).2 ≤ n
  | [], b, _, h => h
  | s :: l, b, hs, h => by
    rw [List.foldl_cons]
    refine wide_bd (fun t ht => hs t (.tail _ ht)) ?_
    unfold wide; split
    · exact hs s (.head _)
    · exact h
set_option maxHeartbeats 2000000 in
theorem widest_ok (l : List (Nat × Nat)) (hl : l.length ≤ 10000) (least : Nat) (hle : least ≤ 4000) (hs : ∀ s, s ∈ l → s.1 ≤ 10000 ∧ s.2 ≤ 10000) :
    FnOk Tryz.prog 111 [.ro (stR l), .int .i64 least] (.agg (stAv (widest least l))) [] := by
  refine FnOk.of_vc Tryz.func111 rfl (by decide) (by simp [Tryz.f111]) [.cell 4 114] rfl fun w0 T0 _ => ?_
  simp only [Tryz.f111, argEnv]
  (repeat' first | with_reducible (first | intro _ | refine rc ?_ | refine rl ?_ | refine rh ?_ | refine rt ?_ | refine rf ?_ | refine rs ?_ | refine And.intro ?_ ?_) | omega | simp (maxSteps := 1000000) only [go_sem, simprocAttr, ↓reduceIte, stR, List.length_map])
  refine VcLoop.intro (fun i : Nat => ⟨27, [(9, .int .i64 i), (8, .int .i64 l.length), (7, .ro (stR l)), (1, .int .i64 least), (4, .ptr 0 0)], [(0, .box 114 (stAv ((l.take i).foldl (wide least) (0, 0))))], 1⟩) (fun i => i ≤ l.length) (fun i => l.length - i) 0 ?_ (Nat.zero_le _) fun i hi => ?_
  · refine Ent.auto0 rfl ?_ ?_ <;> simp only [go_sem, reduceCtorEq, reduceIte, Nat.reduceEqDiff, Nat.reduceLT, Nat.reduceLeDiff, Int.natCast_succ, List.take_zero, List.foldl_nil, stAv, stR]
  have hbd := wide_bd (least := least) (n := 10000) (l := l.take i) (b := (0, 0)) (fun s hm => hs s (List.mem_of_mem_take hm)) ⟨by decide, by decide⟩
  by_cases hlt : i < l.length
  · have he := st_elem l hlt
    have hm := hs (l.getD i (0, 0)) (by rw [getD_lt hlt]; exact List.getElem_mem hlt)
    have ht : (l.take (i + 1)).foldl (wide least) (0, 0) = wide least ((l.take i).foldl (wide least) (0, 0)) (l.getD i (0, 0)) := by
      rw [List.take_succ_eq_append_getElem hlt, List.foldl_append, getD_lt hlt]; rfl
    generalize (l.take i).foldl (wide least) (0, 0) = B at *
    generalize l.getD i (0, 0) = s at *
    obtain ⟨b1, b2⟩ := B
    obtain ⟨s1, s2⟩ := s
    dsimp only at hbd hm he
    unfold stAv
    (repeat' first | with_reducible (first | intro _ | refine rc ?_ | refine rl ?_ | refine rh ?_ | refine rt ?_ | refine rf ?_ | refine rs ?_ | refine And.intro ?_ ?_) | omega | simp (maxSteps := 1000000) only [go_sem, simprocAttr, ↓reduceIte, stR, List.length_map, elemA, he, Int.toNat_natCast])
    · have hw : wide least (b1, b2) (s1, s2) = (s1, s2) := if_pos (by dsimp only; omega)
      rw [hw] at ht
      refine ⟨i + 1, Ent.auto0 rfl ?_ ?_, by omega, by omega⟩ <;> simp only [go_sem, reduceCtorEq, reduceIte, Nat.reduceEqDiff, Nat.reduceLT, Nat.reduceLeDiff, Int.natCast_succ, ht, stR]
    · have hw : wide least (b1, b2) (s1, s2) = (b1, b2) := if_neg (by dsimp only; omega)
      rw [hw] at ht
      refine ⟨i + 1, Ent.auto0 rfl ?_ ?_, by omega, by omega⟩ <;> simp only [go_sem, reduceCtorEq, reduceIte, Nat.reduceEqDiff, Nat.reduceLT, Nat.reduceLeDiff, Int.natCast_succ, ht, stR]
  · have e : i = l.length := by omega
    subst e
    rw [List.take_length]
    have eh : l.foldl (wide least) (0, 0) = widest least l := rfl
    rw [eh]
    generalize widest least l = A at *
    unfold stAv
    (repeat' first | with_reducible (first | intro _ | refine rc ?_ | refine rl ?_ | refine rh ?_ | refine rt ?_ | refine rf ?_ | refine rs ?_ | refine And.intro ?_ ?_) | omega | simp (maxSteps := 1000000) only [go_sem, simprocAttr, ↓reduceIte, stR, List.length_map])
    refine Ret.auto 0 ?_ rfl ?_ <;> simp only [go_sem, reduceCtorEq, reduceIte, Nat.reduceEqDiff, Nat.reduceLT, Nat.reduceLeDiff, Int.natCast_succ, Post, List.drop_zero]
theorem mul_bd {a b : Nat} (ha : a ≤ 10000) (hb : b ≤ 4000) : 0 ≤ (a : Int) * b ∧ (a : Int) * b ≤ 40000000 := by
  have h : a * b ≤ 10000 * 4000 := Nat.mul_le_mul ha hb
  rw [← Int.natCast_mul]
  omega
theorem atColumns_ok (c r : Nat × Nat) (gx gy : Nat) (hc : c.1 ≤ 10000 ∧ c.2 ≤ 10000) (hr : r.1 ≤ 10000 ∧ r.2 ≤ 10000) (hx : gx ≤ 4000) (hy : gy ≤ 4000) :
    FnOk Tryz.prog 114 [.agg (stAv c), .agg (stAv r), .int .i64 gx, .int .i64 gy] (.bool (decide (0 < c.2 ∧ (r.2 = 0 ∨ r.2 * gx < c.2 * gy)))) [] := by
  obtain ⟨c1, c2⟩ := c
  obtain ⟨r1, r2⟩ := r
  dsimp only at *
  have m1 := mul_bd hr.2 hx
  have m2 := mul_bd hc.2 hy
  have m3 : (r2 * gx < c2 * gy) ↔ ((r2 : Int) * gx < (c2 : Int) * gy) := by rw [← Int.natCast_mul, ← Int.natCast_mul]; omega
  have e : decide (0 < c2 ∧ (r2 = 0 ∨ r2 * gx < c2 * gy)) = decide (0 < (c2 : Int) ∧ ((r2 : Int) = 0 ∨ (r2 : Int) * gx < (c2 : Int) * gy)) := by
    exact decide_eq_decide.2 (by rw [m3]; omega)
  rw [e]
  unfold stAv
  dsimp only
  refine FnOk.of_vc Tryz.func114 rfl (by decide) (by simp [Tryz.f114]) [.tmp 8] rfl fun w0 T0 _ => ?_
  simp only [Tryz.f114, argEnv]
  have n1 : -9223372036854775808 ≤ (c2 : Int) * gy ∧ (c2 : Int) * gy ≤ 9223372036854775807 := by omega
  have n2 : -9223372036854775808 ≤ (r2 : Int) * gx ∧ (r2 : Int) * gx ≤ 9223372036854775807 := by omega
  (repeat' first | with_reducible (first | intro _ | refine rc ?_ | refine rl ?_ | refine rh ?_ | refine rt ?_ | refine rf ?_ | refine rs ?_ | refine And.intro ?_ ?_) | omega | simp (maxSteps := 1000000) only [go_sem, simprocAttr, ↓reduceIte, eq_true n1.1, eq_true n1.2, eq_true n2.1, eq_true n2.2])
  all_goals refine Ret.auto 0 ?_ rfl ?_ <;> simp only [go_sem, reduceCtorEq, reduceIte, Nat.reduceEqDiff, Nat.reduceLT, Nat.reduceLeDiff, Int.natCast_succ, Post]
end Go.Fv.Q

/-! Stretches that are joined: the walk. -/
namespace Go.Fv.Q
open Go Go.Proofs
set_option linter.unusedSimpArgs false
set_option linter.unusedVariables false
set_option linter.unnecessarySimpa false
set_option maxRecDepth 8000

def enAv (t : Nat × Nat) : List AV := [.int .i64 t.1, .int .i64 ((t.2 : Int) - t.1)]
instance : FNoId enAv := ⟨fun _ => rfl⟩
def enR (l : List (Nat × Nat)) : RowV := .objs 2 (l.map enAv)
theorem en_elem (l : List (Nat × Nat)) {i : Nat} (h : i < l.length) : (l.map enAv).getD i [] = [.int .i64 (l.getD i (0, 0)).1, .int .i64 (((l.getD i (0, 0)).2 : Int) - (l.getD i (0, 0)).1)] := by
  rw [getD_lt (by simpa using h), getD_lt h, List.getElem_map]; rfl
def JnB (l : List (Nat × Nat)) : Prop := ∀ t, t ∈ l → t.1 ≤ 20000 ∧ t.2 ≤ 20000
theorem jnE_bd {gap : Nat} {out : List (Nat × Nat)} {s : Nat × Nat} (h : JnB out) (hs : s.1 ≤ 10000 ∧ s.2 ≤ 10000) : JnB (jnE gap out s) ∧ (jnE gap out s).length ≤ out.length + 1 := by
  rcases List.eq_nil_or_concat out with rfl | ⟨o, t, rfl⟩
  · rw [jnE_nil]
    refine ⟨fun t ht => ?_, by simp⟩
    rw [List.mem_singleton] at ht; subst ht
    unfold toE; dsimp only; omega
  · rw [List.concat_eq_append] at h ⊢
    have ht := h t (by simp)
    rw [jnE_snoc]
    split
    · refine ⟨fun u hu => ?_, by simp⟩
      rcases List.mem_append.1 hu with hu | hu
      · exact h u (by simp [hu])
      · rw [List.mem_singleton] at hu; subst hu
        dsimp only; omega
    · refine ⟨fun u hu => ?_, by simp⟩
      rcases List.mem_append.1 hu with hu | hu
      · exact h u hu
      · rw [List.mem_singleton] at hu; subst hu
        unfold toE; dsimp only; omega
set_option maxHeartbeats 4000000 in
theorem joined_ok (l : List (Nat × Nat)) (hl : l.length ≤ 10000) (hs : ∀ s, s ∈ l → s.1 ≤ 10000 ∧ s.2 ≤ 10000) (gap : Nat) (hg : gap ≤ 4000) :
    FnOk Tryz.prog 59 [.ro (stR l), .int .i64 gap] (.own 0) [(0, .row 114 (enR (l.foldl (jnE gap) [])))] := by
  refine FnOk.of_vc Tryz.func59 rfl (by decide) (by simp [Tryz.f59]) [.tmp 4] rfl fun w0 T0 _ => ?_
  simp only [Tryz.f59, argEnv]
  unfold stR enR
  (repeat' first | with_reducible (first | intro _ | refine rc ?_ | refine rl ?_ | refine rh ?_ | refine rt ?_ | refine rf ?_ | refine rs ?_ | refine And.intro ?_ ?_) | omega | simp (maxSteps := 1000000) only [go_sem, simprocAttr, ↓reduceIte, List.length_map])
  refine VcLoop.intro (fun x : Nat × List (Nat × Nat) => ⟨59, [(11, .int .i64 x.1), (10, .int .i64 l.length), (9, .ro (.objs 2 (l.map stAv))), (5, .own 0), (1, .int .i64 gap)], [(0, .row 114 (.objs 2 (x.2.map enAv)))], 1⟩) (fun x => x.1 ≤ l.length ∧ (l.drop x.1).foldl (jnE gap) x.2 = l.foldl (jnE gap) [] ∧ JnB x.2 ∧ x.2.length ≤ x.1) (fun x => l.length - x.1) (0, []) ?_ ⟨Nat.zero_le _, rfl, (fun _ ht => absurd ht List.not_mem_nil), Nat.le_refl _⟩ fun x hx => ?_
  · refine Ent.auto0 rfl ?_ ?_ <;> simp only [go_sem, reduceCtorEq, reduceIte, Nat.reduceEqDiff, Nat.reduceLT, Nat.reduceLeDiff, Int.natCast_succ, List.map_nil, zrow]
  obtain ⟨k, out⟩ := x
  obtain ⟨h1, h2, h3, h4⟩ := hx
  dsimp only at h1 h2 h3 h4 ⊢
  by_cases hlt : k < l.length
  · have he := st_elem l hlt
    have hd : l.drop k = l.getD k (0, 0) :: l.drop (k + 1) := by rw [List.drop_eq_getElem_cons hlt, getD_lt hlt]
    rw [hd, List.foldl_cons] at h2
    have hsk := hs (l.getD k (0, 0)) (by rw [getD_lt hlt]; exact List.getElem_mem hlt)
    generalize l.getD k (0, 0) = s at *
    obtain ⟨hb, hbl⟩ := jnE_bd (gap := gap) h3 hsk
    obtain ⟨s1, s2⟩ := s
    dsimp only at he hsk
    rcases List.eq_nil_or_concat out with rfl | ⟨o, t, rfl⟩
    · rw [jnE_nil] at h2 hb hbl
      have g1 : ¬ (0 : Int) ≤ (([] : List (Nat × Nat)).length : Int) - 1 := by simp
      (repeat' first | with_reducible (first | intro _ | refine rc ?_ | refine rl ?_ | refine rh ?_ | refine rt ?_ | refine rf ?_ | refine rs ?_ | refine And.intro ?_ ?_) | omega | simp (maxSteps := 1000000) only [go_sem, simprocAttr, ↓reduceIte, List.length_map, elemA, he, List.map_nil, List.length_nil])
      refine VcDraw.lex [] [] (by kernel_rfl) (by kernel_rfl) ?_
      have g2 : ∀ n, ([] : List (List AV)).getD n [] = [] := fun n => by simp
      (repeat' first | with_reducible (first | intro _ | refine rc ?_ | refine rl ?_ | refine rh ?_ | refine rt ?_ | refine rf ?_ | refine rs ?_ | refine And.intro ?_ ?_) | omega | simp (maxSteps := 1000000) only [go_sem, simprocAttr, ↓reduceIte, List.length_map, elemA, he, List.map_nil, List.length_nil, g2])
      refine QV.intro (.int .i64 0) ?_ ?_
      · (repeat' first | with_reducible (first | intro _ | refine rc ?_ | refine rl ?_ | refine rh ?_ | refine rt ?_ | refine rf ?_ | refine rs ?_ | refine And.intro ?_ ?_) | omega | simp (maxSteps := 1000000) only [go_sem, simprocAttr, ↓reduceIte, g2])
      (repeat' first | with_reducible (first | intro _ | refine rc ?_ | refine rl ?_ | refine rh ?_ | refine rt ?_ | refine rf ?_ | refine rs ?_ | refine And.intro ?_ ?_) | omega | simp (maxSteps := 1000000) only [go_sem, simprocAttr, ↓reduceIte, List.length_map, elemA, he, List.map_nil, List.length_nil, g2])
      refine QV.intro (.int .i64 0) ?_ ?_
      · (repeat' first | with_reducible (first | intro _ | refine rc ?_ | refine rl ?_ | refine rh ?_ | refine rt ?_ | refine rf ?_ | refine rs ?_ | refine And.intro ?_ ?_) | omega | simp (maxSteps := 1000000) only [go_sem, simprocAttr, ↓reduceIte, g2])
      (repeat' first | with_reducible (first | intro _ | refine rc ?_ | refine rl ?_ | refine rh ?_ | refine rt ?_ | refine rf ?_ | refine rs ?_ | refine And.intro ?_ ?_) | omega | simp (maxSteps := 1000000) only [go_sem, simprocAttr, ↓reduceIte, List.length_map, elemA, he, List.map_nil, List.length_nil, g2])
      have e1 : ((s1 : Int) + s2 - s1) = s2 := by omega
      refine ⟨(k + 1, [toE (s1, s2)]), Ent.auto0 rfl ?_ ?_, ⟨by dsimp only; omega, h2, hb, by dsimp only; simp⟩, by dsimp only; omega⟩ <;> simp only [go_sem, reduceCtorEq, reduceIte, Nat.reduceEqDiff, Nat.reduceLT, Nat.reduceLeDiff, Int.natCast_succ, toE, enAv, List.map_cons, List.map_nil, List.nil_append, Int.natCast_add, e1]
    · rw [List.concat_eq_append] at *
      have ht := h3 t (by simp)
      rw [jnE_snoc] at h2 hb hbl
      obtain ⟨t1, t2⟩ := t
      dsimp only at ht h2 hb hbl
      have hol : (o ++ [(t1, t2)]).length = o.length + 1 := by simp
      have g1 : (0 : Int) ≤ ((o.length + 1 : Nat) : Int) - 1 := by omega
      have g4 : (((o.length + 1 : Nat) : Int) - 1).toNat = o.length := by omega
      have g3 : ((o ++ [(t1, t2)]).map enAv).getD o.length [] = [.int .i64 t1, .int .i64 ((t2 : Int) - t1)] := by
        rw [List.map_append, List.getD_eq_getElem?_getD, List.getElem?_append_right (by simp)]; simp [enAv]
      have gd1 : decide ((0 : Int) ≤ ((o.length + 1 : Nat) : Int) - 1) = true := decide_eq_true g1
      (repeat' first | with_reducible (first | intro _ | refine rc ?_ | refine rl ?_ | refine rh ?_ | refine rt ?_ | refine rf ?_ | refine rs ?_ | refine And.intro ?_ ?_) | omega | simp (maxSteps := 1000000) only [go_sem, simprocAttr, ↓reduceIte, List.length_map, elemA, he, hol])
      refine VcDraw.lex [] [] (by kernel_rfl) (by kernel_rfl) ?_
      (repeat' first | with_reducible (first | intro _ | refine rc ?_ | refine rl ?_ | refine rh ?_ | refine rt ?_ | refine rf ?_ | refine rs ?_ | refine And.intro ?_ ?_) | omega | simp (maxSteps := 1000000) only [go_sem, simprocAttr, ↓reduceIte, List.length_map, elemA, he, hol, g3, g4, gd1])
      · rename_i h9
        rw [if_pos (by omega)] at h2 hb hbl
        refine VcDraw.lex [15] [] (by kernel_rfl) (by kernel_rfl) ?_
        (repeat' first | with_reducible (first | intro _ | refine rc ?_ | refine rl ?_ | refine rh ?_ | refine rt ?_ | refine rf ?_ | refine rs ?_ | refine And.intro ?_ ?_) | omega | simp (maxSteps := 1000000) only [go_sem, simprocAttr, ↓reduceIte, List.length_map, elemA, he, hol, g3, g4, gd1])
        have g5 : ((o ++ [(t1, t2)]).map enAv).set o.length [.int .i64 t1, .int .i64 ((s1 : Int) + s2 - t1)] = (o ++ [(t1, s1 + s2)]).map enAv := by
          rw [List.map_append, List.map_append, List.set_append_right _ _ (by simp)]
          simp [enAv]
        refine ⟨(k + 1, o ++ [(t1, s1 + s2)]), Ent.auto0 rfl ?_ ?_, ⟨by dsimp only; omega, h2, hb, by dsimp only; rw [List.length_append] at h4 ⊢; simp at h4 ⊢; omega⟩, by dsimp only; omega⟩ <;> simp only [go_sem, reduceCtorEq, reduceIte, Nat.reduceEqDiff, Nat.reduceLT, Nat.reduceLeDiff, Int.natCast_succ, g5, setElem, List.set_cons_zero, List.set_cons_succ]
        trace_state
      · rename_i h9
        rw [if_neg (by omega)] at h2 hb hbl
        have e1 : (((s1 + s2 : Nat) : Int) - s1) = s2 := by omega
        have g6 : (o ++ [(t1, t2)] ++ [toE (s1, s2)]).map enAv = (o ++ [(t1, t2)]).map enAv ++ [[.int .i64 s1, .int .i64 s2]] := by
          rw [List.map_append]; simp only [List.map_cons, List.map_nil, toE, enAv, e1]
        refine ⟨(k + 1, o ++ [(t1, t2)] ++ [toE (s1, s2)]), Ent.auto0 rfl ?_ ?_, ⟨by dsimp only; omega, h2, hb, by dsimp only; omega⟩, by dsimp only; omega⟩ <;> simp only [go_sem, reduceCtorEq, reduceIte, Nat.reduceEqDiff, Nat.reduceLT, Nat.reduceLeDiff, Int.natCast_succ, g6]
  · have e : k = l.length := by omega
    subst e
    rw [List.drop_length, List.foldl_nil] at h2
    subst h2
    (repeat' first | with_reducible (first | intro _ | refine rc ?_ | refine rl ?_ | refine rh ?_ | refine rt ?_ | refine rf ?_ | refine rs ?_ | refine And.intro ?_ ?_) | omega | simp (maxSteps := 1000000) only [go_sem, simprocAttr, ↓reduceIte, List.length_map])
    refine Ret.auto 1 ?_ rfl ?_ <;> simp only [go_sem, reduceCtorEq, reduceIte, Nat.reduceEqDiff, Nat.reduceLT, Nat.reduceLeDiff, Int.natCast_succ, Post]
end Go.Fv.Q

/-! The closures of cut: the walk. -/
namespace Go.Fv.Q
open Go Go.Proofs
set_option linter.unusedSimpArgs false
set_option linter.unusedVariables false
set_option linter.unnecessarySimpa false
set_option maxRecDepth 8000

set_option maxHeartbeats 1000000 in
theorem cutA_ok (p : List Bool) (w h : Nat) (hw : w ≤ 4000) (hh : h ≤ 4000) (gx gy : Nat) (o : List Nb) (b : Nb) (i : Nat) (hi : i < w) (hb : InP b w h) :
    FnOk Tryz.prog 112 [.int .i64 i, .cell [.cell (ctr p w h gx gy (.ro (nbs o)))], .cell b.av] (.bool (colE p w b i)) [] := by
  have k := column_ok p w h hw hh gx gy o b i hi hb
  have e : colE p w b i = !decide (0 < (colN p w b i : Int)) := by
    unfold colE
    by_cases h0 : colN p w b i = 0
    · rw [h0]; rfl
    · rw [decide_eq_false h0, decide_eq_true (by omega : 0 < (colN p w b i : Int))]; rfl
  rw [e]
  generalize decide (0 < (colN p w b i : Int)) = q at *
  unfold ctr Nb.av at *
  generalize sumL p w h = sc at *
  refine FnOk.of_vc Tryz.func112 rfl (by decide) (by simp [Tryz.f112]) [.tmp 4] rfl fun w0 T0 _ => ?_
  simp only [Tryz.f112, argEnv]
  (repeat' first | with_reducible (first | intro _ | refine rc ?_ | refine rl ?_ | refine rh ?_ | refine rt ?_ | refine rf ?_ | refine rs ?_ | refine And.intro ?_ ?_) | omega | simp (maxSteps := 1000000) only [go_sem, simprocAttr, ↓reduceIte])
  refine VcCall.k (k) ?_
  (repeat' first | with_reducible (first | intro _ | refine rc ?_ | refine rl ?_ | refine rh ?_ | refine rt ?_ | refine rf ?_ | refine rs ?_ | refine And.intro ?_ ?_) | omega | simp (maxSteps := 1000000) only [go_sem, simprocAttr, ↓reduceIte])
  refine Ret.auto 0 ?_ rfl ?_ <;> simp only [go_sem, reduceCtorEq, reduceIte, Nat.reduceEqDiff, Nat.reduceLT, Nat.reduceLeDiff, Int.natCast_succ, Post]
set_option maxHeartbeats 1000000 in
theorem cutB_ok (p : List Bool) (w h : Nat) (hw : w ≤ 4000) (hh : h ≤ 4000) (gx gy : Nat) (o : List Nb) (b : Nb) (i : Nat) (hi : i < h) (hb : InP b w h) :
    FnOk Tryz.prog 113 [.int .i64 i, .cell [.cell (ctr p w h gx gy (.ro (nbs o)))], .cell b.av] (.bool (rowE p w b i)) [] := by
  have k := row_ok p w h hw hh gx gy o b i hi hb
  have e : rowE p w b i = !decide (0 < (rowN p w b i : Int)) := by
    unfold rowE
    by_cases h0 : rowN p w b i = 0
    · rw [h0]; rfl
    · rw [decide_eq_false h0, decide_eq_true (by omega : 0 < (rowN p w b i : Int))]; rfl
  rw [e]
  generalize decide (0 < (rowN p w b i : Int)) = q at *
  unfold ctr Nb.av at *
  generalize sumL p w h = sc at *
  refine FnOk.of_vc Tryz.func113 rfl (by decide) (by simp [Tryz.f113]) [.tmp 4] rfl fun w0 T0 _ => ?_
  simp only [Tryz.f113, argEnv]
  (repeat' first | with_reducible (first | intro _ | refine rc ?_ | refine rl ?_ | refine rh ?_ | refine rt ?_ | refine rf ?_ | refine rs ?_ | refine And.intro ?_ ?_) | omega | simp (maxSteps := 1000000) only [go_sem, simprocAttr, ↓reduceIte])
  refine VcCall.k (k) ?_
  (repeat' first | with_reducible (first | intro _ | refine rc ?_ | refine rl ?_ | refine rh ?_ | refine rt ?_ | refine rf ?_ | refine rs ?_ | refine And.intro ?_ ?_) | omega | simp (maxSteps := 1000000) only [go_sem, simprocAttr, ↓reduceIte])
  refine Ret.auto 0 ?_ rfl ?_ <;> simp only [go_sem, reduceCtorEq, reduceIte, Nat.reduceEqDiff, Nat.reduceLT, Nat.reduceLeDiff, Int.natCast_succ, Post]
end Go.Fv.Q

/-! The box as small as its ink permits: the walk. -/
namespace Go.Fv.Q
open Go Go.Proofs
set_option linter.unusedSimpArgs false
set_option linter.unusedVariables false
set_option linter.unnecessarySimpa false
set_option maxRecDepth 8000

section
variable (p : List Bool) (w : Nat)
theorem trimL_next {b : Nb} (h0 : 0 < b.w) : trimL p w b.w b = if colN p w b b.x = 0 then trimL p w (b.w - 1) ⟨b.x + 1, b.y, b.w - 1, b.h⟩ else b := by
  obtain ⟨x, y, W, H⟩ := b
  dsimp only at *
  obtain ⟨n, rfl⟩ : ∃ n, W = n + 1 := ⟨W - 1, by omega⟩
  rfl
theorem trimR_next {b : Nb} (h0 : 0 < b.w) : trimR p w b.w b = if colN p w b (b.x + b.w - 1) = 0 then trimR p w (b.w - 1) ⟨b.x, b.y, b.w - 1, b.h⟩ else b := by
  obtain ⟨x, y, W, H⟩ := b
  dsimp only at *
  obtain ⟨n, rfl⟩ : ∃ n, W = n + 1 := ⟨W - 1, by omega⟩
  rfl
theorem trimT_next {b : Nb} (h0 : 0 < b.h) : trimT p w b.h b = if rowN p w b b.y = 0 then trimT p w (b.h - 1) ⟨b.x, b.y + 1, b.w, b.h - 1⟩ else b := by
  obtain ⟨x, y, W, H⟩ := b
  dsimp only at *
  obtain ⟨n, rfl⟩ : ∃ n, H = n + 1 := ⟨H - 1, by omega⟩
  rfl
theorem trimB_next {b : Nb} (h0 : 0 < b.h) : trimB p w b.h b = if rowN p w b (b.y + b.h - 1) = 0 then trimB p w (b.h - 1) ⟨b.x, b.y, b.w, b.h - 1⟩ else b := by
  obtain ⟨x, y, W, H⟩ := b
  dsimp only at *
  obtain ⟨n, rfl⟩ : ∃ n, H = n + 1 := ⟨H - 1, by omega⟩
  rfl
end
set_option maxHeartbeats 4000000 in
theorem tight_ok (p : List Bool) (w h : Nat) (hw : w ≤ 4000) (hh : h ≤ 4000) (gx gy : Nat) (o : List Nb) (b : Nb) (hb : InP b w h) (hi : 0 < inkB p w b) :
    FnOk Tryz.prog 63 [.cell (ctr p w h gx gy (.ro (nbs o))), .agg b.av] (.tup [.agg (tightB p w b).av, .bool true]) [] := by
  have kI : FnOk Tryz.prog 96 [.cell (sumL p w h), .agg [.int .i64 b.x, .int .i64 b.y, .int .i64 b.w, .int .i64 b.h]] (.int .i64 (inkB p w b)) [] := sumsIn_ok p w h hw hh b.x b.y b.w b.h hb.1 hb.2
  have kc := column_ok p w h hw hh gx gy o
  have kr := row_ok p w h hw hh gx gy o
  simp only [ctr, Nb.av] at kc kr ⊢
  generalize sumL p w h = sc at *
  have ht : tightB p w b = trimB p w (trimT p w (trimR p w (trimL p w b.w b).w (trimL p w b.w b)).h (trimR p w (trimL p w b.w b).w (trimL p w b.w b))).h (trimT p w (trimR p w (trimL p w b.w b).w (trimL p w b.w b)).h (trimR p w (trimL p w b.w b).w (trimL p w b.w b))) := rfl
  refine FnOk.of_vc Tryz.func63 rfl (by decide) (by simp [Tryz.f63]) [.cell 4 26, .tmp 5] rfl fun w0 T0 _ => ?_
  simp only [Tryz.f63, argEnv]
  (repeat' first | with_reducible (first | intro _ | refine rc ?_ | refine rl ?_ | refine rh ?_ | refine rt ?_ | refine rf ?_ | refine rs ?_ | refine And.intro ?_ ?_) | omega | simp (maxSteps := 1000000) only [go_sem, simprocAttr, ↓reduceIte])
  refine VcDraw.lex [] [] (by kernel_rfl) (by kernel_rfl) ?_
  (repeat' first | with_reducible (first | intro _ | refine rc ?_ | refine rl ?_ | refine rh ?_ | refine rt ?_ | refine rf ?_ | refine rs ?_ | refine And.intro ?_ ?_) | omega | simp (maxSteps := 1000000) only [go_sem, simprocAttr, ↓reduceIte])
  refine QV.intro (.int .i64 (inkB p w b)) ?_ ?_
  · (repeat' first | with_reducible (first | intro _ | refine rc ?_ | refine rl ?_ | refine rh ?_ | refine rt ?_ | refine rf ?_ | refine rs ?_ | refine And.intro ?_ ?_) | omega | simp (maxSteps := 1000000) only [go_sem, simprocAttr, ↓reduceIte])
    refine VcCall.k (kI) ?_
    (repeat' first | with_reducible (first | intro _ | refine rc ?_ | refine rl ?_ | refine rh ?_ | refine rt ?_ | refine rf ?_ | refine rs ?_ | refine And.intro ?_ ?_) | omega | simp (maxSteps := 1000000) only [go_sem, simprocAttr, ↓reduceIte])
  (repeat' first | with_reducible (first | intro _ | refine rc ?_ | refine rl ?_ | refine rh ?_ | refine rt ?_ | refine rf ?_ | refine rs ?_ | refine And.intro ?_ ?_) | omega | simp (maxSteps := 1000000) only [go_sem, simprocAttr, ↓reduceIte])
  refine VcLoop.intro (fun c1 : Nb => ⟨71, [(0, .cell [.int .i64 w, .int .i64 h, .ro (.bools p), .cell sc, .int .i64 gx, .int .i64 gy, .ro (nbs o)]), (3, .ptr 0 0), (4, .ptr 1 0)], [(0, .box 26 [.int .i64 c1.x, .int .i64 c1.y, .int .i64 c1.w, .int .i64 c1.h]), (1, .box 26 [.int .i64 0, .int .i64 0, .int .i64 0, .int .i64 0])], 2⟩) (fun c1 => InP c1 w h ∧ 0 < inkB p w c1 ∧ trimL p w c1.w c1 = trimL p w b.w b) (fun c1 => c1.w) b ?_ ⟨hb, hi, rfl⟩ fun c1 hb1 => ?_
  · refine Ent.auto0 rfl ?_ ?_ <;> simp only [go_sem, reduceCtorEq, reduceIte, Nat.reduceEqDiff, Nat.reduceLT, Nat.reduceLeDiff, Int.natCast_succ]
  obtain ⟨hP1, hI1, ht1⟩ := hb1
  have hw1 := ink_w p w hI1
  have hnx := trimL_next p w hw1
  have hp2 := hP1
  unfold InP at hp2
  have kk := kc c1 (c1.x) (by omega) hP1
  have epos : ((c1.x : Nat) : Int) = c1.x := by omega
  have hst := trimL_step p w hw1
  by_cases hc : colN p w c1 c1.x = 0
  · rw [if_pos hc, ht1] at hnx
    replace hst := hst hc
    rw [hc] at kk
    rw [show decide (0 < ((0 : Nat) : Int)) = false from rfl, epos] at kk
    (repeat' first | with_reducible (first | intro _ | refine rc ?_ | refine rl ?_ | refine rh ?_ | refine rt ?_ | refine rf ?_ | refine rs ?_ | refine And.intro ?_ ?_) | omega | simp (maxSteps := 1000000) only [go_sem, simprocAttr, ↓reduceIte])
    refine VcCall.k (kk) ?_
    (repeat' first | with_reducible (first | intro _ | refine rc ?_ | refine rl ?_ | refine rh ?_ | refine rt ?_ | refine rf ?_ | refine rs ?_ | refine And.intro ?_ ?_) | omega | simp (maxSteps := 1000000) only [go_sem, simprocAttr, ↓reduceIte])
    refine ⟨⟨c1.x + 1, c1.y, c1.w - 1, c1.h⟩, Ent.auto0 rfl ?_ ?_, ⟨by unfold InP; dsimp only; omega, by omega, hnx.symm⟩, by dsimp only; omega⟩ <;> simp only [go_sem, reduceCtorEq, reduceIte, Nat.reduceEqDiff, Nat.reduceLT, Nat.reduceLeDiff, Int.natCast_succ]
    all_goals (try omega)
  rw [if_neg hc] at hnx
  rw [show decide (0 < ((colN p w c1 c1.x : Nat) : Int)) = true from decide_eq_true (by omega), epos] at kk
  (repeat' first | with_reducible (first | intro _ | refine rc ?_ | refine rl ?_ | refine rh ?_ | refine rt ?_ | refine rf ?_ | refine rs ?_ | refine And.intro ?_ ?_) | omega | simp (maxSteps := 1000000) only [go_sem, simprocAttr, ↓reduceIte])
  refine VcCall.k (kk) ?_
  (repeat' first | with_reducible (first | intro _ | refine rc ?_ | refine rl ?_ | refine rh ?_ | refine rt ?_ | refine rf ?_ | refine rs ?_ | refine And.intro ?_ ?_) | omega | simp (maxSteps := 1000000) only [go_sem, simprocAttr, ↓reduceIte])
  have hE1 : c1 = trimL p w b.w b := hnx.symm.trans ht1
  clear hnx kk epos hst hc ht1 hw1 hp2
  refine VcLoop.intro (fun c2 : Nb => ⟨71, [(0, .cell [.int .i64 w, .int .i64 h, .ro (.bools p), .cell sc, .int .i64 gx, .int .i64 gy, .ro (nbs o)]), (3, .ptr 0 0), (4, .ptr 1 0)], [(0, .box 26 [.int .i64 c2.x, .int .i64 c2.y, .int .i64 c2.w, .int .i64 c2.h]), (1, .box 26 [.int .i64 0, .int .i64 0, .int .i64 0, .int .i64 0])], 2⟩) (fun c2 => InP c2 w h ∧ 0 < inkB p w c2 ∧ trimR p w c2.w c2 = trimR p w c1.w c1) (fun c2 => c2.w) c1 ?_ ⟨hP1, hI1, rfl⟩ fun c2 hb1 => ?_
  · refine Ent.auto0 rfl ?_ ?_ <;> simp only [go_sem, reduceCtorEq, reduceIte, Nat.reduceEqDiff, Nat.reduceLT, Nat.reduceLeDiff, Int.natCast_succ]
  obtain ⟨hP2, hI2, ht1⟩ := hb1
  have hw1 := ink_w p w hI2
  have hnx := trimR_next p w hw1
  have hp2 := hP2
  unfold InP at hp2
  have kk := kc c2 (c2.x + c2.w - 1) (by omega) hP2
  have epos : ((c2.x + c2.w - 1 : Nat) : Int) = (c2.x : Int) + c2.w - 1 := by omega
  have hst := trimR_step p w hw1
  by_cases hc : colN p w c2 (c2.x + c2.w - 1) = 0
  · rw [if_pos hc, ht1] at hnx
    replace hst := hst hc
    rw [hc] at kk
    rw [show decide (0 < ((0 : Nat) : Int)) = false from rfl, epos] at kk
    (repeat' first | with_reducible (first | intro _ | refine rc ?_ | refine rl ?_ | refine rh ?_ | refine rt ?_ | refine rf ?_ | refine rs ?_ | refine And.intro ?_ ?_) | omega | simp (maxSteps := 1000000) only [go_sem, simprocAttr, ↓reduceIte])
    refine VcCall.k (kk) ?_
    (repeat' first | with_reducible (first | intro _ | refine rc ?_ | refine rl ?_ | refine rh ?_ | refine rt ?_ | refine rf ?_ | refine rs ?_ | refine And.intro ?_ ?_) | omega | simp (maxSteps := 1000000) only [go_sem, simprocAttr, ↓reduceIte])
    refine ⟨⟨c2.x, c2.y, c2.w - 1, c2.h⟩, Ent.auto0 rfl ?_ ?_, ⟨by unfold InP; dsimp only; omega, by omega, hnx.symm⟩, by dsimp only; omega⟩ <;> simp only [go_sem, reduceCtorEq, reduceIte, Nat.reduceEqDiff, Nat.reduceLT, Nat.reduceLeDiff, Int.natCast_succ]
    all_goals (try omega)
  rw [if_neg hc] at hnx
  rw [show decide (0 < ((colN p w c2 (c2.x + c2.w - 1) : Nat) : Int)) = true from decide_eq_true (by omega), epos] at kk
  (repeat' first | with_reducible (first | intro _ | refine rc ?_ | refine rl ?_ | refine rh ?_ | refine rt ?_ | refine rf ?_ | refine rs ?_ | refine And.intro ?_ ?_) | omega | simp (maxSteps := 1000000) only [go_sem, simprocAttr, ↓reduceIte])
  refine VcCall.k (kk) ?_
  (repeat' first | with_reducible (first | intro _ | refine rc ?_ | refine rl ?_ | refine rh ?_ | refine rt ?_ | refine rf ?_ | refine rs ?_ | refine And.intro ?_ ?_) | omega | simp (maxSteps := 1000000) only [go_sem, simprocAttr, ↓reduceIte])
  have hE2 : c2 = trimR p w c1.w c1 := hnx.symm.trans ht1
  clear hnx kk epos hst hc ht1 hw1 hp2
  refine VcLoop.intro (fun c3 : Nb => ⟨71, [(0, .cell [.int .i64 w, .int .i64 h, .ro (.bools p), .cell sc, .int .i64 gx, .int .i64 gy, .ro (nbs o)]), (3, .ptr 0 0), (4, .ptr 1 0)], [(0, .box 26 [.int .i64 c3.x, .int .i64 c3.y, .int .i64 c3.w, .int .i64 c3.h]), (1, .box 26 [.int .i64 0, .int .i64 0, .int .i64 0, .int .i64 0])], 2⟩) (fun c3 => InP c3 w h ∧ 0 < inkB p w c3 ∧ trimT p w c3.h c3 = trimT p w c2.h c2) (fun c3 => c3.h) c2 ?_ ⟨hP2, hI2, rfl⟩ fun c3 hb1 => ?_
  · refine Ent.auto0 rfl ?_ ?_ <;> simp only [go_sem, reduceCtorEq, reduceIte, Nat.reduceEqDiff, Nat.reduceLT, Nat.reduceLeDiff, Int.natCast_succ]
  obtain ⟨hP3, hI3, ht1⟩ := hb1
  have hw1 := ink_h p w hI3
  have hnx := trimT_next p w hw1
  have hp2 := hP3
  unfold InP at hp2
  have kk := kr c3 (c3.y) (by omega) hP3
  have epos : ((c3.y : Nat) : Int) = c3.y := by omega
  have hst := trimT_step p w hw1
  by_cases hc : rowN p w c3 c3.y = 0
  · rw [if_pos hc, ht1] at hnx
    replace hst := hst hc
    rw [hc] at kk
    rw [show decide (0 < ((0 : Nat) : Int)) = false from rfl, epos] at kk
    (repeat' first | with_reducible (first | intro _ | refine rc ?_ | refine rl ?_ | refine rh ?_ | refine rt ?_ | refine rf ?_ | refine rs ?_ | refine And.intro ?_ ?_) | omega | simp (maxSteps := 1000000) only [go_sem, simprocAttr, ↓reduceIte])
    refine VcCall.k (kk) ?_
    (repeat' first | with_reducible (first | intro _ | refine rc ?_ | refine rl ?_ | refine rh ?_ | refine rt ?_ | refine rf ?_ | refine rs ?_ | refine And.intro ?_ ?_) | omega | simp (maxSteps := 1000000) only [go_sem, simprocAttr, ↓reduceIte])
    refine ⟨⟨c3.x, c3.y + 1, c3.w, c3.h - 1⟩, Ent.auto0 rfl ?_ ?_, ⟨by unfold InP; dsimp only; omega, by omega, hnx.symm⟩, by dsimp only; omega⟩ <;> simp only [go_sem, reduceCtorEq, reduceIte, Nat.reduceEqDiff, Nat.reduceLT, Nat.reduceLeDiff, Int.natCast_succ]
    all_goals (try omega)
  rw [if_neg hc] at hnx
  rw [show decide (0 < ((rowN p w c3 c3.y : Nat) : Int)) = true from decide_eq_true (by omega), epos] at kk
  (repeat' first | with_reducible (first | intro _ | refine rc ?_ | refine rl ?_ | refine rh ?_ | refine rt ?_ | refine rf ?_ | refine rs ?_ | refine And.intro ?_ ?_) | omega | simp (maxSteps := 1000000) only [go_sem, simprocAttr, ↓reduceIte])
  refine VcCall.k (kk) ?_
  (repeat' first | with_reducible (first | intro _ | refine rc ?_ | refine rl ?_ | refine rh ?_ | refine rt ?_ | refine rf ?_ | refine rs ?_ | refine And.intro ?_ ?_) | omega | simp (maxSteps := 1000000) only [go_sem, simprocAttr, ↓reduceIte])
  have hE3 : c3 = trimT p w c2.h c2 := hnx.symm.trans ht1
  clear hnx kk epos hst hc ht1 hw1 hp2
  refine VcLoop.intro (fun c4 : Nb => ⟨71, [(0, .cell [.int .i64 w, .int .i64 h, .ro (.bools p), .cell sc, .int .i64 gx, .int .i64 gy, .ro (nbs o)]), (3, .ptr 0 0), (4, .ptr 1 0)], [(0, .box 26 [.int .i64 c4.x, .int .i64 c4.y, .int .i64 c4.w, .int .i64 c4.h]), (1, .box 26 [.int .i64 0, .int .i64 0, .int .i64 0, .int .i64 0])], 2⟩) (fun c4 => InP c4 w h ∧ 0 < inkB p w c4 ∧ trimB p w c4.h c4 = trimB p w c3.h c3) (fun c4 => c4.h) c3 ?_ ⟨hP3, hI3, rfl⟩ fun c4 hb1 => ?_
  · refine Ent.auto0 rfl ?_ ?_ <;> simp only [go_sem, reduceCtorEq, reduceIte, Nat.reduceEqDiff, Nat.reduceLT, Nat.reduceLeDiff, Int.natCast_succ]
  obtain ⟨hP4, hI4, ht1⟩ := hb1
  have hw1 := ink_h p w hI4
  have hnx := trimB_next p w hw1
  have hp2 := hP4
  unfold InP at hp2
  have kk := kr c4 (c4.y + c4.h - 1) (by omega) hP4
  have epos : ((c4.y + c4.h - 1 : Nat) : Int) = (c4.y : Int) + c4.h - 1 := by omega
  have hst := trimB_step p w hw1
  by_cases hc : rowN p w c4 (c4.y + c4.h - 1) = 0
  · rw [if_pos hc, ht1] at hnx
    replace hst := hst hc
    rw [hc] at kk
    rw [show decide (0 < ((0 : Nat) : Int)) = false from rfl, epos] at kk
    (repeat' first | with_reducible (first | intro _ | refine rc ?_ | refine rl ?_ | refine rh ?_ | refine rt ?_ | refine rf ?_ | refine rs ?_ | refine And.intro ?_ ?_) | omega | simp (maxSteps := 1000000) only [go_sem, simprocAttr, ↓reduceIte])
    refine VcCall.k (kk) ?_
    (repeat' first | with_reducible (first | intro _ | refine rc ?_ | refine rl ?_ | refine rh ?_ | refine rt ?_ | refine rf ?_ | refine rs ?_ | refine And.intro ?_ ?_) | omega | simp (maxSteps := 1000000) only [go_sem, simprocAttr, ↓reduceIte])
    refine ⟨⟨c4.x, c4.y, c4.w, c4.h - 1⟩, Ent.auto0 rfl ?_ ?_, ⟨by unfold InP; dsimp only; omega, by omega, hnx.symm⟩, by dsimp only; omega⟩ <;> simp only [go_sem, reduceCtorEq, reduceIte, Nat.reduceEqDiff, Nat.reduceLT, Nat.reduceLeDiff, Int.natCast_succ]
    all_goals (try omega)
  rw [if_neg hc] at hnx
  rw [show decide (0 < ((rowN p w c4 (c4.y + c4.h - 1) : Nat) : Int)) = true from decide_eq_true (by omega), epos] at kk
  (repeat' first | with_reducible (first | intro _ | refine rc ?_ | refine rl ?_ | refine rh ?_ | refine rt ?_ | refine rf ?_ | refine rs ?_ | refine And.intro ?_ ?_) | omega | simp (maxSteps := 1000000) only [go_sem, simprocAttr, ↓reduceIte])
  refine VcCall.k (kk) ?_
  (repeat' first | with_reducible (first | intro _ | refine rc ?_ | refine rl ?_ | refine rh ?_ | refine rt ?_ | refine rf ?_ | refine rs ?_ | refine And.intro ?_ ?_) | omega | simp (maxSteps := 1000000) only [go_sem, simprocAttr, ↓reduceIte])
  have hE4 : c4 = trimB p w c3.h c3 := hnx.symm.trans ht1
  clear hnx kk epos hst hc ht1 hw1 hp2
  rw [ht, ← hE1, ← hE2, ← hE3, ← hE4]
  refine Ret.auto 0 ?_ rfl ?_ <;> simp only [go_sem, reduceCtorEq, reduceIte, Nat.reduceEqDiff, Nat.reduceLT, Nat.reduceLeDiff, Int.natCast_succ, Post, List.drop_zero]
theorem tight_no (p : List Bool) (w h : Nat) (hw : w ≤ 4000) (hh : h ≤ 4000) (gx gy : Nat) (o : List Nb) (b : Nb) (hb : InP b w h) (hi : inkB p w b = 0) :
    FnOk Tryz.prog 63 [.cell (ctr p w h gx gy (.ro (nbs o))), .agg b.av] (.tup [.agg b.av, .bool false]) [] := by
  have kI : FnOk Tryz.prog 96 [.cell (sumL p w h), .agg [.int .i64 b.x, .int .i64 b.y, .int .i64 b.w, .int .i64 b.h]] (.int .i64 (inkB p w b)) [] := sumsIn_ok p w h hw hh b.x b.y b.w b.h hb.1 hb.2
  rw [hi] at kI
  simp only [ctr, Nb.av]
  generalize sumL p w h = sc at *
  refine FnOk.of_vc Tryz.func63 rfl (by decide) (by simp [Tryz.f63]) [.cell 4 26, .tmp 5] rfl fun w0 T0 _ => ?_
  simp only [Tryz.f63, argEnv]
  (repeat' first | with_reducible (first | intro _ | refine rc ?_ | refine rl ?_ | refine rh ?_ | refine rt ?_ | refine rf ?_ | refine rs ?_ | refine And.intro ?_ ?_) | omega | simp (maxSteps := 1000000) only [go_sem, simprocAttr, ↓reduceIte])
  refine VcDraw.lex [] [] (by kernel_rfl) (by kernel_rfl) ?_
  (repeat' first | with_reducible (first | intro _ | refine rc ?_ | refine rl ?_ | refine rh ?_ | refine rt ?_ | refine rf ?_ | refine rs ?_ | refine And.intro ?_ ?_) | omega | simp (maxSteps := 1000000) only [go_sem, simprocAttr, ↓reduceIte])
  refine QV.intro (.int .i64 ((0 : Nat) : Int)) ?_ ?_
  · (repeat' first | with_reducible (first | intro _ | refine rc ?_ | refine rl ?_ | refine rh ?_ | refine rt ?_ | refine rf ?_ | refine rs ?_ | refine And.intro ?_ ?_) | omega | simp (maxSteps := 1000000) only [go_sem, simprocAttr, ↓reduceIte])
    refine VcCall.k (kI) ?_
    (repeat' first | with_reducible (first | intro _ | refine rc ?_ | refine rl ?_ | refine rh ?_ | refine rt ?_ | refine rf ?_ | refine rs ?_ | refine And.intro ?_ ?_) | omega | simp (maxSteps := 1000000) only [go_sem, simprocAttr, ↓reduceIte])
  (repeat' first | with_reducible (first | intro _ | refine rc ?_ | refine rl ?_ | refine rh ?_ | refine rt ?_ | refine rf ?_ | refine rs ?_ | refine And.intro ?_ ?_) | omega | simp (maxSteps := 1000000) only [go_sem, simprocAttr, ↓reduceIte])
  refine Ret.auto 0 ?_ rfl ?_ <;> simp only [go_sem, reduceCtorEq, reduceIte, Nat.reduceEqDiff, Nat.reduceLT, Nat.reduceLeDiff, Int.natCast_succ, Post, List.drop_zero]
end Go.Fv.Q

/-! Lines and words of a box: the walk. Printed by gen_lin.py. -/
namespace Go.Fv.Q
open Go Go.Proofs
set_option linter.unusedSimpArgs false
set_option linter.unusedVariables false
set_option linter.unnecessarySimpa false
set_option maxRecDepth 8000

instance (p : List Bool) (w h gx gy : Nat) (l : List Nb) (t : Nb) : CapsOk [.cell [.cell (ctr p w h gx gy (.ro (nbs l)))], .cell t.av] := ⟨by simp [ctr, sumL, Nb.av, lendB, nbs, noIdR_ok]⟩
theorem take_succG {α : Type} {z : α} {l : List α} {k : Nat} (h : k < l.length) : l.take (k + 1) = l.take k ++ [l.getD k z] := by
  rw [List.take_succ_eq_append_getElem h, getD_lt h]
/-- The rows of a box, by places in it. -/
def linesR (p : List Bool) (w : Nat) (b : Nb) (gap : Nat) : List (Nat × Nat) := rfGo (fun j => !rowE p w b (b.y + j)) gap b.h 0 []
def rowBoxT (b : Nb) (t : Nat × Nat) : Nb := ⟨b.x, b.y + t.1, b.w, t.2 - t.1⟩
def rowBox (p : List Bool) (w : Nat) (b : Nb) (t : Nat × Nat) : Nb := tightB p w (rowBoxT b t)
theorem linesR_mem {p : List Bool} {w : Nat} {b : Nb} {gap : Nat} {t : Nat × Nat} (h : t ∈ linesR p w b gap) : t.1 < t.2 ∧ t.2 ≤ b.h ∧ PartOf (rowBoxT b t) b ∧ 0 < inkB p w (rowBoxT b t) := by
  have k := rfGo_ok (fun j => !rowE p w b (b.y + j)) gap b.h 0 [] (fun t ht => absurd ht List.not_mem_nil) t h
  have h1 := k.lt
  have h2 := k.le
  have h3 := k.at1
  rw [Nat.zero_add] at h2
  refine ⟨h1, h2, by unfold PartOf rowBoxT; dsimp only; omega, ?_⟩
  have h4 : rowN p w b (b.y + t.1) ≠ 0 := by
    intro h0
    unfold rowE at h3
    rw [decide_eq_true h0] at h3
    exact absurd h3 (by decide)
  have h5 : rowN p w b (b.y + t.1) ≤ inkB p w (rowBoxT b t) := by
    unfold rowN inkB rowBoxT
    exact inkN_mono p w (Nat.le_refl _) (Nat.le_refl _) (by dsimp only; omega) (by dsimp only; omega)
  omega
theorem linesR_len (p : List Bool) (w : Nat) (b : Nb) (gap : Nat) : (linesR p w b gap).length ≤ b.h := by
  have := rfGo_len (fun j => !rowE p w b (b.y + j)) gap b.h 0 []
  simpa [linesR] using this
set_option maxHeartbeats 1000000 in
theorem rows1_ok (p : List Bool) (w h : Nat) (hw : w ≤ 4000) (hh : h ≤ 4000) (gx gy : Nat) (o : List Nb) (b : Nb) (i : Nat) (hi : i < h) (hb : InP b w h) :
    FnOk Tryz.prog 61 [.int .i64 i, .cell [.cell (ctr p w h gx gy (.ro (nbs o)))], .cell b.av] (.bool (!rowE p w b i)) [] := by
  have k := row_ok p w h hw hh gx gy o b i hi hb
  have e : (!rowE p w b i) = decide (0 < (rowN p w b i : Int)) := by
    unfold rowE
    by_cases h0 : rowN p w b i = 0
    · rw [h0]; rfl
    · rw [decide_eq_false h0, decide_eq_true (by omega : 0 < (rowN p w b i : Int))]; rfl
  rw [e]
  generalize decide (0 < (rowN p w b i : Int)) = q at *
  unfold ctr Nb.av at *
  generalize sumL p w h = sc at *
  refine FnOk.of_vc Tryz.func61 rfl (by decide) (by simp [Tryz.f61]) [.tmp 4] rfl fun w0 T0 _ => ?_
  simp only [Tryz.f61, argEnv]
  (repeat' first | with_reducible (first | intro _ | refine rc ?_ | refine rl ?_ | refine rh ?_ | refine rt ?_ | refine rf ?_ | refine rs ?_ | refine And.intro ?_ ?_) | omega | simp (maxSteps := 1000000) only [go_sem, simprocAttr, ↓reduceIte])
  refine VcCall.k (k) ?_
  (repeat' first | with_reducible (first | intro _ | refine rc ?_ | refine rl ?_ | refine rh ?_ | refine rt ?_ | refine rf ?_ | refine rs ?_ | refine And.intro ?_ ?_) | omega | simp (maxSteps := 1000000) only [go_sem, simprocAttr, ↓reduceIte])
  refine Ret.auto 0 ?_ rfl ?_ <;> simp only [go_sem, reduceCtorEq, reduceIte, Nat.reduceEqDiff, Nat.reduceLT, Nat.reduceLeDiff, Int.natCast_succ, Post]
set_option maxHeartbeats 4000000 in
theorem rows_ok (p : List Bool) (w h : Nat) (hw : w ≤ 4000) (hh : h ≤ 4000) (gx gy : Nat) (b : Nb) (hb : InP b w h) (gap : Nat) (hg1 : 1 ≤ gap) (hg : gap ≤ 4000) :
    FnOk Tryz.prog 28 [.cell (ctr p w h gx gy (.ro (nbs []))), .agg b.av, .int .i64 gap] (.own 0) [(0, .row 26 (nbs ((linesR p w b gap).map (rowBox p w b))))] := by
  have kS := stretches_ok b.y (b.y + b.h) (by omega) (by unfold InP at hb; omega) 61 [.cell [.cell (ctr p w h gx gy (.ro (nbs [])))], .cell b.av] (fun i => !rowE p w b i) fun i h1 h2 => FnFr.of_ok (rows1_ok p w h hw hh gx gy [] b i (by unfold InP at hb; omega) hb) rfl rfl
  rw [Nat.add_sub_cancel_left] at kS
  have bS : ∀ s, s ∈ strs (fun i => !rowE p w b i) b.h b.y → s.1 ≤ 10000 ∧ s.2 ≤ 10000 := fun s hs => by
    have := strs_mem _ _ _ _ hs
    unfold InP at hb; omega
  have kJ := joined_ok (strs (fun i => !rowE p w b i) b.h b.y) (by have := strs_len (fun i => !rowE p w b i) b.h b.y; unfold InP at hb; omega) bS gap hg
  rw [joined_ref (fun i => !rowE p w b i) gap b.h b.y hg1] at kJ
  have hm := fun t (ht : t ∈ linesR p w b gap) => linesR_mem ht
  have hlen := linesR_len p w b gap
  rw [show rfGo (fun j => !rowE p w b (b.y + j)) gap b.h 0 [] = linesR p w b gap from rfl] at kJ
  have kT := fun t (ht : t ∈ linesR p w b gap) => tight_ok p w h hw hh gx gy [] (rowBoxT b t) (hb.of (hm t ht).2.2.1) (hm t ht).2.2.2
  generalize strs (fun i => !rowE p w b i) b.h b.y = L at *
  generalize linesR p w b gap = R at *
  have hRb : R.length ≤ 4000 := by unfold InP at hb; omega
  obtain ⟨bx, by', bw, bh⟩ := b
  have hbb := hb
  unfold InP at hbb
  dsimp only at hbb
  simp only [ctr, Nb.av] at *
  generalize sumL p w h = sc at *
  refine FnOk.of_vc Tryz.func28 rfl (by decide) (by simp [Tryz.f28]) [.tmp 6] rfl fun w0 T0 _ => ?_
  simp only [Tryz.f28, argEnv]
  (repeat' first | with_reducible (first | intro _ | refine rc ?_ | refine rl ?_ | refine rh ?_ | refine rt ?_ | refine rf ?_ | refine rs ?_ | refine And.intro ?_ ?_) | omega | simp (maxSteps := 1000000) only [go_sem, simprocAttr, ↓reduceIte])
  refine VcCall.ro (.ro (stR L)) (FnFr.of_ok kS rfl (by simp [noRoRows, noRoItem, noRoRow, noRoL, noRo, stR, stAv])) (by simp only [noIdR_ok, argOkL, argOk, allOk, argOkN, List.drop_zero, lk, reduceIte, reduceCtorEq, Nat.reduceEqDiff, Option.some.injEq, Item.row.injEq, Item.box.injEq, AV.ro.injEq, exists_eq_left, exists_and_left, exists_eq_left', exists_eq_right, and_assoc, and_true, true_and, List.cons.injEq, exists_eq', exists_eq, nbs, noIdR_ok, Int.natCast_add]) (by simp [outOk, argOkL, allOk, argOk, argOkN, lk, noIdR_ok, stR]) rfl ?_
  (repeat' first | with_reducible (first | intro _ | refine rc ?_ | refine rl ?_ | refine rh ?_ | refine rt ?_ | refine rf ?_ | refine rs ?_ | refine And.intro ?_ ?_) | omega | simp (maxSteps := 1000000) only [go_sem, simprocAttr, ↓reduceIte])
  refine VcCall.ro (.ro (enR (R.map (shE by')))) (FnFr.of_ok kJ rfl (by simp [noRoRows, noRoItem, noRoRow, noRoL, noRo, enR, enAv])) (by simp only [noIdR_ok, argOkL, argOk, allOk, argOkN, List.drop_zero, lk, reduceIte, reduceCtorEq, Nat.reduceEqDiff, Option.some.injEq, Item.row.injEq, Item.box.injEq, AV.ro.injEq, exists_eq_left, exists_and_left, exists_eq_left', exists_eq_right, and_assoc, and_true, true_and, List.cons.injEq, exists_eq', exists_eq, stR, noIdR_ok]) (by simp [outOk, argOkL, allOk, argOk, argOkN, lk, noIdR_ok, enR, -List.map_map]) rfl ?_
  unfold enR
  (repeat' first | with_reducible (first | intro _ | refine rc ?_ | refine rl ?_ | refine rh ?_ | refine rt ?_ | refine rf ?_ | refine rs ?_ | refine And.intro ?_ ?_) | omega | simp (maxSteps := 1000000) only [go_sem, simprocAttr, ↓reduceIte, List.length_map])
  refine VcLoop.intro (fun k : Nat => ⟨48, [(24, .int .i64 k), (23, .int .i64 R.length), (22, .ro (.objs 2 ((R.map (shE by')).map enAv))), (7, .own 0), (3, .ptr 1 0), (4, .ptr 2 0)], [(0, .row 26 (nbs ((R.take k).map (rowBox p w ⟨bx, by', bw, bh⟩)))), (1, .box 60 [.cell [.int .i64 w, .int .i64 h, .ro (.bools p), .cell sc, .int .i64 gx, .int .i64 gy, .ro (nbs [])]]), (2, .box 26 [.int .i64 bx, .int .i64 by', .int .i64 bw, .int .i64 bh])], 3⟩) (fun k => k ≤ R.length) (fun k => R.length - k) 0 ?_ (Nat.zero_le _) fun k hk => ?_
  · refine Ent.auto0 rfl ?_ ?_ <;> simp only [go_sem, reduceCtorEq, reduceIte, Nat.reduceEqDiff, Nat.reduceLT, Nat.reduceLeDiff, Int.natCast_succ, List.take_zero, List.map_nil, nbs, zrow]
  by_cases hlt : k < R.length
  · have he : ((R.map (shE by')).map enAv).getD k [] = [.int .i64 (by' + (R.getD k (0, 0)).1 : Nat), .int .i64 (((by' + (R.getD k (0, 0)).2 : Nat) : Int) - (by' + (R.getD k (0, 0)).1 : Nat))] := by
      rw [en_elem _ (by simpa using hlt)]
      rw [getD_lt (by simpa using hlt), getD_lt hlt, List.getElem_map]; rfl
    have hmem : R.getD k (0, 0) ∈ R := by rw [getD_lt hlt]; exact List.getElem_mem hlt
    have hmt := hm _ hmem
    have kTk := kT _ hmem
    have hs : ((R.take (k + 1)).map (rowBox p w ⟨bx, by', bw, bh⟩)).map Nb.av = ((R.take k).map (rowBox p w ⟨bx, by', bw, bh⟩)).map Nb.av ++ [(tightB p w (rowBoxT ⟨bx, by', bw, bh⟩ (R.getD k (0, 0)))).av] := by
      rw [take_succG (z := (0, 0)) hlt, List.map_append, List.map_append]; rfl
    have hll : ((R.take k).map (rowBox p w ⟨bx, by', bw, bh⟩)).length = k := by rw [List.length_map, List.length_take]; omega
    generalize R.getD k (0, 0) = t at *
    obtain ⟨a, e⟩ := t
    unfold rowBoxT at kTk hs
    dsimp only at hmt kTk hs he
    generalize tightB p w ⟨bx, by' + a, bw, e - a⟩ = T at *
    obtain ⟨Tx, Ty, Tw, Th⟩ := T
    generalize (R.take k).map (rowBox p w ⟨bx, by', bw, bh⟩) = D at *
    unfold nbs
    dsimp only [Nb.av] at kTk hs
    have e1 : (((by' + e : Nat) : Int) - (by' + a : Nat)) = ((e - a : Nat) : Int) := by omega
    (repeat' first | with_reducible (first | intro _ | refine rc ?_ | refine rl ?_ | refine rh ?_ | refine rt ?_ | refine rf ?_ | refine rs ?_ | refine And.intro ?_ ?_) | omega | simp (maxSteps := 1000000) only [go_sem, simprocAttr, ↓reduceIte, List.length_map, elemA, he, e1])
    refine VcCall.fr (FnFr.of_ok kTk rfl rfl) (by simp only [noIdR_ok, argOkL, argOk, allOk, argOkN, List.drop_zero, lk, reduceIte, reduceCtorEq, Nat.reduceEqDiff, Option.some.injEq, Item.row.injEq, Item.box.injEq, AV.ro.injEq, exists_eq_left, exists_and_left, exists_eq_left', exists_eq_right, and_assoc, and_true, true_and, List.cons.injEq, exists_eq', exists_eq, nbs, noIdR_ok, List.map_nil]) 0 rfl (by simp [rowsB]) ?_
    (repeat' first | with_reducible (first | intro _ | refine rc ?_ | refine rl ?_ | refine rh ?_ | refine rt ?_ | refine rf ?_ | refine rs ?_ | refine And.intro ?_ ?_) | omega | simp (maxSteps := 1000000) only [go_sem, simprocAttr, ↓reduceIte, List.length_map])
    refine ⟨k + 1, Ent.auto0 rfl ?_ ?_, by omega, by omega⟩ <;> simp only [go_sem, reduceCtorEq, reduceIte, Nat.reduceEqDiff, Nat.reduceLT, Nat.reduceLeDiff, Int.natCast_succ, hs, nbs]
  · have e : k = R.length := by omega
    subst e
    rw [List.take_length]
    (repeat' first | with_reducible (first | intro _ | refine rc ?_ | refine rl ?_ | refine rh ?_ | refine rt ?_ | refine rf ?_ | refine rs ?_ | refine And.intro ?_ ?_) | omega | simp (maxSteps := 1000000) only [go_sem, simprocAttr, ↓reduceIte, List.length_map])
    refine Ret.auto 1 ?_ rfl ?_ <;> simp only [go_sem, reduceCtorEq, reduceIte, Nat.reduceEqDiff, Nat.reduceLT, Nat.reduceLeDiff, Int.natCast_succ, Post, nbs, renR_ok, belowR_ok]
/-- The words of a box, by places in it. -/
def linesC (p : List Bool) (w : Nat) (b : Nb) (gap : Nat) : List (Nat × Nat) := rfGo (fun j => !colE p w b (b.x + j)) gap b.w 0 []
def wordBoxT (b : Nb) (t : Nat × Nat) : Nb := ⟨b.x + t.1, b.y, t.2 - t.1, b.h⟩
def wordBox (p : List Bool) (w : Nat) (b : Nb) (t : Nat × Nat) : Nb := tightB p w (wordBoxT b t)
theorem linesC_mem {p : List Bool} {w : Nat} {b : Nb} {gap : Nat} {t : Nat × Nat} (h : t ∈ linesC p w b gap) : t.1 < t.2 ∧ t.2 ≤ b.w ∧ PartOf (wordBoxT b t) b ∧ 0 < inkB p w (wordBoxT b t) := by
  have k := rfGo_ok (fun j => !colE p w b (b.x + j)) gap b.w 0 [] (fun t ht => absurd ht List.not_mem_nil) t h
  have h1 := k.lt
  have h2 := k.le
  have h3 := k.at1
  rw [Nat.zero_add] at h2
  refine ⟨h1, h2, by unfold PartOf wordBoxT; dsimp only; omega, ?_⟩
  have h4 : colN p w b (b.x + t.1) ≠ 0 := by
    intro h0
    unfold colE at h3
    rw [decide_eq_true h0] at h3
    exact absurd h3 (by decide)
  have h5 : colN p w b (b.x + t.1) ≤ inkB p w (wordBoxT b t) := by
    unfold colN inkB wordBoxT
    exact inkN_mono p w (by dsimp only; omega) (by dsimp only; omega) (Nat.le_refl _) (Nat.le_refl _)
  omega
theorem linesC_len (p : List Bool) (w : Nat) (b : Nb) (gap : Nat) : (linesC p w b gap).length ≤ b.w := by
  have := rfGo_len (fun j => !colE p w b (b.x + j)) gap b.w 0 []
  simpa [linesC] using this
set_option maxHeartbeats 1000000 in
theorem words1_ok (p : List Bool) (w h : Nat) (hw : w ≤ 4000) (hh : h ≤ 4000) (gx gy : Nat) (o : List Nb) (b : Nb) (i : Nat) (hi : i < w) (hb : InP b w h) :
    FnOk Tryz.prog 64 [.int .i64 i, .cell [.cell (ctr p w h gx gy (.ro (nbs o)))], .cell b.av] (.bool (!colE p w b i)) [] := by
  have k := column_ok p w h hw hh gx gy o b i hi hb
  have e : (!colE p w b i) = decide (0 < (colN p w b i : Int)) := by
    unfold colE
    by_cases h0 : colN p w b i = 0
    · rw [h0]; rfl
    · rw [decide_eq_false h0, decide_eq_true (by omega : 0 < (colN p w b i : Int))]; rfl
  rw [e]
  generalize decide (0 < (colN p w b i : Int)) = q at *
  unfold ctr Nb.av at *
  generalize sumL p w h = sc at *
  refine FnOk.of_vc Tryz.func64 rfl (by decide) (by simp [Tryz.f64]) [.tmp 4] rfl fun w0 T0 _ => ?_
  simp only [Tryz.f64, argEnv]
  (repeat' first | with_reducible (first | intro _ | refine rc ?_ | refine rl ?_ | refine rh ?_ | refine rt ?_ | refine rf ?_ | refine rs ?_ | refine And.intro ?_ ?_) | omega | simp (maxSteps := 1000000) only [go_sem, simprocAttr, ↓reduceIte])
  refine VcCall.k (k) ?_
  (repeat' first | with_reducible (first | intro _ | refine rc ?_ | refine rl ?_ | refine rh ?_ | refine rt ?_ | refine rf ?_ | refine rs ?_ | refine And.intro ?_ ?_) | omega | simp (maxSteps := 1000000) only [go_sem, simprocAttr, ↓reduceIte])
  refine Ret.auto 0 ?_ rfl ?_ <;> simp only [go_sem, reduceCtorEq, reduceIte, Nat.reduceEqDiff, Nat.reduceLT, Nat.reduceLeDiff, Int.natCast_succ, Post]
set_option maxHeartbeats 4000000 in
theorem words_ok (p : List Bool) (w h : Nat) (hw : w ≤ 4000) (hh : h ≤ 4000) (gx gy : Nat) (b : Nb) (hb : InP b w h) (gap : Nat) (hg1 : 1 ≤ gap) (hg : gap ≤ 4000) :
    FnOk Tryz.prog 29 [.cell (ctr p w h gx gy (.ro (nbs []))), .agg b.av, .int .i64 gap] (.own 0) [(0, .row 26 (nbs ((linesC p w b gap).map (wordBox p w b))))] := by
  have kS := stretches_ok b.x (b.x + b.w) (by omega) (by unfold InP at hb; omega) 64 [.cell [.cell (ctr p w h gx gy (.ro (nbs [])))], .cell b.av] (fun i => !colE p w b i) fun i h1 h2 => FnFr.of_ok (words1_ok p w h hw hh gx gy [] b i (by unfold InP at hb; omega) hb) rfl rfl
  rw [Nat.add_sub_cancel_left] at kS
  have bS : ∀ s, s ∈ strs (fun i => !colE p w b i) b.w b.x → s.1 ≤ 10000 ∧ s.2 ≤ 10000 := fun s hs => by
    have := strs_mem _ _ _ _ hs
    unfold InP at hb; omega
  have kJ := joined_ok (strs (fun i => !colE p w b i) b.w b.x) (by have := strs_len (fun i => !colE p w b i) b.w b.x; unfold InP at hb; omega) bS gap hg
  rw [joined_ref (fun i => !colE p w b i) gap b.w b.x hg1] at kJ
  have hm := fun t (ht : t ∈ linesC p w b gap) => linesC_mem ht
  have hlen := linesC_len p w b gap
  rw [show rfGo (fun j => !colE p w b (b.x + j)) gap b.w 0 [] = linesC p w b gap from rfl] at kJ
  have kT := fun t (ht : t ∈ linesC p w b gap) => tight_ok p w h hw hh gx gy [] (wordBoxT b t) (hb.of (hm t ht).2.2.1) (hm t ht).2.2.2
  generalize strs (fun i => !colE p w b i) b.w b.x = L at *
  generalize linesC p w b gap = R at *
  have hRb : R.length ≤ 4000 := by unfold InP at hb; omega
  obtain ⟨bx, by', bw, bh⟩ := b
  have hbb := hb
  unfold InP at hbb
  dsimp only at hbb
  simp only [ctr, Nb.av] at *
  generalize sumL p w h = sc at *
  refine FnOk.of_vc Tryz.func29 rfl (by decide) (by simp [Tryz.f29]) [.tmp 6] rfl fun w0 T0 _ => ?_
  simp only [Tryz.f29, argEnv]
  (repeat' first | with_reducible (first | intro _ | refine rc ?_ | refine rl ?_ | refine rh ?_ | refine rt ?_ | refine rf ?_ | refine rs ?_ | refine And.intro ?_ ?_) | omega | simp (maxSteps := 1000000) only [go_sem, simprocAttr, ↓reduceIte])
  refine VcCall.ro (.ro (stR L)) (FnFr.of_ok kS rfl (by simp [noRoRows, noRoItem, noRoRow, noRoL, noRo, stR, stAv])) (by simp only [noIdR_ok, argOkL, argOk, allOk, argOkN, List.drop_zero, lk, reduceIte, reduceCtorEq, Nat.reduceEqDiff, Option.some.injEq, Item.row.injEq, Item.box.injEq, AV.ro.injEq, exists_eq_left, exists_and_left, exists_eq_left', exists_eq_right, and_assoc, and_true, true_and, List.cons.injEq, exists_eq', exists_eq, nbs, noIdR_ok, Int.natCast_add]) (by simp [outOk, argOkL, allOk, argOk, argOkN, lk, noIdR_ok, stR]) rfl ?_
  (repeat' first | with_reducible (first | intro _ | refine rc ?_ | refine rl ?_ | refine rh ?_ | refine rt ?_ | refine rf ?_ | refine rs ?_ | refine And.intro ?_ ?_) | omega | simp (maxSteps := 1000000) only [go_sem, simprocAttr, ↓reduceIte])
  refine VcCall.ro (.ro (enR (R.map (shE bx)))) (FnFr.of_ok kJ rfl (by simp [noRoRows, noRoItem, noRoRow, noRoL, noRo, enR, enAv])) (by simp only [noIdR_ok, argOkL, argOk, allOk, argOkN, List.drop_zero, lk, reduceIte, reduceCtorEq, Nat.reduceEqDiff, Option.some.injEq, Item.row.injEq, Item.box.injEq, AV.ro.injEq, exists_eq_left, exists_and_left, exists_eq_left', exists_eq_right, and_assoc, and_true, true_and, List.cons.injEq, exists_eq', exists_eq, stR, noIdR_ok]) (by simp [outOk, argOkL, allOk, argOk, argOkN, lk, noIdR_ok, enR, -List.map_map]) rfl ?_
  unfold enR
  (repeat' first | with_reducible (first | intro _ | refine rc ?_ | refine rl ?_ | refine rh ?_ | refine rt ?_ | refine rf ?_ | refine rs ?_ | refine And.intro ?_ ?_) | omega | simp (maxSteps := 1000000) only [go_sem, simprocAttr, ↓reduceIte, List.length_map])
  refine VcLoop.intro (fun k : Nat => ⟨48, [(24, .int .i64 k), (23, .int .i64 R.length), (22, .ro (.objs 2 ((R.map (shE bx)).map enAv))), (7, .own 0), (3, .ptr 1 0), (4, .ptr 2 0)], [(0, .row 26 (nbs ((R.take k).map (wordBox p w ⟨bx, by', bw, bh⟩)))), (1, .box 60 [.cell [.int .i64 w, .int .i64 h, .ro (.bools p), .cell sc, .int .i64 gx, .int .i64 gy, .ro (nbs [])]]), (2, .box 26 [.int .i64 bx, .int .i64 by', .int .i64 bw, .int .i64 bh])], 3⟩) (fun k => k ≤ R.length) (fun k => R.length - k) 0 ?_ (Nat.zero_le _) fun k hk => ?_
  · refine Ent.auto0 rfl ?_ ?_ <;> simp only [go_sem, reduceCtorEq, reduceIte, Nat.reduceEqDiff, Nat.reduceLT, Nat.reduceLeDiff, Int.natCast_succ, List.take_zero, List.map_nil, nbs, zrow]
  by_cases hlt : k < R.length
  · have he : ((R.map (shE bx)).map enAv).getD k [] = [.int .i64 (bx + (R.getD k (0, 0)).1 : Nat), .int .i64 (((bx + (R.getD k (0, 0)).2 : Nat) : Int) - (bx + (R.getD k (0, 0)).1 : Nat))] := by
      rw [en_elem _ (by simpa using hlt)]
      rw [getD_lt (by simpa using hlt), getD_lt hlt, List.getElem_map]; rfl
    have hmem : R.getD k (0, 0) ∈ R := by rw [getD_lt hlt]; exact List.getElem_mem hlt
    have hmt := hm _ hmem
    have kTk := kT _ hmem
    have hs : ((R.take (k + 1)).map (wordBox p w ⟨bx, by', bw, bh⟩)).map Nb.av = ((R.take k).map (wordBox p w ⟨bx, by', bw, bh⟩)).map Nb.av ++ [(tightB p w (wordBoxT ⟨bx, by', bw, bh⟩ (R.getD k (0, 0)))).av] := by
      rw [take_succG (z := (0, 0)) hlt, List.map_append, List.map_append]; rfl
    have hll : ((R.take k).map (wordBox p w ⟨bx, by', bw, bh⟩)).length = k := by rw [List.length_map, List.length_take]; omega
    generalize R.getD k (0, 0) = t at *
    obtain ⟨a, e⟩ := t
    unfold wordBoxT at kTk hs
    dsimp only at hmt kTk hs he
    generalize tightB p w ⟨bx + a, by', e - a, bh⟩ = T at *
    obtain ⟨Tx, Ty, Tw, Th⟩ := T
    generalize (R.take k).map (wordBox p w ⟨bx, by', bw, bh⟩) = D at *
    unfold nbs
    dsimp only [Nb.av] at kTk hs
    have e1 : (((bx + e : Nat) : Int) - (bx + a : Nat)) = ((e - a : Nat) : Int) := by omega
    (repeat' first | with_reducible (first | intro _ | refine rc ?_ | refine rl ?_ | refine rh ?_ | refine rt ?_ | refine rf ?_ | refine rs ?_ | refine And.intro ?_ ?_) | omega | simp (maxSteps := 1000000) only [go_sem, simprocAttr, ↓reduceIte, List.length_map, elemA, he, e1])
    refine VcCall.fr (FnFr.of_ok kTk rfl rfl) (by simp only [noIdR_ok, argOkL, argOk, allOk, argOkN, List.drop_zero, lk, reduceIte, reduceCtorEq, Nat.reduceEqDiff, Option.some.injEq, Item.row.injEq, Item.box.injEq, AV.ro.injEq, exists_eq_left, exists_and_left, exists_eq_left', exists_eq_right, and_assoc, and_true, true_and, List.cons.injEq, exists_eq', exists_eq, nbs, noIdR_ok, List.map_nil]) 0 rfl (by simp [rowsB]) ?_
    (repeat' first | with_reducible (first | intro _ | refine rc ?_ | refine rl ?_ | refine rh ?_ | refine rt ?_ | refine rf ?_ | refine rs ?_ | refine And.intro ?_ ?_) | omega | simp (maxSteps := 1000000) only [go_sem, simprocAttr, ↓reduceIte, List.length_map])
    refine ⟨k + 1, Ent.auto0 rfl ?_ ?_, by omega, by omega⟩ <;> simp only [go_sem, reduceCtorEq, reduceIte, Nat.reduceEqDiff, Nat.reduceLT, Nat.reduceLeDiff, Int.natCast_succ, hs, nbs]
  · have e : k = R.length := by omega
    subst e
    rw [List.take_length]
    (repeat' first | with_reducible (first | intro _ | refine rc ?_ | refine rl ?_ | refine rh ?_ | refine rt ?_ | refine rf ?_ | refine rs ?_ | refine And.intro ?_ ?_) | omega | simp (maxSteps := 1000000) only [go_sem, simprocAttr, ↓reduceIte, List.length_map])
    refine Ret.auto 1 ?_ rfl ?_ <;> simp only [go_sem, reduceCtorEq, reduceIte, Nat.reduceEqDiff, Nat.reduceLT, Nat.reduceLeDiff, Int.natCast_succ, Post, nbs, renR_ok, belowR_ok]
end Go.Fv.Q

/-! The gap between words: plain law. -/
namespace Go.Fv.Q
open Go
set_option linter.unusedSimpArgs false
set_option linter.unusedVariables false

def gpf (S : List (Nat × Nat)) (i : Nat) : Int := ((S.getD (i + 1) (0, 0)).1 : Int) - (S.getD i (0, 0)).1 - (S.getD i (0, 0)).2
def gpl (S : List (Nat × Nat)) (n : Nat) : List Int := (List.range n).map (gpf S)
theorem gpl_len (S : List (Nat × Nat)) (n : Nat) : (gpl S n).length = n := by simp [gpl]
theorem gpl_succ (S : List (Nat × Nat)) (n : Nat) : gpl S (n + 1) = gpl S n ++ [gpf S n] := by
  unfold gpl; rw [List.range_succ, List.map_append]; rfl
def WB (W : List Int) : Prop := ∀ x, x ∈ W → -50000 ≤ x ∧ x ≤ 50000
theorem gpl_bd {S : List (Nat × Nat)} (h : ∀ s, s ∈ S → s.1 ≤ 10000 ∧ s.2 ≤ 10000) (n : Nat) : WB (gpl S n) := by
  intro x hx
  unfold gpl at hx
  obtain ⟨i, _, rfl⟩ := List.mem_map.1 hx
  have bd : ∀ j, (S.getD j (0, 0)).1 ≤ 10000 ∧ (S.getD j (0, 0)).2 ≤ 10000 := fun j => by
    by_cases hj : j < S.length
    · rw [getD_lt hj]; exact h _ (List.getElem_mem hj)
    · rw [List.getD_eq_getElem?_getD, List.getElem?_eq_none (by omega)]; exact ⟨by decide, by decide⟩
  have h1 := bd (i + 1)
  have h2 := bd i
  unfold gpf
  omega
theorem sortI_bd {W : List Int} (h : WB W) : WB (sortI W) := fun x hx => h x ((List.mergeSort_perm W _).mem_iff.1 hx)
theorem sortI_lenG (W : List Int) : (sortI W).length = W.length := List.length_mergeSort _
def gS (W : List Int) : Nat → Int × Int
  | 0 => (W.getD (W.length - 1) 0 + 1, 2)
  | j + 1 => if (gS W j).2 ≤ W.getD (j + 1) 0 - W.getD j 0 then (W.getD (j + 1) 0, W.getD (j + 1) 0 - W.getD j 0) else gS W j
def gapR (W : List Int) : Int := (gS W (W.length - 1)).1
def gapV (S : List (Nat × Nat)) : Int := if S.length ≤ 1 then 1 else gapR (sortI (gpl S (S.length - 1)))
theorem wb_get {W : List Int} (h : WB W) (j : Nat) : -50000 ≤ W.getD j 0 ∧ W.getD j 0 ≤ 50000 := by
  by_cases hj : j < W.length
  · rw [getD_lt hj]; exact h _ (List.getElem_mem hj)
  · rw [List.getD_eq_getElem?_getD, List.getElem?_eq_none (by omega)]; exact ⟨by decide, by decide⟩
theorem gS_bd {W : List Int} (h : WB W) : ∀ j, (-60000 ≤ (gS W j).1 ∧ (gS W j).1 ≤ 60000) ∧ (-200000 ≤ (gS W j).2 ∧ (gS W j).2 ≤ 200000)
  | 0 => by
    have := wb_get h (W.length - 1)
    unfold gS; dsimp only; omega
  | j + 1 => by
    have h1 := wb_get h (j + 1)
    have h2 := wb_get h j
    unfold gS
    split
    · dsimp only; omega
    · exact gS_bd h j
end Go.Fv.Q
