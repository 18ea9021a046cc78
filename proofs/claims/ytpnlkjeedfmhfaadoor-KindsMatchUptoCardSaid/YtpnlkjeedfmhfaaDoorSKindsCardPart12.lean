/-
  A part of the proof of the claim: walks over the program's functions and the plain laws that these need. No condition of its own.
-/
import Derived.Test.YtpnlkjeedfmhfaaDoorSKindsCardPart5
import Derived.Test.YtpnlkjeedfmhfaaDoorSKindsCardPart3
import Derived.Test.YtpnlkjeedfmhfaaDoorSKindsCardPart10
import Derived.Test.YtpnlkjeedfmhfaaDoorSKindsCardPart11
/- The right ones of the first sheets. -/

namespace Go.Fv.S
open Go Go.Proofs
set_option linter.unusedSimpArgs false
set_option linter.unusedVariables false
set_option maxRecDepth 8000

theorem firstErr_zero : ∀ {l : List Int}, firstErr l = 0 → ∀ x, x ∈ l → x = 0
  | y :: l, h, x, hx => by
    simp only [firstErr] at h
    split at h
    · rename_i h1
      cases List.mem_cons.1 hx with
      | inl e => subst e; exact h1
      | inr e => exact firstErr_zero h x e
    · rename_i h1; exact absurd h h1
theorem keep_len (l : List Sh) : (keep l).length ≤ 20 := by
  unfold keep
  refine Nat.le_trans (List.length_filter_le _ _) ?_
  simp; omega
/-- The right ones among the first i. -/
def keepN (l : List Sh) (i : Nat) : List Sh := ((l.take i).map fitSh).filter fun s => decide (shErr s = 0)
theorem keepN_succ (l : List Sh) {i : Nat} (h : i < l.length) : keepN l (i + 1) = if shErr (fitSh (l.getD i Sh.zero)) = 0 then keepN l i ++ [fitSh (l.getD i Sh.zero)] else keepN l i := by
  unfold keepN
  rw [List.take_succ_eq_append_getElem h, List.map_append, List.filter_append, getD_lt h]
  split
  · rename_i h1; simp [h1]
  · rename_i h1; simp [h1]

set_option maxHeartbeats 4000000 in
theorem sheets_ok (l : List Sh) : FnOk Tryd.prog 12 [.ro (shs l)] (.own 0) [(0, .row 30 (shs (keep l)))] := by
  have hk : keep l = keepN (l.take 20) (l.take 20).length := by unfold keep keepN; rw [List.take_length]
  rw [hk]
  have hl20 : (l.take 20).length = min l.length 20 := by simp [Nat.min_comm]
  have hsub : List.take (min l.length 20 - 0) (l.map Sh.av) = (l.take 20).map Sh.av := by
    simp only [← List.map_take, Nat.sub_zero]
    rcases Nat.le_total l.length 20 with h | h
    · rw [Nat.min_eq_left h, List.take_of_length_le (Nat.le_refl _), List.take_of_length_le h]
    · rw [Nat.min_eq_right h]
  have hlen : ∀ i, (keepN (l.take 20) i).length ≤ 20 := fun i => by
    unfold keepN
    refine Nat.le_trans (List.length_filter_le _ _) ?_
    simp; omega
  have hmin : min (l.length : Int) 20 = ((min l.length 20 : Nat) : Int) := by omega
  generalize l.take 20 = q at *
  refine FnOk.of_vc Tryd.func12 rfl (by decide) (by simp [Tryd.f12]) [.tmp 2] rfl fun w0 T0 _ => ?_
  simp only [Tryd.f12, argEnv]
  (repeat' first | (with_reducible refine Asm.intro fun _ => ?_) | ((with_reducible refine Chk.intro ?_ ?_); (· first | omega | (with_reducible refine Chk.intro ?_ ?_ <;> omega) | (simp; done) | (simp; omega))) | (with_reducible refine AnyI.i64 fun _ _ => ?_) | ((with_reducible refine LetW.i64 ?_ ?_ ?_); (· omega); (· omega)) | ((with_reducible refine LetW.u8 ?_ ?_ ?_); (· omega); (· omega)) | ((with_reducible refine Ite.decide (fun _ => ?_) (fun _ => ?_)) <;> first | (exfalso; omega) | skip) | (with_reducible refine Ite.bool (fun _ => ?_) (fun _ => ?_)) | (with_reducible refine And.intro ?_ ?_) | omega | simp (maxSteps := 1000000) only [go_sem, reduceCtorEq, Nat.reduceLT, Nat.reduceLeDiff, reduceIte, ↓reduceIte, Nat.reduceEqDiff, Nat.reduceAdd, Nat.reduceMul, Nat.reduceSub, Int.reduceLE, Int.reduceLT, Int.reduceNeg, Int.reduceToNat, minmax, hmin, Int.toNat_natCast, hsub, List.length_map])
  refine VcLoop.intro (fun i : Nat => ⟨29, [(12, .int .i64 i), (11, .int .i64 q.length), (10, .ro (shs q)), (3, .own 0)], [(0, .row 30 (shs (keepN q i)))], 1⟩) (fun i => i ≤ q.length) (fun i => q.length - i) 0 ?_ (Nat.zero_le _) fun i hi => ?_
  · refine Ent.auto0 rfl ?_ ?_ <;> simp only [go_sem, reduceCtorEq, reduceIte, Nat.reduceEqDiff, Nat.reduceLT, Nat.reduceLeDiff, Int.natCast_succ, keepN, List.take_zero, List.map_nil, List.filter_nil, List.length_map]
  by_cases hlt : i < q.length
  · have he := sh_elem q hlt
    have hs := keepN_succ q hlt
    have hn := hlen i
    generalize q.getD i Sh.zero = x at *
    have k1 := fit_ok x.W x.H x.p
    have hfx : fitSh x = { x with W := fitN x.W 31, H := fitN x.H 31, p := rowsOf (fitN x.W 31) (fitB x.p (fitN x.W 31)) (fitN x.H 31 * fitN x.W 31) } := rfl
    generalize rowsOf (fitN x.W 31) (fitB x.p (fitN x.W 31)) (fitN x.H 31 * fitN x.W 31) = P at *
    have k2 := sheetError_ok (fitSh x)
    rw [hfx] at k2 hs
    unfold Sh.av at k2
    (repeat' first | (with_reducible refine Asm.intro fun _ => ?_) | ((with_reducible refine Chk.intro ?_ ?_); (· first | omega | (with_reducible refine Chk.intro ?_ ?_ <;> omega) | (simp; done) | (simp; omega))) | (with_reducible refine AnyI.i64 fun _ _ => ?_) | ((with_reducible refine LetW.i64 ?_ ?_ ?_); (· omega); (· omega)) | ((with_reducible refine LetW.u8 ?_ ?_ ?_); (· omega); (· omega)) | ((with_reducible refine Ite.decide (fun _ => ?_) (fun _ => ?_)) <;> first | (exfalso; omega) | skip) | (with_reducible refine Ite.bool (fun _ => ?_) (fun _ => ?_)) | (with_reducible refine And.intro ?_ ?_) | omega | simp (maxSteps := 1000000) only [go_sem, reduceCtorEq, Nat.reduceLT, Nat.reduceLeDiff, reduceIte, ↓reduceIte, Nat.reduceEqDiff, Nat.reduceAdd, Nat.reduceMul, Nat.reduceSub, Int.reduceLE, Int.reduceLT, Int.reduceNeg, Int.reduceToNat, elemA, he])
    refine VcCall.fr (FnFr.of_ok k1 rfl rfl) (by simp only [noIdR_ok, argOkL, argOk, allOk, argOkN, List.drop_zero, lk, reduceIte, reduceCtorEq, Nat.reduceEqDiff, Option.some.injEq, Item.row.injEq, Item.box.injEq, AV.ro.injEq, exists_eq_left, exists_and_left, exists_eq_left', exists_eq_right, and_assoc, and_true, true_and, List.cons.injEq, exists_eq', exists_eq]) 1 rfl (by simp [rowsB, Item.below, Fv.below, belowL]) ?_
    (repeat' first | (with_reducible refine Asm.intro fun _ => ?_) | ((with_reducible refine Chk.intro ?_ ?_); (· first | omega | (with_reducible refine Chk.intro ?_ ?_ <;> omega) | (simp; done) | (simp; omega))) | (with_reducible refine AnyI.i64 fun _ _ => ?_) | ((with_reducible refine LetW.i64 ?_ ?_ ?_); (· omega); (· omega)) | ((with_reducible refine LetW.u8 ?_ ?_ ?_); (· omega); (· omega)) | ((with_reducible refine Ite.decide (fun _ => ?_) (fun _ => ?_)) <;> first | (exfalso; omega) | skip) | (with_reducible refine Ite.bool (fun _ => ?_) (fun _ => ?_)) | (with_reducible refine And.intro ?_ ?_) | omega | simp (maxSteps := 1000000) only [go_sem, reduceCtorEq, Nat.reduceLT, Nat.reduceLeDiff, reduceIte, ↓reduceIte, Nat.reduceEqDiff, Nat.reduceAdd, Nat.reduceMul, Nat.reduceSub, Int.reduceLE, Int.reduceLT, Int.reduceNeg, Int.reduceToNat])
    refine VcCall.fr (FnFr.of_ok k2 rfl rfl) (by simp only [noIdR_ok, argOkL, argOk, allOk, argOkN, List.drop_zero, lk, reduceIte, reduceCtorEq, Nat.reduceEqDiff, Option.some.injEq, Item.row.injEq, Item.box.injEq, AV.ro.injEq, exists_eq_left, exists_and_left, exists_eq_left', exists_eq_right, and_assoc, and_true, true_and, List.cons.injEq, exists_eq', exists_eq]) 0 rfl (by simp [rowsB]) ?_
    generalize shErr _ = e at *
    (repeat' first | (with_reducible refine Asm.intro fun _ => ?_) | ((with_reducible refine Chk.intro ?_ ?_); (· first | omega | (with_reducible refine Chk.intro ?_ ?_ <;> omega) | (simp; done) | (simp; omega))) | (with_reducible refine AnyI.i64 fun _ _ => ?_) | ((with_reducible refine LetW.i64 ?_ ?_ ?_); (· omega); (· omega)) | ((with_reducible refine LetW.u8 ?_ ?_ ?_); (· omega); (· omega)) | ((with_reducible refine Ite.decide (fun _ => ?_) (fun _ => ?_)) <;> first | (exfalso; omega) | skip) | (with_reducible refine Ite.bool (fun _ => ?_) (fun _ => ?_)) | (with_reducible refine And.intro ?_ ?_) | omega | simp (maxSteps := 1000000) only [go_sem, reduceCtorEq, Nat.reduceLT, Nat.reduceLeDiff, reduceIte, ↓reduceIte, Nat.reduceEqDiff, Nat.reduceAdd, Nat.reduceMul, Nat.reduceSub, Int.reduceLE, Int.reduceLT, Int.reduceNeg, Int.reduceToNat])
    · rename_i h1
      rw [if_pos h1] at hs
      refine ⟨i + 1, Ent.auto0 rfl ?_ ?_, by omega, by omega⟩ <;> simp only [go_sem, reduceCtorEq, reduceIte, Nat.reduceEqDiff, Nat.reduceLT, Nat.reduceLeDiff, Int.natCast_succ, hs]
      all_goals simp [Sh.av]
    · rename_i h1
      rw [if_neg h1] at hs
      refine ⟨i + 1, Ent.auto0 rfl ?_ ?_, by omega, by omega⟩ <;> simp only [go_sem, reduceCtorEq, reduceIte, Nat.reduceEqDiff, Nat.reduceLT, Nat.reduceLeDiff, Int.natCast_succ, hs]
  · (repeat' first | (with_reducible refine Asm.intro fun _ => ?_) | ((with_reducible refine Chk.intro ?_ ?_); (· first | omega | (with_reducible refine Chk.intro ?_ ?_ <;> omega) | (simp; done) | (simp; omega))) | (with_reducible refine AnyI.i64 fun _ _ => ?_) | ((with_reducible refine LetW.i64 ?_ ?_ ?_); (· omega); (· omega)) | ((with_reducible refine LetW.u8 ?_ ?_ ?_); (· omega); (· omega)) | ((with_reducible refine Ite.decide (fun _ => ?_) (fun _ => ?_)) <;> first | (exfalso; omega) | skip) | (with_reducible refine Ite.bool (fun _ => ?_) (fun _ => ?_)) | (with_reducible refine And.intro ?_ ?_) | omega | simp (maxSteps := 1000000) only [go_sem, reduceCtorEq, Nat.reduceLT, Nat.reduceLeDiff, reduceIte, ↓reduceIte, Nat.reduceEqDiff, Nat.reduceAdd, Nat.reduceMul, Nat.reduceSub, Int.reduceLE, Int.reduceLT, Int.reduceNeg, Int.reduceToNat])
    have e : i = q.length := by omega
    subst e
    refine Ret.auto 1 ?_ rfl ?_ <;> simp only [go_sem, reduceCtorEq, reduceIte, Nat.reduceEqDiff, Nat.reduceLT, Nat.reduceLeDiff, Int.natCast_succ, Post]

end Go.Fv.S

/- The law KindsMatch. -/

namespace Go.Fv.S
open Go Go.Proofs
set_option linter.unusedSimpArgs false
set_option linter.unusedVariables false
set_option linter.unnecessarySimpa false
set_option maxRecDepth 8000

def keepRN (l : List Ru) (i : Nat) : List Ru := (l.take i).filter fun r => decide (rusErr [r] = 0)
theorem keepRN_succ (l : List Ru) {i : Nat} (h : i < l.length) : keepRN l (i + 1) = if rusErr [l.getD i Ru.zero] = 0 then keepRN l i ++ [l.getD i Ru.zero] else keepRN l i := by
  unfold keepRN
  rw [List.take_succ_eq_append_getElem h, List.filter_append, getD_lt h]
  split
  · rename_i h1; simp [h1]
  · rename_i h1; simp [h1]
theorem ruSmall_mem {l : List Ru} : RuSmall l ↔ ∀ r, r ∈ l → ∀ w, w ∈ r.words → w.length ≤ 1048576 := by
  constructor
  · intro h r hr w hw
    obtain ⟨i, hi, rfl⟩ := List.getElem_of_mem hr
    exact h i hi w (by rw [getD_lt hi]; exact hw)
  · intro h i hi w hw
    rw [getD_lt hi] at hw
    exact h _ (List.getElem_mem hi) w hw
theorem ruSmall_sub {l k : List Ru} (h : RuSmall l) (hs : ∀ r, r ∈ k → r ∈ l) : RuSmall k :=
  ruSmall_mem.2 fun r hr => ruSmall_mem.1 h r (hs r hr)
theorem keepR_sub (l : List Ru) : ∀ r, r ∈ keepR l → r ∈ l := fun r hr => List.mem_of_mem_take (List.mem_filter.1 hr).1

set_option maxHeartbeats 4000000 in
theorem rules_ok (l : List Ru) (hW : RuSmall l) : FnOk Tryd.prog 46 [.ro (rus l)] (.own 0) [(0, .row 141 (rus (keepR l)))] := by
  have hk : keepR l = keepRN (l.take 10) (l.take 10).length := by unfold keepR keepRN; rw [List.take_length]
  rw [hk]
  have hl20 : (l.take 10).length = min l.length 10 := by simp [Nat.min_comm]
  have hsub : List.take (min l.length 10 - 0) (l.map Ru.av) = (l.take 10).map Ru.av := by
    simp only [← List.map_take, Nat.sub_zero]
    rcases Nat.le_total l.length 10 with h | h
    · rw [Nat.min_eq_left h, List.take_of_length_le (Nat.le_refl _), List.take_of_length_le h]
    · rw [Nat.min_eq_right h]
  have hlen : ∀ i, (keepRN (l.take 10) i).length ≤ 10 := fun i => by
    unfold keepRN
    refine Nat.le_trans (List.length_filter_le _ _) ?_
    simp; omega
  have hmin : min (l.length : Int) 10 = ((min l.length 10 : Nat) : Int) := by omega
  have hWq : RuSmall (l.take 10) := ruSmall_sub hW fun r hr => List.mem_of_mem_take hr
  generalize l.take 10 = q at *
  refine FnOk.of_vc Tryd.func46 rfl (by decide) (by simp [Tryd.f46]) [.tmp 2] rfl fun w0 T0 _ => ?_
  simp only [Tryd.f46, argEnv]
  (repeat' first | (with_reducible refine Asm.intro fun _ => ?_) | ((with_reducible refine Chk.intro ?_ ?_); (· first | omega | (with_reducible refine Chk.intro ?_ ?_ <;> omega) | (simp; done) | (simp; omega))) | (with_reducible refine AnyI.i64 fun _ _ => ?_) | ((with_reducible refine LetW.i64 ?_ ?_ ?_); (· omega); (· omega)) | ((with_reducible refine LetW.u8 ?_ ?_ ?_); (· omega); (· omega)) | ((with_reducible refine Ite.decide (fun _ => ?_) (fun _ => ?_)) <;> first | (exfalso; omega) | skip) | (with_reducible refine Ite.bool (fun _ => ?_) (fun _ => ?_)) | (with_reducible refine And.intro ?_ ?_) | omega | simp (maxSteps := 1000000) only [go_sem, reduceCtorEq, Nat.reduceLT, Nat.reduceLeDiff, reduceIte, ↓reduceIte, Nat.reduceEqDiff, Nat.reduceAdd, Nat.reduceMul, Nat.reduceSub, Int.reduceLE, Int.reduceLT, Int.reduceNeg, Int.reduceToNat, minmax, hmin, Int.toNat_natCast, hsub, List.length_map])
  refine VcLoop.intro (fun i : Nat => ⟨26, [(12, .int .i64 i), (11, .int .i64 q.length), (10, .ro (rus q)), (3, .own 0)], [(0, .row 141 (rus (keepRN q i)))], 1⟩) (fun i => i ≤ q.length) (fun i => q.length - i) 0 ?_ (Nat.zero_le _) fun i hi => ?_
  · refine Ent.auto0 rfl ?_ ?_ <;> simp only [go_sem, reduceCtorEq, reduceIte, Nat.reduceEqDiff, Nat.reduceLT, Nat.reduceLeDiff, Int.natCast_succ, keepRN, List.take_zero, List.map_nil, List.filter_nil, List.length_map]
  by_cases hlt : i < q.length
  · have he := ru_elem q hlt
    have hs := keepRN_succ q hlt
    have hn := hlen i
    have hx := hWq i hlt
    generalize q.getD i Ru.zero = x at *
    have k2 := rulesError_ok [x] (ruSmall_mem.2 fun r hr => by rw [List.mem_singleton] at hr; subst hr; exact hx)
    generalize rusErr [x] = e at *
    unfold rus at k2
    rw [List.map_cons, List.map_nil, show x.av = [.str x.kind, .ro (.strs x.words), .str x.code] from rfl] at k2
    (repeat' first | (with_reducible refine Asm.intro fun _ => ?_) | ((with_reducible refine Chk.intro ?_ ?_); (· first | omega | (with_reducible refine Chk.intro ?_ ?_ <;> omega) | (simp; done) | (simp; omega))) | (with_reducible refine AnyI.i64 fun _ _ => ?_) | ((with_reducible refine LetW.i64 ?_ ?_ ?_); (· omega); (· omega)) | ((with_reducible refine LetW.u8 ?_ ?_ ?_); (· omega); (· omega)) | ((with_reducible refine Ite.decide (fun _ => ?_) (fun _ => ?_)) <;> first | (exfalso; omega) | skip) | (with_reducible refine Ite.bool (fun _ => ?_) (fun _ => ?_)) | (with_reducible refine And.intro ?_ ?_) | omega | simp (maxSteps := 1000000) only [go_sem, reduceCtorEq, Nat.reduceLT, Nat.reduceLeDiff, reduceIte, ↓reduceIte, Nat.reduceEqDiff, Nat.reduceAdd, Nat.reduceMul, Nat.reduceSub, Int.reduceLE, Int.reduceLT, Int.reduceNeg, Int.reduceToNat, elemA, he])
    refine VcCall.fr (FnFr.of_ok k2 rfl rfl) (by simp only [noIdR_ok, argOkL, argOk, allOk, argOkN, List.drop_zero, lk, reduceIte, reduceCtorEq, Nat.reduceEqDiff, Option.some.injEq, Item.row.injEq, Item.box.injEq, AV.ro.injEq, exists_eq_left, exists_and_left, exists_eq_left', exists_eq_right, and_assoc, and_true, true_and, List.cons.injEq, exists_eq', exists_eq]) 0 rfl (by simp [rowsB]) ?_
    (repeat' first | (with_reducible refine Asm.intro fun _ => ?_) | ((with_reducible refine Chk.intro ?_ ?_); (· first | omega | (with_reducible refine Chk.intro ?_ ?_ <;> omega) | (simp; done) | (simp; omega))) | (with_reducible refine AnyI.i64 fun _ _ => ?_) | ((with_reducible refine LetW.i64 ?_ ?_ ?_); (· omega); (· omega)) | ((with_reducible refine LetW.u8 ?_ ?_ ?_); (· omega); (· omega)) | ((with_reducible refine Ite.decide (fun _ => ?_) (fun _ => ?_)) <;> first | (exfalso; omega) | skip) | (with_reducible refine Ite.bool (fun _ => ?_) (fun _ => ?_)) | (with_reducible refine And.intro ?_ ?_) | omega | simp (maxSteps := 1000000) only [go_sem, reduceCtorEq, Nat.reduceLT, Nat.reduceLeDiff, reduceIte, ↓reduceIte, Nat.reduceEqDiff, Nat.reduceAdd, Nat.reduceMul, Nat.reduceSub, Int.reduceLE, Int.reduceLT, Int.reduceNeg, Int.reduceToNat])
    · rename_i h1
      rw [if_pos h1] at hs
      refine ⟨i + 1, Ent.auto0 rfl ?_ ?_, by omega, by omega⟩ <;> simp only [go_sem, reduceCtorEq, reduceIte, Nat.reduceEqDiff, Nat.reduceLT, Nat.reduceLeDiff, Int.natCast_succ, hs]
      all_goals simp [Ru.av]
    · rename_i h1
      rw [if_neg h1] at hs
      refine ⟨i + 1, Ent.auto0 rfl ?_ ?_, by omega, by omega⟩ <;> simp only [go_sem, reduceCtorEq, reduceIte, Nat.reduceEqDiff, Nat.reduceLT, Nat.reduceLeDiff, Int.natCast_succ, hs]
  · (repeat' first | (with_reducible refine Asm.intro fun _ => ?_) | ((with_reducible refine Chk.intro ?_ ?_); (· first | omega | (with_reducible refine Chk.intro ?_ ?_ <;> omega) | (simp; done) | (simp; omega))) | (with_reducible refine AnyI.i64 fun _ _ => ?_) | ((with_reducible refine LetW.i64 ?_ ?_ ?_); (· omega); (· omega)) | ((with_reducible refine LetW.u8 ?_ ?_ ?_); (· omega); (· omega)) | ((with_reducible refine Ite.decide (fun _ => ?_) (fun _ => ?_)) <;> first | (exfalso; omega) | skip) | (with_reducible refine Ite.bool (fun _ => ?_) (fun _ => ?_)) | (with_reducible refine And.intro ?_ ?_) | omega | simp (maxSteps := 1000000) only [go_sem, reduceCtorEq, Nat.reduceLT, Nat.reduceLeDiff, reduceIte, ↓reduceIte, Nat.reduceEqDiff, Nat.reduceAdd, Nat.reduceMul, Nat.reduceSub, Int.reduceLE, Int.reduceLT, Int.reduceNeg, Int.reduceToNat])
    have e : i = q.length := by omega
    subst e
    refine Ret.auto 1 ?_ rfl ?_ <;> simp only [go_sem, reduceCtorEq, reduceIte, Nat.reduceEqDiff, Nat.reduceLT, Nat.reduceLeDiff, Int.natCast_succ, Post]

def kindE (s : Sh) (l : List Ru) : Int := firstErr [shErr s, rusErr l]
def kindR (s : Sh) (l : List Ru) : List UInt8 := if kindE s l = 0 then kindS s l else []
theorem shErr_text {s : Sh} (h : shErr s = 0) : s.text.length ≤ 1048576 := by
  have := firstErr_zero h (if 1048576 < s.text.length then 4 else 0) (by simp)
  split at this
  · cases this
  · omega
set_option maxHeartbeats 4000000 in
theorem kindF_ok (s : Sh) (l : List Ru) (hW : RuSmall l) : FnOk Tryd.prog 49 [.agg s.av, .ro (rus l)] (.tup [.str (kindR s l), .int .i64 (kindE s l)]) [] := by
  have k1 := checkSheet_ok s
  have k2 := checkRules_ok l hW
  have k3 := fun h => kind_ok s h l
  have ht := shErr_text (s := s)
  unfold kindR kindE Sh.av at *
  refine FnOk.of_vc Tryd.func49 rfl (by decide) (by simp [Tryd.f49]) [.tmp 4, .tmp 5] rfl fun w0 T0 _ => ?_
  simp only [Tryd.f49, argEnv]
  generalize shErr s = a at *
  generalize rusErr l = b at *
  (repeat' first | (with_reducible refine Asm.intro fun _ => ?_) | ((with_reducible refine Chk.intro ?_ ?_); (· first | omega | (with_reducible refine Chk.intro ?_ ?_ <;> omega) | (simp; done) | (simp; omega))) | (with_reducible refine AnyI.i64 fun _ _ => ?_) | ((with_reducible refine LetW.i64 ?_ ?_ ?_); (· omega); (· omega)) | ((with_reducible refine LetW.u8 ?_ ?_ ?_); (· omega); (· omega)) | ((with_reducible refine Ite.decide (fun _ => ?_) (fun _ => ?_)) <;> first | (exfalso; omega) | skip) | (with_reducible refine Ite.bool (fun _ => ?_) (fun _ => ?_)) | (with_reducible refine And.intro ?_ ?_) | omega | simp (maxSteps := 1000000) only [go_sem, reduceCtorEq, Nat.reduceLT, Nat.reduceLeDiff, reduceIte, ↓reduceIte, Nat.reduceEqDiff, Nat.reduceAdd, Nat.reduceMul, Nat.reduceSub, Int.reduceLE, Int.reduceLT, Int.reduceNeg, Int.reduceToNat])
  refine VcCall.fr (FnFr.of_ok (k1) rfl rfl) (by simp only [noIdR_ok, argOkL, argOk, allOk, argOkN, List.drop_zero, lk, reduceIte, reduceCtorEq, Nat.reduceEqDiff, Option.some.injEq, Item.row.injEq, Item.box.injEq, AV.ro.injEq, exists_eq_left, exists_and_left, exists_eq_left', exists_eq_right, and_assoc, and_true, true_and, List.cons.injEq, exists_eq', exists_eq]) 0 rfl (by simp [rowsB]) ?_
  by_cases ha : a = 0
  · subst ha
    (repeat' first | (with_reducible refine Asm.intro fun _ => ?_) | ((with_reducible refine Chk.intro ?_ ?_); (· first | omega | (with_reducible refine Chk.intro ?_ ?_ <;> omega) | (simp; done) | (simp; omega))) | (with_reducible refine AnyI.i64 fun _ _ => ?_) | ((with_reducible refine LetW.i64 ?_ ?_ ?_); (· omega); (· omega)) | ((with_reducible refine LetW.u8 ?_ ?_ ?_); (· omega); (· omega)) | ((with_reducible refine Ite.decide (fun _ => ?_) (fun _ => ?_)) <;> first | (exfalso; omega) | skip) | (with_reducible refine Ite.bool (fun _ => ?_) (fun _ => ?_)) | (with_reducible refine And.intro ?_ ?_) | omega | simp (maxSteps := 1000000) only [go_sem, reduceCtorEq, Nat.reduceLT, Nat.reduceLeDiff, reduceIte, ↓reduceIte, Nat.reduceEqDiff, Nat.reduceAdd, Nat.reduceMul, Nat.reduceSub, Int.reduceLE, Int.reduceLT, Int.reduceNeg, Int.reduceToNat])
    refine VcCall.fr (FnFr.of_ok (k2) rfl rfl) (by simp only [noIdR_ok, argOkL, argOk, allOk, argOkN, List.drop_zero, lk, reduceIte, reduceCtorEq, Nat.reduceEqDiff, Option.some.injEq, Item.row.injEq, Item.box.injEq, AV.ro.injEq, exists_eq_left, exists_and_left, exists_eq_left', exists_eq_right, and_assoc, and_true, true_and, List.cons.injEq, exists_eq', exists_eq]) 0 rfl (by simp [rowsB]) ?_
    by_cases hb : b = 0
    · subst hb
      have k3 := k3 (ht rfl)
      (repeat' first | (with_reducible refine Asm.intro fun _ => ?_) | ((with_reducible refine Chk.intro ?_ ?_); (· first | omega | (with_reducible refine Chk.intro ?_ ?_ <;> omega) | (simp; done) | (simp; omega))) | (with_reducible refine AnyI.i64 fun _ _ => ?_) | ((with_reducible refine LetW.i64 ?_ ?_ ?_); (· omega); (· omega)) | ((with_reducible refine LetW.u8 ?_ ?_ ?_); (· omega); (· omega)) | ((with_reducible refine Ite.decide (fun _ => ?_) (fun _ => ?_)) <;> first | (exfalso; omega) | skip) | (with_reducible refine Ite.bool (fun _ => ?_) (fun _ => ?_)) | (with_reducible refine And.intro ?_ ?_) | omega | simp (maxSteps := 1000000) only [go_sem, reduceCtorEq, Nat.reduceLT, Nat.reduceLeDiff, reduceIte, ↓reduceIte, Nat.reduceEqDiff, Nat.reduceAdd, Nat.reduceMul, Nat.reduceSub, Int.reduceLE, Int.reduceLT, Int.reduceNeg, Int.reduceToNat])
      refine VcCall.fr (FnFr.of_ok (k3) rfl rfl) (by simp only [noIdR_ok, argOkL, argOk, allOk, argOkN, List.drop_zero, lk, reduceIte, reduceCtorEq, Nat.reduceEqDiff, Option.some.injEq, Item.row.injEq, Item.box.injEq, AV.ro.injEq, exists_eq_left, exists_and_left, exists_eq_left', exists_eq_right, and_assoc, and_true, true_and, List.cons.injEq, exists_eq', exists_eq]) 0 rfl (by simp [rowsB]) ?_
      (repeat' first | (with_reducible refine Asm.intro fun _ => ?_) | ((with_reducible refine Chk.intro ?_ ?_); (· first | omega | (with_reducible refine Chk.intro ?_ ?_ <;> omega) | (simp; done) | (simp; omega))) | (with_reducible refine AnyI.i64 fun _ _ => ?_) | ((with_reducible refine LetW.i64 ?_ ?_ ?_); (· omega); (· omega)) | ((with_reducible refine LetW.u8 ?_ ?_ ?_); (· omega); (· omega)) | ((with_reducible refine Ite.decide (fun _ => ?_) (fun _ => ?_)) <;> first | (exfalso; omega) | skip) | (with_reducible refine Ite.bool (fun _ => ?_) (fun _ => ?_)) | (with_reducible refine And.intro ?_ ?_) | omega | simp (maxSteps := 1000000) only [go_sem, reduceCtorEq, Nat.reduceLT, Nat.reduceLeDiff, reduceIte, ↓reduceIte, Nat.reduceEqDiff, Nat.reduceAdd, Nat.reduceMul, Nat.reduceSub, Int.reduceLE, Int.reduceLT, Int.reduceNeg, Int.reduceToNat])
      refine Ret.auto 0 ?_ rfl ?_ <;> simp only [go_sem, reduceCtorEq, reduceIte, Nat.reduceEqDiff, Nat.reduceLT, Nat.reduceLeDiff, Int.natCast_succ, Post, firstErr]
    · have e1 : firstErr [0, b] = b := by simp [firstErr]; omega
      rw [e1, if_neg hb]
      (repeat' first | (with_reducible refine Asm.intro fun _ => ?_) | ((with_reducible refine Chk.intro ?_ ?_); (· first | omega | (with_reducible refine Chk.intro ?_ ?_ <;> omega) | (simp; done) | (simp; omega))) | (with_reducible refine AnyI.i64 fun _ _ => ?_) | ((with_reducible refine LetW.i64 ?_ ?_ ?_); (· omega); (· omega)) | ((with_reducible refine LetW.u8 ?_ ?_ ?_); (· omega); (· omega)) | ((with_reducible refine Ite.decide (fun _ => ?_) (fun _ => ?_)) <;> first | (exfalso; omega) | skip) | (with_reducible refine Ite.bool (fun _ => ?_) (fun _ => ?_)) | (with_reducible refine And.intro ?_ ?_) | omega | simp (maxSteps := 1000000) only [go_sem, reduceCtorEq, Nat.reduceLT, Nat.reduceLeDiff, reduceIte, ↓reduceIte, Nat.reduceEqDiff, Nat.reduceAdd, Nat.reduceMul, Nat.reduceSub, Int.reduceLE, Int.reduceLT, Int.reduceNeg, Int.reduceToNat, hb])
      refine Ret.auto 0 ?_ rfl ?_ <;> simp only [go_sem, reduceCtorEq, reduceIte, Nat.reduceEqDiff, Nat.reduceLT, Nat.reduceLeDiff, Int.natCast_succ, Post]
  · have e1 : firstErr [a, b] = a := by simp [firstErr, ha]
    rw [e1, if_neg ha]
    (repeat' first | (with_reducible refine Asm.intro fun _ => ?_) | ((with_reducible refine Chk.intro ?_ ?_); (· first | omega | (with_reducible refine Chk.intro ?_ ?_ <;> omega) | (simp; done) | (simp; omega))) | (with_reducible refine AnyI.i64 fun _ _ => ?_) | ((with_reducible refine LetW.i64 ?_ ?_ ?_); (· omega); (· omega)) | ((with_reducible refine LetW.u8 ?_ ?_ ?_); (· omega); (· omega)) | ((with_reducible refine Ite.decide (fun _ => ?_) (fun _ => ?_)) <;> first | (exfalso; omega) | skip) | (with_reducible refine Ite.bool (fun _ => ?_) (fun _ => ?_)) | (with_reducible refine And.intro ?_ ?_) | omega | simp (maxSteps := 1000000) only [go_sem, reduceCtorEq, Nat.reduceLT, Nat.reduceLeDiff, reduceIte, ↓reduceIte, Nat.reduceEqDiff, Nat.reduceAdd, Nat.reduceMul, Nat.reduceSub, Int.reduceLE, Int.reduceLT, Int.reduceNeg, Int.reduceToNat, ha])
    refine Ret.auto 0 ?_ rfl ?_ <;> simp only [go_sem, reduceCtorEq, reduceIte, Nat.reduceEqDiff, Nat.reduceLT, Nat.reduceLeDiff, Int.natCast_succ, Post]

set_option maxHeartbeats 8000000 in
theorem kindsMatch_ok (s : Sh) (l : List Ru) (hW : RuSmall l) (raw : Bool) : FnOk Tryd.prog 7 [.agg s.av, .ro (rus l), .bool raw] (.bool true) [] := by
  have kr := rules_ok l hW
  have kf := fit_ok s.W s.H s.p
  have hW2 : RuSmall (keepR l) := ruSmall_sub hW (keepR_sub l)
  have hfx : (fitSh s) = { s with W := fitN s.W 31, H := fitN s.H 31, p := rowsOf (fitN s.W 31) (fitB s.p (fitN s.W 31)) (fitN s.H 31 * fitN s.W 31) } := rfl
  unfold Sh.av
  refine FnOk.of_vc Tryd.func7 rfl (by decide) (by simp [Tryd.f7]) [.tmp 6] rfl fun w0 T0 _ => ?_
  simp only [Tryd.f7, argEnv]
  (repeat' first | (with_reducible refine Asm.intro fun _ => ?_) | ((with_reducible refine Chk.intro ?_ ?_); (· first | omega | (with_reducible refine Chk.intro ?_ ?_ <;> omega) | (simp; done) | (simp; omega))) | (with_reducible refine AnyI.i64 fun _ _ => ?_) | ((with_reducible refine LetW.i64 ?_ ?_ ?_); (· omega); (· omega)) | ((with_reducible refine LetW.u8 ?_ ?_ ?_); (· omega); (· omega)) | ((with_reducible refine Ite.decide (fun _ => ?_) (fun _ => ?_)) <;> first | (exfalso; omega) | skip) | (with_reducible refine Ite.bool (fun _ => ?_) (fun _ => ?_)) | (with_reducible refine And.intro ?_ ?_) | omega | simp (maxSteps := 1000000) only [go_sem, reduceCtorEq, Nat.reduceLT, Nat.reduceLeDiff, reduceIte, ↓reduceIte, Nat.reduceEqDiff, Nat.reduceAdd, Nat.reduceMul, Nat.reduceSub, Int.reduceLE, Int.reduceLT, Int.reduceNeg, Int.reduceToNat])
  refine VcCall.fr (FnFr.of_ok landed_ok rfl rfl) (by simp only [noIdR_ok, argOkL, argOk, allOk, argOkN, List.drop_zero, lk, reduceIte, reduceCtorEq, Nat.reduceEqDiff, Option.some.injEq, Item.row.injEq, Item.box.injEq, AV.ro.injEq, exists_eq_left, exists_and_left, exists_eq_left', exists_eq_right, and_assoc, and_true, true_and, List.cons.injEq, exists_eq', exists_eq]) 0 rfl (by simp [rowsB]) ?_
  cases raw
  case' false =>
    (repeat' first | (with_reducible refine Asm.intro fun _ => ?_) | ((with_reducible refine Chk.intro ?_ ?_); (· first | omega | (with_reducible refine Chk.intro ?_ ?_ <;> omega) | (simp; done) | (simp; omega))) | (with_reducible refine AnyI.i64 fun _ _ => ?_) | ((with_reducible refine LetW.i64 ?_ ?_ ?_); (· omega); (· omega)) | ((with_reducible refine LetW.u8 ?_ ?_ ?_); (· omega); (· omega)) | ((with_reducible refine Ite.decide (fun _ => ?_) (fun _ => ?_)) <;> first | (exfalso; omega) | skip) | (with_reducible refine Ite.bool (fun _ => ?_) (fun _ => ?_)) | (with_reducible refine And.intro ?_ ?_) | omega | simp (maxSteps := 1000000) only [go_sem, reduceCtorEq, Nat.reduceLT, Nat.reduceLeDiff, reduceIte, ↓reduceIte, Nat.reduceEqDiff, Nat.reduceAdd, Nat.reduceMul, Nat.reduceSub, Int.reduceLE, Int.reduceLT, Int.reduceNeg, Int.reduceToNat])
    refine VcCall.ros (.ro (rus (keepR l))) kr (by simp only [noIdR_ok, argOkL, argOk, allOk, argOkN, List.drop_zero, lk, reduceIte, reduceCtorEq, Nat.reduceEqDiff, Option.some.injEq, Item.row.injEq, Item.box.injEq, AV.ro.injEq, exists_eq_left, exists_and_left, exists_eq_left', exists_eq_right, and_assoc, and_true, true_and, List.cons.injEq, exists_eq', exists_eq]) (by simp [outOk, argOk, argOkN, lk]) rfl ?_
    generalize keepR l = l at *
    generalize rowsOf (fitN s.W 31) (fitB s.p (fitN s.W 31)) (fitN s.H 31 * fitN s.W 31) = P at *
    (repeat' first | (with_reducible refine Asm.intro fun _ => ?_) | ((with_reducible refine Chk.intro ?_ ?_); (· first | omega | (with_reducible refine Chk.intro ?_ ?_ <;> omega) | (simp; done) | (simp; omega))) | (with_reducible refine AnyI.i64 fun _ _ => ?_) | ((with_reducible refine LetW.i64 ?_ ?_ ?_); (· omega); (· omega)) | ((with_reducible refine LetW.u8 ?_ ?_ ?_); (· omega); (· omega)) | ((with_reducible refine Ite.decide (fun _ => ?_) (fun _ => ?_)) <;> first | (exfalso; omega) | skip) | (with_reducible refine Ite.bool (fun _ => ?_) (fun _ => ?_)) | (with_reducible refine And.intro ?_ ?_) | omega | simp (maxSteps := 1000000) only [go_sem, reduceCtorEq, Nat.reduceLT, Nat.reduceLeDiff, reduceIte, ↓reduceIte, Nat.reduceEqDiff, Nat.reduceAdd, Nat.reduceMul, Nat.reduceSub, Int.reduceLE, Int.reduceLT, Int.reduceNeg, Int.reduceToNat])
    refine VcCall.ro (.agg [.int .i64 (fitN s.W 31), .int .i64 (fitN s.H 31), .ro (.bools P)]) (FnFr.of_ok kf rfl rfl) (by simp only [noIdR_ok, argOkL, argOk, allOk, argOkN, List.drop_zero, lk, reduceIte, reduceCtorEq, Nat.reduceEqDiff, Option.some.injEq, Item.row.injEq, Item.box.injEq, AV.ro.injEq, exists_eq_left, exists_and_left, exists_eq_left', exists_eq_right, and_assoc, and_true, true_and, List.cons.injEq, exists_eq', exists_eq]) (by simp [outOk, argOkL, allOk, argOk, argOkN, lk, noIdR_ok]) rfl ?_
    clear kr kf
    clear hW
    generalize hs' : fitSh s = s' at hfx
    have e1 : (fitN s.W 31 : Int) = s'.W := by rw [hfx]
    have e2 : (fitN s.H 31 : Int) = s'.H := by rw [hfx]
    have e3 : P = s'.p := by rw [hfx]
    have e4 : s.codes = s'.codes := by rw [hfx]
    have e5 : s.text = s'.text := by rw [hfx]
    rw [e1, e2, e3]
    (repeat' first | (with_reducible refine Asm.intro fun _ => ?_) | ((with_reducible refine Chk.intro ?_ ?_); (· first | omega | (with_reducible refine Chk.intro ?_ ?_ <;> omega) | (simp; done) | (simp; omega))) | (with_reducible refine AnyI.i64 fun _ _ => ?_) | ((with_reducible refine LetW.i64 ?_ ?_ ?_); (· omega); (· omega)) | ((with_reducible refine LetW.u8 ?_ ?_ ?_); (· omega); (· omega)) | ((with_reducible refine Ite.decide (fun _ => ?_) (fun _ => ?_)) <;> first | (exfalso; omega) | skip) | (with_reducible refine Ite.bool (fun _ => ?_) (fun _ => ?_)) | (with_reducible refine And.intro ?_ ?_) | omega | simp (maxSteps := 1000000) only [go_sem, reduceCtorEq, Nat.reduceLT, Nat.reduceLeDiff, reduceIte, ↓reduceIte, Nat.reduceEqDiff, Nat.reduceAdd, Nat.reduceMul, Nat.reduceSub, Int.reduceLE, Int.reduceLT, Int.reduceNeg, Int.reduceToNat, e4, e5])
    clear hfx hs' e1 e2 e3 e4 e5 P
    rename Sh => s
    rename RuSmall l => hW
  case' true =>
    (repeat' first | (with_reducible refine Asm.intro fun _ => ?_) | ((with_reducible refine Chk.intro ?_ ?_); (· first | omega | (with_reducible refine Chk.intro ?_ ?_ <;> omega) | (simp; done) | (simp; omega))) | (with_reducible refine AnyI.i64 fun _ _ => ?_) | ((with_reducible refine LetW.i64 ?_ ?_ ?_); (· omega); (· omega)) | ((with_reducible refine LetW.u8 ?_ ?_ ?_); (· omega); (· omega)) | ((with_reducible refine Ite.decide (fun _ => ?_) (fun _ => ?_)) <;> first | (exfalso; omega) | skip) | (with_reducible refine Ite.bool (fun _ => ?_) (fun _ => ?_)) | (with_reducible refine And.intro ?_ ?_) | omega | simp (maxSteps := 1000000) only [go_sem, reduceCtorEq, Nat.reduceLT, Nat.reduceLeDiff, reduceIte, ↓reduceIte, Nat.reduceEqDiff, Nat.reduceAdd, Nat.reduceMul, Nat.reduceSub, Int.reduceLE, Int.reduceLT, Int.reduceNeg, Int.reduceToNat])
    clear kr kf hW2 hfx
  all_goals
    have c1 := checkRules_ok l hW
    have c2 := rulesError_ok l hW
    have c3 := kindF_ok s l hW
    have c4 := sheetError_ok s
    have c5 := fun h => refKindOf_ok s h l
    have ht := shErr_text (s := s)
    have f1 := first_ok [shErr s, rusErr l] (by simp)
    have hE : kindE s l = firstErr [shErr s, rusErr l] := rfl
    have hR : kindR s l = if kindE s l = 0 then kindS s l else [] := rfl
    have hz : kindE s l = 0 → shErr s = 0 := fun h => firstErr_zero (hE ▸ h) _ (.head _)
    rw [← hE] at f1
    generalize kindE s l = e at *
    generalize kindR s l = q at *
    generalize kindS s l = z at *
    generalize shErr s = a at *
    generalize rusErr l = b at *
    unfold Sh.av at c3 c4 c5
    refine VcCall.fr (FnFr.of_ok c1 rfl rfl) (by simp only [noIdR_ok, argOkL, argOk, allOk, argOkN, List.drop_zero, lk, reduceIte, reduceCtorEq, Nat.reduceEqDiff, Option.some.injEq, Item.row.injEq, Item.box.injEq, AV.ro.injEq, exists_eq_left, exists_and_left, exists_eq_left', exists_eq_right, and_assoc, and_true, true_and, List.cons.injEq, exists_eq', exists_eq]) 0 rfl (by simp [rowsB]) ?_
    (repeat' first | (with_reducible refine Asm.intro fun _ => ?_) | ((with_reducible refine Chk.intro ?_ ?_); (· first | omega | (with_reducible refine Chk.intro ?_ ?_ <;> omega) | (simp; done) | (simp; omega))) | (with_reducible refine AnyI.i64 fun _ _ => ?_) | ((with_reducible refine LetW.i64 ?_ ?_ ?_); (· omega); (· omega)) | ((with_reducible refine LetW.u8 ?_ ?_ ?_); (· omega); (· omega)) | ((with_reducible refine Ite.decide (fun _ => ?_) (fun _ => ?_)) <;> first | (exfalso; omega) | skip) | (with_reducible refine Ite.bool (fun _ => ?_) (fun _ => ?_)) | (with_reducible refine And.intro ?_ ?_) | omega | simp (maxSteps := 1000000) only [go_sem, reduceCtorEq, Nat.reduceLT, Nat.reduceLeDiff, reduceIte, ↓reduceIte, Nat.reduceEqDiff, Nat.reduceAdd, Nat.reduceMul, Nat.reduceSub, Int.reduceLE, Int.reduceLT, Int.reduceNeg, Int.reduceToNat])
    refine VcCall.fr (FnFr.of_ok c2 rfl rfl) (by simp only [noIdR_ok, argOkL, argOk, allOk, argOkN, List.drop_zero, lk, reduceIte, reduceCtorEq, Nat.reduceEqDiff, Option.some.injEq, Item.row.injEq, Item.box.injEq, AV.ro.injEq, exists_eq_left, exists_and_left, exists_eq_left', exists_eq_right, and_assoc, and_true, true_and, List.cons.injEq, exists_eq', exists_eq]) 0 rfl (by simp [rowsB]) ?_
    (repeat' first | (with_reducible refine Asm.intro fun _ => ?_) | ((with_reducible refine Chk.intro ?_ ?_); (· first | omega | (with_reducible refine Chk.intro ?_ ?_ <;> omega) | (simp; done) | (simp; omega))) | (with_reducible refine AnyI.i64 fun _ _ => ?_) | ((with_reducible refine LetW.i64 ?_ ?_ ?_); (· omega); (· omega)) | ((with_reducible refine LetW.u8 ?_ ?_ ?_); (· omega); (· omega)) | ((with_reducible refine Ite.decide (fun _ => ?_) (fun _ => ?_)) <;> first | (exfalso; omega) | skip) | (with_reducible refine Ite.bool (fun _ => ?_) (fun _ => ?_)) | (with_reducible refine And.intro ?_ ?_) | omega | simp (maxSteps := 1000000) only [go_sem, reduceCtorEq, Nat.reduceLT, Nat.reduceLeDiff, reduceIte, ↓reduceIte, Nat.reduceEqDiff, Nat.reduceAdd, Nat.reduceMul, Nat.reduceSub, Int.reduceLE, Int.reduceLT, Int.reduceNeg, Int.reduceToNat])
    refine VcCall.fr (FnFr.of_ok c3 rfl rfl) (by simp only [noIdR_ok, argOkL, argOk, allOk, argOkN, List.drop_zero, lk, reduceIte, reduceCtorEq, Nat.reduceEqDiff, Option.some.injEq, Item.row.injEq, Item.box.injEq, AV.ro.injEq, exists_eq_left, exists_and_left, exists_eq_left', exists_eq_right, and_assoc, and_true, true_and, List.cons.injEq, exists_eq', exists_eq]) 0 rfl (by simp [rowsB]) ?_
    (repeat' first | (with_reducible refine Asm.intro fun _ => ?_) | ((with_reducible refine Chk.intro ?_ ?_); (· first | omega | (with_reducible refine Chk.intro ?_ ?_ <;> omega) | (simp; done) | (simp; omega))) | (with_reducible refine AnyI.i64 fun _ _ => ?_) | ((with_reducible refine LetW.i64 ?_ ?_ ?_); (· omega); (· omega)) | ((with_reducible refine LetW.u8 ?_ ?_ ?_); (· omega); (· omega)) | ((with_reducible refine Ite.decide (fun _ => ?_) (fun _ => ?_)) <;> first | (exfalso; omega) | skip) | (with_reducible refine Ite.bool (fun _ => ?_) (fun _ => ?_)) | (with_reducible refine And.intro ?_ ?_) | omega | simp (maxSteps := 1000000) only [go_sem, reduceCtorEq, Nat.reduceLT, Nat.reduceLeDiff, reduceIte, ↓reduceIte, Nat.reduceEqDiff, Nat.reduceAdd, Nat.reduceMul, Nat.reduceSub, Int.reduceLE, Int.reduceLT, Int.reduceNeg, Int.reduceToNat])
    refine VcCall.fr (FnFr.of_ok c4 rfl rfl) (by simp only [noIdR_ok, argOkL, argOk, allOk, argOkN, List.drop_zero, lk, reduceIte, reduceCtorEq, Nat.reduceEqDiff, Option.some.injEq, Item.row.injEq, Item.box.injEq, AV.ro.injEq, exists_eq_left, exists_and_left, exists_eq_left', exists_eq_right, and_assoc, and_true, true_and, List.cons.injEq, exists_eq', exists_eq]) 0 rfl (by simp [rowsB]) ?_
    (repeat' first | (with_reducible refine Asm.intro fun _ => ?_) | ((with_reducible refine Chk.intro ?_ ?_); (· first | omega | (with_reducible refine Chk.intro ?_ ?_ <;> omega) | (simp; done) | (simp; omega))) | (with_reducible refine AnyI.i64 fun _ _ => ?_) | ((with_reducible refine LetW.i64 ?_ ?_ ?_); (· omega); (· omega)) | ((with_reducible refine LetW.u8 ?_ ?_ ?_); (· omega); (· omega)) | ((with_reducible refine Ite.decide (fun _ => ?_) (fun _ => ?_)) <;> first | (exfalso; omega) | skip) | (with_reducible refine Ite.bool (fun _ => ?_) (fun _ => ?_)) | (with_reducible refine And.intro ?_ ?_) | omega | simp (maxSteps := 1000000) only [go_sem, reduceCtorEq, Nat.reduceLT, Nat.reduceLeDiff, reduceIte, ↓reduceIte, Nat.reduceEqDiff, Nat.reduceAdd, Nat.reduceMul, Nat.reduceSub, Int.reduceLE, Int.reduceLT, Int.reduceNeg, Int.reduceToNat])
    refine VcCall.fr (FnFr.of_ok c2 rfl rfl) (by simp only [noIdR_ok, argOkL, argOk, allOk, argOkN, List.drop_zero, lk, reduceIte, reduceCtorEq, Nat.reduceEqDiff, Option.some.injEq, Item.row.injEq, Item.box.injEq, AV.ro.injEq, exists_eq_left, exists_and_left, exists_eq_left', exists_eq_right, and_assoc, and_true, true_and, List.cons.injEq, exists_eq', exists_eq]) 0 rfl (by simp [rowsB]) ?_
    (repeat' first | (with_reducible refine Asm.intro fun _ => ?_) | ((with_reducible refine Chk.intro ?_ ?_); (· first | omega | (with_reducible refine Chk.intro ?_ ?_ <;> omega) | (simp; done) | (simp; omega))) | (with_reducible refine AnyI.i64 fun _ _ => ?_) | ((with_reducible refine LetW.i64 ?_ ?_ ?_); (· omega); (· omega)) | ((with_reducible refine LetW.u8 ?_ ?_ ?_); (· omega); (· omega)) | ((with_reducible refine Ite.decide (fun _ => ?_) (fun _ => ?_)) <;> first | (exfalso; omega) | skip) | (with_reducible refine Ite.bool (fun _ => ?_) (fun _ => ?_)) | (with_reducible refine And.intro ?_ ?_) | omega | simp (maxSteps := 1000000) only [go_sem, reduceCtorEq, Nat.reduceLT, Nat.reduceLeDiff, reduceIte, ↓reduceIte, Nat.reduceEqDiff, Nat.reduceAdd, Nat.reduceMul, Nat.reduceSub, Int.reduceLE, Int.reduceLT, Int.reduceNeg, Int.reduceToNat])
    refine VcCall.fr (FnFr.of_ok f1 rfl rfl) (by simp only [noIdR_ok, argOkL, argOk, allOk, argOkN, List.drop_zero, lk, reduceIte, reduceCtorEq, Nat.reduceEqDiff, Option.some.injEq, Item.row.injEq, Item.box.injEq, AV.ro.injEq, exists_eq_left, exists_and_left, exists_eq_left', exists_eq_right, and_assoc, and_true, true_and, List.cons.injEq, exists_eq', exists_eq]) 0 rfl (by simp [rowsB]) ?_
    by_cases he : e = 0
    · rw [if_pos he] at hR
      subst he hR
      have c5 := c5 (ht (hz rfl))
      (repeat' first | (with_reducible refine Asm.intro fun _ => ?_) | ((with_reducible refine Chk.intro ?_ ?_); (· first | omega | (with_reducible refine Chk.intro ?_ ?_ <;> omega) | (simp; done) | (simp; omega))) | (with_reducible refine AnyI.i64 fun _ _ => ?_) | ((with_reducible refine LetW.i64 ?_ ?_ ?_); (· omega); (· omega)) | ((with_reducible refine LetW.u8 ?_ ?_ ?_); (· omega); (· omega)) | ((with_reducible refine Ite.decide (fun _ => ?_) (fun _ => ?_)) <;> first | (exfalso; omega) | skip) | (with_reducible refine Ite.bool (fun _ => ?_) (fun _ => ?_)) | (with_reducible refine And.intro ?_ ?_) | omega | simp (maxSteps := 1000000) only [go_sem, reduceCtorEq, Nat.reduceLT, Nat.reduceLeDiff, reduceIte, ↓reduceIte, Nat.reduceEqDiff, Nat.reduceAdd, Nat.reduceMul, Nat.reduceSub, Int.reduceLE, Int.reduceLT, Int.reduceNeg, Int.reduceToNat])
      refine VcCall.fr (FnFr.of_ok c5 rfl rfl) (by simp only [noIdR_ok, argOkL, argOk, allOk, argOkN, List.drop_zero, lk, reduceIte, reduceCtorEq, Nat.reduceEqDiff, Option.some.injEq, Item.row.injEq, Item.box.injEq, AV.ro.injEq, exists_eq_left, exists_and_left, exists_eq_left', exists_eq_right, and_assoc, and_true, true_and, List.cons.injEq, exists_eq', exists_eq]) 0 rfl (by simp [rowsB]) ?_
      (repeat' first | (with_reducible refine Asm.intro fun _ => ?_) | ((with_reducible refine Chk.intro ?_ ?_); (· first | omega | (with_reducible refine Chk.intro ?_ ?_ <;> omega) | (simp; done) | (simp; omega))) | (with_reducible refine AnyI.i64 fun _ _ => ?_) | ((with_reducible refine LetW.i64 ?_ ?_ ?_); (· omega); (· omega)) | ((with_reducible refine LetW.u8 ?_ ?_ ?_); (· omega); (· omega)) | ((with_reducible refine Ite.decide (fun _ => ?_) (fun _ => ?_)) <;> first | (exfalso; omega) | skip) | (with_reducible refine Ite.bool (fun _ => ?_) (fun _ => ?_)) | (with_reducible refine And.intro ?_ ?_) | omega | simp (maxSteps := 1000000) only [go_sem, reduceCtorEq, Nat.reduceLT, Nat.reduceLeDiff, reduceIte, ↓reduceIte, Nat.reduceEqDiff, Nat.reduceAdd, Nat.reduceMul, Nat.reduceSub, Int.reduceLE, Int.reduceLT, Int.reduceNeg, Int.reduceToNat])
      refine Ret.auto 0 ?_ rfl ?_ <;> simp only [go_sem, reduceCtorEq, reduceIte, Nat.reduceEqDiff, Nat.reduceLT, Nat.reduceLeDiff, Int.natCast_succ, Post]
    · rw [if_neg he] at hR
      subst hR
      (repeat' first | (with_reducible refine Asm.intro fun _ => ?_) | ((with_reducible refine Chk.intro ?_ ?_); (· first | omega | (with_reducible refine Chk.intro ?_ ?_ <;> omega) | (simp; done) | (simp; omega))) | (with_reducible refine AnyI.i64 fun _ _ => ?_) | ((with_reducible refine LetW.i64 ?_ ?_ ?_); (· omega); (· omega)) | ((with_reducible refine LetW.u8 ?_ ?_ ?_); (· omega); (· omega)) | ((with_reducible refine Ite.decide (fun _ => ?_) (fun _ => ?_)) <;> first | (exfalso; omega) | skip) | (with_reducible refine Ite.bool (fun _ => ?_) (fun _ => ?_)) | (with_reducible refine And.intro ?_ ?_) | omega | simp (maxSteps := 1000000) only [go_sem, reduceCtorEq, Nat.reduceLT, Nat.reduceLeDiff, reduceIte, ↓reduceIte, Nat.reduceEqDiff, Nat.reduceAdd, Nat.reduceMul, Nat.reduceSub, Int.reduceLE, Int.reduceLT, Int.reduceNeg, Int.reduceToNat, he])
      refine Ret.auto 0 ?_ rfl ?_ <;> simp only [go_sem, reduceCtorEq, reduceIte, Nat.reduceEqDiff, Nat.reduceLT, Nat.reduceLeDiff, Int.natCast_succ, Post]
end Go.Fv.S
