/-
  A part of the proof of the claim: walks over the program's functions and the plain laws that these need. No condition of its own.
-/
import Derived.Test.YtodlgmmbfbiilaaGreatDoorHJoinCardPart9
import Derived.Test.YtodlgmmbfbiilaaGreatDoorHJoinCardPart11
import Derived.Test.YtodlgmmbfbiilaaGreatDoorHJoinCardPart12
import Derived.Test.YtodlgmmbfbiilaaGreatDoorHJoinCardPart10
import Derived.Test.YtodlgmmbfbiilaaGreatDoorHJoinCardPart6
import Derived.Test.YtodlgmmbfbiilaaGreatDoorHJoinCardPart1
import Derived.Test.YtodlgmmbfbiilaaGreatDoorFvPart10
import Derived.Test.YtodlgmmbfbiilaaGreatDoorHJoinCardPart7
/- The reference's Decode: the walk. -/
namespace Go.Fv.H
open Go Go.Proofs
set_option linter.unusedSimpArgs false
set_option linter.unusedVariables false
set_option linter.unnecessarySimpa false
set_option maxRecDepth 8000
theorem refDecNo_ok (e : Int) : FnOk Tryz.prog 70 [.int .i64 e] (.tup [.agg [.int .i64 0, .int .i64 0, .nilS], .int .i64 e]) [] := by
 refine FnOk.of_vc Tryz.func70 rfl (by decide) (by simp [Tryz.f70]) [.cell 2 24, .tmp 3] rfl fun w0 T0 _ => ?_
 simp only [Tryz.f70, argEnv]
 (repeat' with_reducible first | intro _ | refine rz ?_ | refine ra ?_ ?_ | omega | simp (maxSteps := 9^7) only [go_sem])
 refine Ret.auto 0 ?_ rfl ?_ <;> simp only [go_sem, Int.natCast_succ, Post]
theorem dK_first (s : Bytes) (h : 17 ≤ s.length) : (((s.getD 0 0).toNat : Nat) : Int) = (dK s : Int) := by
 cases s with
 | nil => simp at h
 | cons c s =>
  show ((c.toNat : Nat) : Int) = ((numB [c] : Nat) : Int)
  have : numB [c] = c.toNat := by show 0 * 256 + c.toNat = _; omega
  rw [this]
theorem dD_mid (s : Bytes) (h : 17 ≤ s.length) : (s.drop 9).take (s.length - 8 - 9) = dD s := by
 unfold dD
 rw [show s.length - 8 - 9 = s.length - 17 by omega]
theorem read_good (w h : Nat) (hw0 : 0 < w) (hw : w ≤ 4000) (hh : h ≤ 4000) (hwh : w * h ≤ 1048576) (d : Bytes) (hd : d.length ≤ 100000000) (kind : Int) (hk : 1 ≤ kind ∧ kind ≤ 4) (hq : (rpOf kind w h d).2 = true) :
  FnOk Tryz.prog 73 [.int .i64 kind, .str d, .int .i64 w, .int .i64 h] (.tup [.agg [.int .i64 w, .int .i64 h, .own 0], .bool true]) [(0, .row 4 (.bools (rpOf kind w h d).1))] := by
 have hc : kind = 4 ∨ kind = 1 ∨ kind = 2 ∨ kind = 3 := by omega
 rcases hc with rfl | rfl | rfl | rfl
 ·have e : rpOf 4 w h d = uaOut w h d (w * h) := rfl
  rw [e] at hq ⊢
  have k := read4_ok w h hw0 hw hh hwh d hd
  rw [hq] at k
  exact k
 ·have e : rpOf 1 w h d = plPage (w * h) (upB d) := rfl
  rw [e] at hq ⊢
  unfold plPage at hq ⊢
  split at hq
  ·cases hq
  ·rename_i hs
   rw [if_neg hs]
   exact read1_ok w h hw0 hw hh hwh d hd (by omega)
 ·have e : rpOf 2 w h d = rnPage w h (upB d) := rfl
  rw [e] at hq ⊢
  have k := read2_ok w h hw0 hw hh hwh d hd
  rw [hq] at k
  exact k
 ·have e : rpOf 3 w h d = lnPage h (List.replicate w false) (upB d) := rfl
  rw [e] at hq ⊢
  have k := read3_ok w h hw0 hw hh hwh d hd
  rw [hq] at k
  exact k
theorem read_bad (w h : Nat) (hw0 : 0 < w) (hw : w ≤ 4000) (hh : h ≤ 4000) (hwh : w * h ≤ 1048576) (d : Bytes) (hd : d.length ≤ 100000000) (kind : Int) (hk : 1 ≤ kind ∧ kind ≤ 4) (hq : (rpOf kind w h d).2 = false) :
  FnFr Tryz.prog 73 [.int .i64 kind, .str d, .int .i64 w, .int .i64 h] (.tup [.agg [.int .i64 w, .int .i64 h, .ro (.bools (rpOf kind w h d).1)], .bool false]) [] := by
 have hc : kind = 4 ∨ kind = 1 ∨ kind = 2 ∨ kind = 3 := by omega
 rcases hc with rfl | rfl | rfl | rfl
 ·have e : rpOf 4 w h d = uaOut w h d (w * h) := rfl
  rw [e] at hq ⊢
  have k := read4_ok w h hw0 hw hh hwh d hd
  rw [hq] at k
  exact FnFr.toRo (FnFr.of_ok k rfl rfl) (by simp [outOk, argOkL, allOk, argOk, argOkN, lk, noIdR_ok, nilRow])
 ·have e : rpOf 1 w h d = plPage (w * h) (upB d) := rfl
  rw [e] at hq ⊢
  unfold plPage at hq ⊢
  split at hq
  ·rename_i hs
   rw [if_pos hs]
   exact FnFr.toRo (FnFr.of_ok (read1_no w h hw0 hw hh hwh d hd hs) rfl rfl) (by simp [outOk, argOkL, allOk, argOk, argOkN, lk, noIdR_ok, nilRow])
  ·cases hq
 ·have e : rpOf 2 w h d = rnPage w h (upB d) := rfl
  rw [e] at hq ⊢
  have k := read2_ok w h hw0 hw hh hwh d hd
  rw [hq] at k
  exact FnFr.toRo (FnFr.of_ok k rfl rfl) (by simp [outOk, argOkL, allOk, argOk, argOkN, lk, noIdR_ok, nilRow])
 ·have e : rpOf 3 w h d = lnPage h (List.replicate w false) (upB d) := rfl
  rw [e] at hq ⊢
  have k := read3_ok w h hw0 hw hh hwh d hd
  rw [hq] at k
  exact FnFr.toRo (FnFr.of_ok k rfl rfl) (by simp [outOk, argOkL, allOk, argOk, argOkN, lk, noIdR_ok, nilRow])
set_option maxHeartbeats 8000000 in
theorem refDecode_e1 (s : Bytes) (hs : s.length ≤ 200000000000000) (h1 : 2097152 < s.length) : FnOk Tryz.prog 16 [.str s] (.tup [.agg [.int .i64 0, .int .i64 0, .nilS], .int .i64 4]) [] := by
 refine FnOk.of_vc Tryz.func16 rfl (by decide) (by simp [Tryz.f16]) [.cell 2 24, .tmp 3] rfl fun w0 T0 _ => ?_
 simp only [Tryz.f16, argEnv]
 have f1 : ((2097152 : Int) < (s.length : Int)) = True := eq_true (by omega)
 (repeat' with_reducible first | intro _ | refine rz ?_ | refine ra ?_ ?_ | omega | simp (maxSteps := 9^7) only [go_sem, f1])
 refine VcCall.k (refDecNo_ok 4) ?_
 (repeat' with_reducible first | intro _ | refine rz ?_ | refine ra ?_ ?_ | omega | simp (maxSteps := 9^7) only [go_sem])
 refine Ret.auto 0 ?_ rfl ?_ <;> simp only [go_sem, Int.natCast_succ, Post]
set_option maxHeartbeats 8000000 in
theorem refDecode_e2 (s : Bytes) (h1 : s.length ≤ 2097152) (h2 : s.length < 17 ∨ s.length ≠ 17 + dL s) : FnOk Tryz.prog 16 [.str s] (.tup [.agg [.int .i64 0, .int .i64 0, .nilS], .int .i64 8]) [] := by
 refine FnOk.of_vc Tryz.func16 rfl (by decide) (by simp [Tryz.f16]) [.cell 2 24, .tmp 3] rfl fun w0 T0 _ => ?_
 simp only [Tryz.f16, argEnv]
 have f1 : ((2097152 : Int) < (s.length : Int)) = False := eq_false (by omega)
 by_cases h17 : s.length < 17
 ·have f2 : ((s.length : Int) < 17) = True := eq_true (by omega)
  (repeat' with_reducible first | intro _ | refine rz ?_ | refine ra ?_ ?_ | omega | simp (maxSteps := 9^7) only [go_sem, f1, f2])
  refine VcCall.k (refDecNo_ok 8) ?_
  (repeat' with_reducible first | intro _ | refine rz ?_ | refine ra ?_ ?_ | omega | simp (maxSteps := 9^7) only [go_sem])
  refine Ret.auto 0 ?_ rfl ?_ <;> simp only [go_sem, Int.natCast_succ, Post]
 ·have f2 : ((s.length : Int) < 17) = False := eq_false (by omega)
  have kb := number_ok ((s.drop 5).take 4) (by rw [List.length_take]; omega)
  have hlt := dL_lt s
  rw [show numB ((s.drop 5).take 4) = dL s from rfl] at kb
  have f3 : ((s.length : Int) = 17 + (dL s : Int)) = False := eq_false (by omega)
  generalize dL s = L at *
  (repeat' with_reducible first | intro _ | refine rz ?_ | refine ra ?_ ?_ | omega | simp (maxSteps := 9^7) only [go_sem, f1, f2])
  refine VcCall.k kb ?_
  (repeat' with_reducible first | intro _ | refine rz ?_ | refine ra ?_ ?_ | omega | simp (maxSteps := 9^7) only [go_sem, f3])
  refine VcCall.k (refDecNo_ok 8) ?_
  (repeat' with_reducible first | intro _ | refine rz ?_ | refine ra ?_ ?_ | omega | simp (maxSteps := 9^7) only [go_sem])
  refine Ret.auto 0 ?_ rfl ?_ <;> simp only [go_sem, Int.natCast_succ, Post]
set_option maxHeartbeats 8000000 in
theorem refDecode_e3 (s : Bytes) (c : DCut s) (h3 : sumB (s.take (s.length - 8)) ≠ s.drop (s.length - 8)) : FnOk Tryz.prog 16 [.str s] (.tup [.agg [.int .i64 0, .int .i64 0, .nilS], .int .i64 14]) [] := by
 obtain ⟨c1, c2, c3⟩ := c
 have f1 : ((2097152 : Int) < (s.length : Int)) = False := eq_false (by omega)
 have f2 : ((s.length : Int) < 17) = False := eq_false (by omega)
 have kb := number_ok ((s.drop 5).take 4) (by rw [List.length_take]; omega)
 have kK := number_ok (s.take 1) (by rw [List.length_take]; omega)
 have kW := number_ok ((s.drop 1).take 2) (by rw [List.length_take]; omega)
 have kH := number_ok ((s.drop 3).take 2) (by rw [List.length_take]; omega)
 rw [show numB (s.take 1) = dK s from rfl] at kK
 rw [show numB ((s.drop 1).take 2) = dW s from rfl] at kW
 rw [show numB ((s.drop 3).take 2) = dH s from rfl] at kH
 have hlt := dL_lt s
 rw [show numB ((s.drop 5).take 4) = dL s from rfl] at kb
 have f3 : ((s.length : Int) = 17 + (dL s : Int)) = True := eq_true (by omega)
 have ks := refSumOf_ok (s.take (s.length - 8)) (by rw [List.length_take]; omega)
 have hal := cut_all s c1
 have e8 : (s.length : Int) - 8 = ((s.length - 8 : Nat) : Int) := by omega
 have htd : (s.drop (s.length - 8)).take (s.length - (s.length - 8)) = s.drop (s.length - 8) := List.take_of_length_le (by rw [List.length_drop]; exact Nat.le_refl _)
 have hKl := dK_lt s
 have hWl := dW_lt s
 have hHl := dH_lt s
 have hDl := dD_len s c1
 have f4 : (sumB (s.take (s.length - 8)) = s.drop (s.length - 8)) = False := eq_false h3
 generalize dL s = L at *
 refine FnOk.of_vc Tryz.func16 rfl (by decide) (by simp [Tryz.f16]) [.cell 2 24, .tmp 3] rfl fun w0 T0 _ => ?_
 simp only [Tryz.f16, argEnv]
 (repeat' with_reducible first | intro _ | refine rz ?_ | refine ra ?_ ?_ | omega | simp (maxSteps := 9^7) only [go_sem, f1, f2])
 refine VcCall.k kb ?_
 (repeat' with_reducible first | intro _ | refine rz ?_ | refine ra ?_ ?_ | omega | simp (maxSteps := 9^7) only [go_sem, f3, e8])
 refine VcDraw.lex [] [] (by kernel_rfl) (by kernel_rfl) ?_
 (repeat' with_reducible first | intro _ | refine rz ?_ | refine ra ?_ ?_ | omega | simp (maxSteps := 9^7) only [go_sem, Nat.sub_zero, hal, e8])
 (refine QV.intro (.str (sumB (s.take (s.length - 8)))) ?_ ?_; focus ((repeat' with_reducible first | intro _ | refine rz ?_ | refine ra ?_ ?_ | omega | simp (maxSteps := 9^7) only [go_sem]); refine VcCall.k (ks) ?_; (repeat' with_reducible first | intro _ | refine rz ?_ | refine ra ?_ ?_ | omega | simp (maxSteps := 9^7) only [go_sem])))
 (repeat' with_reducible first | intro _ | refine rz ?_ | refine ra ?_ ?_ | omega | simp (maxSteps := 9^7) only [go_sem, Nat.sub_zero, hal, htd, f4, e8])
 refine VcCall.k (refDecNo_ok 14) ?_
 (repeat' with_reducible first | intro _ | refine rz ?_ | refine ra ?_ ?_ | omega | simp (maxSteps := 9^7) only [go_sem])
 refine Ret.auto 0 ?_ rfl ?_ <;> simp only [go_sem, Int.natCast_succ, Post]
set_option maxHeartbeats 8000000 in
theorem refDecode_e4 (s : Bytes) (c : DCut s) (h3 : sumB (s.take (s.length - 8)) = s.drop (s.length - 8)) (h4 : ¬ (1 ≤ dK s ∧ dK s ≤ 4)) : FnOk Tryz.prog 16 [.str s] (.tup [.agg [.int .i64 0, .int .i64 0, .nilS], .int .i64 1]) [] := by
 obtain ⟨c1, c2, c3⟩ := c
 have f1 : ((2097152 : Int) < (s.length : Int)) = False := eq_false (by omega)
 have f2 : ((s.length : Int) < 17) = False := eq_false (by omega)
 have kb := number_ok ((s.drop 5).take 4) (by rw [List.length_take]; omega)
 have kK := number_ok (s.take 1) (by rw [List.length_take]; omega)
 have kW := number_ok ((s.drop 1).take 2) (by rw [List.length_take]; omega)
 have kH := number_ok ((s.drop 3).take 2) (by rw [List.length_take]; omega)
 rw [show numB (s.take 1) = dK s from rfl] at kK
 rw [show numB ((s.drop 1).take 2) = dW s from rfl] at kW
 rw [show numB ((s.drop 3).take 2) = dH s from rfl] at kH
 have hlt := dL_lt s
 rw [show numB ((s.drop 5).take 4) = dL s from rfl] at kb
 have f3 : ((s.length : Int) = 17 + (dL s : Int)) = True := eq_true (by omega)
 have ks := refSumOf_ok (s.take (s.length - 8)) (by rw [List.length_take]; omega)
 have hal := cut_all s c1
 have e8 : (s.length : Int) - 8 = ((s.length - 8 : Nat) : Int) := by omega
 have htd : (s.drop (s.length - 8)).take (s.length - (s.length - 8)) = s.drop (s.length - 8) := List.take_of_length_le (by rw [List.length_drop]; exact Nat.le_refl _)
 have hKl := dK_lt s
 have hWl := dW_lt s
 have hHl := dH_lt s
 have hDl := dD_len s c1
 have f4 : (sumB (s.take (s.length - 8)) = s.drop (s.length - 8)) = True := eq_true h3
 have hk0 := dK_first s c1
 generalize dL s = L at *
 refine FnOk.of_vc Tryz.func16 rfl (by decide) (by simp [Tryz.f16]) [.cell 2 24, .tmp 3] rfl fun w0 T0 _ => ?_
 simp only [Tryz.f16, argEnv]
 by_cases h1k : dK s < 1
 ·have fk1 : ((dK s : Int) < 1) = True := eq_true (by omega)
  have fk2 : (4 < (dK s : Int)) = False := eq_false (by omega)
  (repeat' with_reducible first | intro _ | refine rz ?_ | refine ra ?_ ?_ | omega | simp (maxSteps := 9^7) only [go_sem, f1, f2])
  refine VcCall.k kb ?_
  (repeat' with_reducible first | intro _ | refine rz ?_ | refine ra ?_ ?_ | omega | simp (maxSteps := 9^7) only [go_sem, f3, e8])
  refine VcDraw.lex [] [] (by kernel_rfl) (by kernel_rfl) ?_
  (repeat' with_reducible first | intro _ | refine rz ?_ | refine ra ?_ ?_ | omega | simp (maxSteps := 9^7) only [go_sem, Nat.sub_zero, hal, e8])
  (refine QV.intro (.str (sumB (s.take (s.length - 8)))) ?_ ?_; focus ((repeat' with_reducible first | intro _ | refine rz ?_ | refine ra ?_ ?_ | omega | simp (maxSteps := 9^7) only [go_sem]); refine VcCall.k (ks) ?_; (repeat' with_reducible first | intro _ | refine rz ?_ | refine ra ?_ ?_ | omega | simp (maxSteps := 9^7) only [go_sem])))
  (repeat' with_reducible first | intro _ | refine rz ?_ | refine ra ?_ ?_ | omega | simp (maxSteps := 9^7) only [go_sem, Nat.sub_zero, hal, htd, f4, e8])
  refine VcDraw.lex [] [] (by kernel_rfl) (by kernel_rfl) ?_
  (repeat' with_reducible first | intro _ | refine rz ?_ | refine ra ?_ ?_ | omega | simp (maxSteps := 9^7) only [go_sem, hk0])
  (refine QV.intro (.int .i64 (dW s)) ?_ ?_; focus ((repeat' with_reducible first | intro _ | refine rz ?_ | refine ra ?_ ?_ | omega | simp (maxSteps := 9^7) only [go_sem]); refine VcCall.k (kW) ?_; (repeat' with_reducible first | intro _ | refine rz ?_ | refine ra ?_ ?_ | omega | simp (maxSteps := 9^7) only [go_sem])))
  (repeat' with_reducible first | intro _ | refine rz ?_ | refine ra ?_ ?_ | omega | simp (maxSteps := 9^7) only [go_sem])
  (refine QV.intro (.int .i64 (dH s)) ?_ ?_; focus ((repeat' with_reducible first | intro _ | refine rz ?_ | refine ra ?_ ?_ | omega | simp (maxSteps := 9^7) only [go_sem]); refine VcCall.k (kH) ?_; (repeat' with_reducible first | intro _ | refine rz ?_ | refine ra ?_ ?_ | omega | simp (maxSteps := 9^7) only [go_sem])))
  (repeat' with_reducible first | intro _ | refine rz ?_ | refine ra ?_ ?_ | omega | simp (maxSteps := 9^7) only [go_sem, fk1, fk2])
  refine VcCall.k (refDecNo_ok 1) ?_
  (repeat' with_reducible first | intro _ | refine rz ?_ | refine ra ?_ ?_ | omega | simp (maxSteps := 9^7) only [go_sem])
  refine Ret.auto 0 ?_ rfl ?_ <;> simp only [go_sem, Int.natCast_succ, Post]
 ·have fk1 : ((dK s : Int) < 1) = False := eq_false (by omega)
  have fk2 : (4 < (dK s : Int)) = True := eq_true (by omega)
  (repeat' with_reducible first | intro _ | refine rz ?_ | refine ra ?_ ?_ | omega | simp (maxSteps := 9^7) only [go_sem, f1, f2])
  refine VcCall.k kb ?_
  (repeat' with_reducible first | intro _ | refine rz ?_ | refine ra ?_ ?_ | omega | simp (maxSteps := 9^7) only [go_sem, f3, e8])
  refine VcDraw.lex [] [] (by kernel_rfl) (by kernel_rfl) ?_
  (repeat' with_reducible first | intro _ | refine rz ?_ | refine ra ?_ ?_ | omega | simp (maxSteps := 9^7) only [go_sem, Nat.sub_zero, hal, e8])
  (refine QV.intro (.str (sumB (s.take (s.length - 8)))) ?_ ?_; focus ((repeat' with_reducible first | intro _ | refine rz ?_ | refine ra ?_ ?_ | omega | simp (maxSteps := 9^7) only [go_sem]); refine VcCall.k (ks) ?_; (repeat' with_reducible first | intro _ | refine rz ?_ | refine ra ?_ ?_ | omega | simp (maxSteps := 9^7) only [go_sem])))
  (repeat' with_reducible first | intro _ | refine rz ?_ | refine ra ?_ ?_ | omega | simp (maxSteps := 9^7) only [go_sem, Nat.sub_zero, hal, htd, f4, e8])
  refine VcDraw.lex [] [] (by kernel_rfl) (by kernel_rfl) ?_
  (repeat' with_reducible first | intro _ | refine rz ?_ | refine ra ?_ ?_ | omega | simp (maxSteps := 9^7) only [go_sem, hk0])
  (refine QV.intro (.int .i64 (dW s)) ?_ ?_; focus ((repeat' with_reducible first | intro _ | refine rz ?_ | refine ra ?_ ?_ | omega | simp (maxSteps := 9^7) only [go_sem]); refine VcCall.k (kW) ?_; (repeat' with_reducible first | intro _ | refine rz ?_ | refine ra ?_ ?_ | omega | simp (maxSteps := 9^7) only [go_sem])))
  (repeat' with_reducible first | intro _ | refine rz ?_ | refine ra ?_ ?_ | omega | simp (maxSteps := 9^7) only [go_sem])
  (refine QV.intro (.int .i64 (dH s)) ?_ ?_; focus ((repeat' with_reducible first | intro _ | refine rz ?_ | refine ra ?_ ?_ | omega | simp (maxSteps := 9^7) only [go_sem]); refine VcCall.k (kH) ?_; (repeat' with_reducible first | intro _ | refine rz ?_ | refine ra ?_ ?_ | omega | simp (maxSteps := 9^7) only [go_sem])))
  (repeat' with_reducible first | intro _ | refine rz ?_ | refine ra ?_ ?_ | omega | simp (maxSteps := 9^7) only [go_sem, fk1, fk2])
  refine VcCall.k (refDecNo_ok 1) ?_
  (repeat' with_reducible first | intro _ | refine rz ?_ | refine ra ?_ ?_ | omega | simp (maxSteps := 9^7) only [go_sem])
  refine Ret.auto 0 ?_ rfl ?_ <;> simp only [go_sem, Int.natCast_succ, Post]
set_option maxHeartbeats 8000000 in
theorem refDecode_e5 (s : Bytes) (c : DCut s) (h3 : sumB (s.take (s.length - 8)) = s.drop (s.length - 8)) (h4 : 1 ≤ dK s ∧ dK s ≤ 4) (h5 : sizeErr (dW s) (dH s) ≠ 0) : FnOk Tryz.prog 16 [.str s] (.tup [.agg [.int .i64 0, .int .i64 0, .nilS], .int .i64 (sizeErr (dW s) (dH s))]) [] := by
 obtain ⟨c1, c2, c3⟩ := c
 have f1 : ((2097152 : Int) < (s.length : Int)) = False := eq_false (by omega)
 have f2 : ((s.length : Int) < 17) = False := eq_false (by omega)
 have kb := number_ok ((s.drop 5).take 4) (by rw [List.length_take]; omega)
 have kK := number_ok (s.take 1) (by rw [List.length_take]; omega)
 have kW := number_ok ((s.drop 1).take 2) (by rw [List.length_take]; omega)
 have kH := number_ok ((s.drop 3).take 2) (by rw [List.length_take]; omega)
 rw [show numB (s.take 1) = dK s from rfl] at kK
 rw [show numB ((s.drop 1).take 2) = dW s from rfl] at kW
 rw [show numB ((s.drop 3).take 2) = dH s from rfl] at kH
 have hlt := dL_lt s
 rw [show numB ((s.drop 5).take 4) = dL s from rfl] at kb
 have f3 : ((s.length : Int) = 17 + (dL s : Int)) = True := eq_true (by omega)
 have ks := refSumOf_ok (s.take (s.length - 8)) (by rw [List.length_take]; omega)
 have hal := cut_all s c1
 have e8 : (s.length : Int) - 8 = ((s.length - 8 : Nat) : Int) := by omega
 have htd : (s.drop (s.length - 8)).take (s.length - (s.length - 8)) = s.drop (s.length - 8) := List.take_of_length_le (by rw [List.length_drop]; exact Nat.le_refl _)
 have hKl := dK_lt s
 have hWl := dW_lt s
 have hHl := dH_lt s
 have hDl := dD_len s c1
 have f4 : (sumB (s.take (s.length - 8)) = s.drop (s.length - 8)) = True := eq_true h3
 have hk0 := dK_first s c1
 have fk1 : ((dK s : Int) < 1) = False := eq_false (by omega)
 have fk2 : (4 < (dK s : Int)) = False := eq_false (by omega)
 have kz := refSize_ok (dW s) (dH s)
 generalize sizeErr (dW s) (dH s) = z at *
 have f5 : (z = 0) = False := eq_false h5
 generalize dL s = L at *
 refine FnOk.of_vc Tryz.func16 rfl (by decide) (by simp [Tryz.f16]) [.cell 2 24, .tmp 3] rfl fun w0 T0 _ => ?_
 simp only [Tryz.f16, argEnv]
 (repeat' with_reducible first | intro _ | refine rz ?_ | refine ra ?_ ?_ | omega | simp (maxSteps := 9^7) only [go_sem, f1, f2])
 refine VcCall.k kb ?_
 (repeat' with_reducible first | intro _ | refine rz ?_ | refine ra ?_ ?_ | omega | simp (maxSteps := 9^7) only [go_sem, f3, e8])
 refine VcDraw.lex [] [] (by kernel_rfl) (by kernel_rfl) ?_
 (repeat' with_reducible first | intro _ | refine rz ?_ | refine ra ?_ ?_ | omega | simp (maxSteps := 9^7) only [go_sem, Nat.sub_zero, hal, e8])
 (refine QV.intro (.str (sumB (s.take (s.length - 8)))) ?_ ?_; focus ((repeat' with_reducible first | intro _ | refine rz ?_ | refine ra ?_ ?_ | omega | simp (maxSteps := 9^7) only [go_sem]); refine VcCall.k (ks) ?_; (repeat' with_reducible first | intro _ | refine rz ?_ | refine ra ?_ ?_ | omega | simp (maxSteps := 9^7) only [go_sem])))
 (repeat' with_reducible first | intro _ | refine rz ?_ | refine ra ?_ ?_ | omega | simp (maxSteps := 9^7) only [go_sem, Nat.sub_zero, hal, htd, f4, e8])
 refine VcDraw.lex [] [] (by kernel_rfl) (by kernel_rfl) ?_
 (repeat' with_reducible first | intro _ | refine rz ?_ | refine ra ?_ ?_ | omega | simp (maxSteps := 9^7) only [go_sem, hk0])
 (refine QV.intro (.int .i64 (dW s)) ?_ ?_; focus ((repeat' with_reducible first | intro _ | refine rz ?_ | refine ra ?_ ?_ | omega | simp (maxSteps := 9^7) only [go_sem]); refine VcCall.k (kW) ?_; (repeat' with_reducible first | intro _ | refine rz ?_ | refine ra ?_ ?_ | omega | simp (maxSteps := 9^7) only [go_sem])))
 (repeat' with_reducible first | intro _ | refine rz ?_ | refine ra ?_ ?_ | omega | simp (maxSteps := 9^7) only [go_sem])
 (refine QV.intro (.int .i64 (dH s)) ?_ ?_; focus ((repeat' with_reducible first | intro _ | refine rz ?_ | refine ra ?_ ?_ | omega | simp (maxSteps := 9^7) only [go_sem]); refine VcCall.k (kH) ?_; (repeat' with_reducible first | intro _ | refine rz ?_ | refine ra ?_ ?_ | omega | simp (maxSteps := 9^7) only [go_sem])))
 (repeat' with_reducible first | intro _ | refine rz ?_ | refine ra ?_ ?_ | omega | simp (maxSteps := 9^7) only [go_sem, fk1, fk2])
 refine VcCall.k kz ?_
 (repeat' with_reducible first | intro _ | refine rz ?_ | refine ra ?_ ?_ | omega | simp (maxSteps := 9^7) only [go_sem, f5])
 refine VcCall.k (refDecNo_ok z) ?_
 (repeat' with_reducible first | intro _ | refine rz ?_ | refine ra ?_ ?_ | omega | simp (maxSteps := 9^7) only [go_sem])
 refine Ret.auto 0 ?_ rfl ?_ <;> simp only [go_sem, Int.natCast_succ, Post]
set_option maxHeartbeats 8000000 in
theorem refDecode_e6 (s : Bytes) (c : DCut s) (h3 : sumB (s.take (s.length - 8)) = s.drop (s.length - 8)) (h4 : 1 ≤ dK s ∧ dK s ≤ 4) (h5 : sizeErr (dW s) (dH s) = 0) (h6 : (rPg s).2 = false) : FnOk Tryz.prog 16 [.str s] (.tup [.agg [.int .i64 0, .int .i64 0, .nilS], .int .i64 8]) [] := by
 obtain ⟨c1, c2, c3⟩ := c
 have f1 : ((2097152 : Int) < (s.length : Int)) = False := eq_false (by omega)
 have f2 : ((s.length : Int) < 17) = False := eq_false (by omega)
 have kb := number_ok ((s.drop 5).take 4) (by rw [List.length_take]; omega)
 have kK := number_ok (s.take 1) (by rw [List.length_take]; omega)
 have kW := number_ok ((s.drop 1).take 2) (by rw [List.length_take]; omega)
 have kH := number_ok ((s.drop 3).take 2) (by rw [List.length_take]; omega)
 rw [show numB (s.take 1) = dK s from rfl] at kK
 rw [show numB ((s.drop 1).take 2) = dW s from rfl] at kW
 rw [show numB ((s.drop 3).take 2) = dH s from rfl] at kH
 have hlt := dL_lt s
 rw [show numB ((s.drop 5).take 4) = dL s from rfl] at kb
 have f3 : ((s.length : Int) = 17 + (dL s : Int)) = True := eq_true (by omega)
 have ks := refSumOf_ok (s.take (s.length - 8)) (by rw [List.length_take]; omega)
 have hal := cut_all s c1
 have e8 : (s.length : Int) - 8 = ((s.length - 8 : Nat) : Int) := by omega
 have htd : (s.drop (s.length - 8)).take (s.length - (s.length - 8)) = s.drop (s.length - 8) := List.take_of_length_le (by rw [List.length_drop]; exact Nat.le_refl _)
 have hKl := dK_lt s
 have hWl := dW_lt s
 have hHl := dH_lt s
 have hDl := dD_len s c1
 have f4 : (sumB (s.take (s.length - 8)) = s.drop (s.length - 8)) = True := eq_true h3
 have hk0 := dK_first s c1
 have fk1 : ((dK s : Int) < 1) = False := eq_false (by omega)
 have fk2 : (4 < (dK s : Int)) = False := eq_false (by omega)
 have kz := refSize_ok (dW s) (dH s)
 have hz := sizeErr_zero h5
 have hwh : ((dW s : Int) * (dH s : Int)) = ((dW s * dH s : Nat) : Int) := (Int.natCast_mul _ _).symm
 rw [hwh] at hz
 rw [h5] at kz
 have kp := read_bad (dW s) (dH s) (by omega) (by omega) (by omega) (by omega) (dD s) (by omega) (dK s) (by omega) h6
 have hcut := dD_mid s c1
 have hp : rpOf (dK s) (dW s) (dH s) (dD s) = rPg s := rfl
 rw [hp] at kp
 generalize rPg s = q at *
 generalize dD s = d at *
 generalize dL s = L at *
 refine FnOk.of_vc Tryz.func16 rfl (by decide) (by simp [Tryz.f16]) [.cell 2 24, .tmp 3] rfl fun w0 T0 _ => ?_
 simp only [Tryz.f16, argEnv]
 (repeat' with_reducible first | intro _ | refine rz ?_ | refine ra ?_ ?_ | omega | simp (maxSteps := 9^7) only [go_sem, f1, f2])
 refine VcCall.k kb ?_
 (repeat' with_reducible first | intro _ | refine rz ?_ | refine ra ?_ ?_ | omega | simp (maxSteps := 9^7) only [go_sem, f3, e8])
 refine VcDraw.lex [] [] (by kernel_rfl) (by kernel_rfl) ?_
 (repeat' with_reducible first | intro _ | refine rz ?_ | refine ra ?_ ?_ | omega | simp (maxSteps := 9^7) only [go_sem, Nat.sub_zero, hal, e8])
 (refine QV.intro (.str (sumB (s.take (s.length - 8)))) ?_ ?_; focus ((repeat' with_reducible first | intro _ | refine rz ?_ | refine ra ?_ ?_ | omega | simp (maxSteps := 9^7) only [go_sem]); refine VcCall.k (ks) ?_; (repeat' with_reducible first | intro _ | refine rz ?_ | refine ra ?_ ?_ | omega | simp (maxSteps := 9^7) only [go_sem])))
 (repeat' with_reducible first | intro _ | refine rz ?_ | refine ra ?_ ?_ | omega | simp (maxSteps := 9^7) only [go_sem, Nat.sub_zero, hal, htd, f4, e8])
 refine VcDraw.lex [] [] (by kernel_rfl) (by kernel_rfl) ?_
 (repeat' with_reducible first | intro _ | refine rz ?_ | refine ra ?_ ?_ | omega | simp (maxSteps := 9^7) only [go_sem, hk0])
 (refine QV.intro (.int .i64 (dW s)) ?_ ?_; focus ((repeat' with_reducible first | intro _ | refine rz ?_ | refine ra ?_ ?_ | omega | simp (maxSteps := 9^7) only [go_sem]); refine VcCall.k (kW) ?_; (repeat' with_reducible first | intro _ | refine rz ?_ | refine ra ?_ ?_ | omega | simp (maxSteps := 9^7) only [go_sem])))
 (repeat' with_reducible first | intro _ | refine rz ?_ | refine ra ?_ ?_ | omega | simp (maxSteps := 9^7) only [go_sem])
 (refine QV.intro (.int .i64 (dH s)) ?_ ?_; focus ((repeat' with_reducible first | intro _ | refine rz ?_ | refine ra ?_ ?_ | omega | simp (maxSteps := 9^7) only [go_sem]); refine VcCall.k (kH) ?_; (repeat' with_reducible first | intro _ | refine rz ?_ | refine ra ?_ ?_ | omega | simp (maxSteps := 9^7) only [go_sem])))
 (repeat' with_reducible first | intro _ | refine rz ?_ | refine ra ?_ ?_ | omega | simp (maxSteps := 9^7) only [go_sem, fk1, fk2])
 refine VcCall.k kz ?_
 (repeat' with_reducible first | intro _ | refine rz ?_ | refine ra ?_ ?_ | omega | simp (maxSteps := 9^7) only [go_sem, hal, hcut, e8])
 refine VcCall.f kp 0 ?_
 (repeat' with_reducible first | intro _ | refine rz ?_ | refine ra ?_ ?_ | omega | simp (maxSteps := 9^7) only [go_sem])
 refine VcCall.k (refDecNo_ok 8) ?_
 (repeat' with_reducible first | intro _ | refine rz ?_ | refine ra ?_ ?_ | omega | simp (maxSteps := 9^7) only [go_sem])
 refine Ret.auto 0 ?_ rfl ?_ <;> simp only [go_sem, Int.natCast_succ, Post]
set_option maxHeartbeats 8000000 in
theorem refDecode_e7 (s : Bytes) (c : DCut s) (h3 : sumB (s.take (s.length - 8)) = s.drop (s.length - 8)) (h4 : 1 ≤ dK s ∧ dK s ≤ 4) (h5 : sizeErr (dW s) (dH s) = 0) (h6 : (rPg s).2 = true) (h7 : ¬ encB (dW s) (dH s) (rPg s).1 (dK s) = s) : FnOk Tryz.prog 16 [.str s] (.tup [.agg [.int .i64 0, .int .i64 0, .nilS], .int .i64 8]) [] := by
 obtain ⟨c1, c2, c3⟩ := c
 have f1 : ((2097152 : Int) < (s.length : Int)) = False := eq_false (by omega)
 have f2 : ((s.length : Int) < 17) = False := eq_false (by omega)
 have kb := number_ok ((s.drop 5).take 4) (by rw [List.length_take]; omega)
 have kK := number_ok (s.take 1) (by rw [List.length_take]; omega)
 have kW := number_ok ((s.drop 1).take 2) (by rw [List.length_take]; omega)
 have kH := number_ok ((s.drop 3).take 2) (by rw [List.length_take]; omega)
 rw [show numB (s.take 1) = dK s from rfl] at kK
 rw [show numB ((s.drop 1).take 2) = dW s from rfl] at kW
 rw [show numB ((s.drop 3).take 2) = dH s from rfl] at kH
 have hlt := dL_lt s
 rw [show numB ((s.drop 5).take 4) = dL s from rfl] at kb
 have f3 : ((s.length : Int) = 17 + (dL s : Int)) = True := eq_true (by omega)
 have ks := refSumOf_ok (s.take (s.length - 8)) (by rw [List.length_take]; omega)
 have hal := cut_all s c1
 have e8 : (s.length : Int) - 8 = ((s.length - 8 : Nat) : Int) := by omega
 have htd : (s.drop (s.length - 8)).take (s.length - (s.length - 8)) = s.drop (s.length - 8) := List.take_of_length_le (by rw [List.length_drop]; exact Nat.le_refl _)
 have hKl := dK_lt s
 have hWl := dW_lt s
 have hHl := dH_lt s
 have hDl := dD_len s c1
 have f4 : (sumB (s.take (s.length - 8)) = s.drop (s.length - 8)) = True := eq_true h3
 have hk0 := dK_first s c1
 have fk1 : ((dK s : Int) < 1) = False := eq_false (by omega)
 have fk2 : (4 < (dK s : Int)) = False := eq_false (by omega)
 have kz := refSize_ok (dW s) (dH s)
 have hz := sizeErr_zero h5
 have hwh : ((dW s : Int) * (dH s : Int)) = ((dW s * dH s : Nat) : Int) := (Int.natCast_mul _ _).symm
 rw [hwh] at hz
 rw [h5] at kz
 have kp := read_good (dW s) (dH s) (by omega) (by omega) (by omega) (by omega) (dD s) (by omega) (dK s) (by omega) h6
 have hcut := dD_mid s c1
 have hp : rpOf (dK s) (dW s) (dH s) (dD s) = rPg s := rfl
 rw [hp] at kp
 have hpl : (rPg s).1.length = dW s * dH s := rpOf_len h6
 have ke := refEncode_ok (dW s) (dH s) (by omega) (by omega) (by omega) (by omega) (rPg s).1 hpl (dK s) (by omega)
 have f9 : (encB (dW s) (dH s) (rPg s).1 (dK s) = s) = False := eq_false h7
 generalize encB (dW s) (dH s) (rPg s).1 (dK s) = E at *
 generalize rPg s = q at *
 generalize dD s = d at *
 generalize dL s = L at *
 refine FnOk.of_vc Tryz.func16 rfl (by decide) (by simp [Tryz.f16]) [.cell 2 24, .tmp 3] rfl fun w0 T0 _ => ?_
 simp only [Tryz.f16, argEnv]
 (repeat' with_reducible first | intro _ | refine rz ?_ | refine ra ?_ ?_ | omega | simp (maxSteps := 9^7) only [go_sem, f1, f2])
 refine VcCall.k kb ?_
 (repeat' with_reducible first | intro _ | refine rz ?_ | refine ra ?_ ?_ | omega | simp (maxSteps := 9^7) only [go_sem, f3, e8])
 refine VcDraw.lex [] [] (by kernel_rfl) (by kernel_rfl) ?_
 (repeat' with_reducible first | intro _ | refine rz ?_ | refine ra ?_ ?_ | omega | simp (maxSteps := 9^7) only [go_sem, Nat.sub_zero, hal, e8])
 (refine QV.intro (.str (sumB (s.take (s.length - 8)))) ?_ ?_; focus ((repeat' with_reducible first | intro _ | refine rz ?_ | refine ra ?_ ?_ | omega | simp (maxSteps := 9^7) only [go_sem]); refine VcCall.k (ks) ?_; (repeat' with_reducible first | intro _ | refine rz ?_ | refine ra ?_ ?_ | omega | simp (maxSteps := 9^7) only [go_sem])))
 (repeat' with_reducible first | intro _ | refine rz ?_ | refine ra ?_ ?_ | omega | simp (maxSteps := 9^7) only [go_sem, Nat.sub_zero, hal, htd, f4, e8])
 refine VcDraw.lex [] [] (by kernel_rfl) (by kernel_rfl) ?_
 (repeat' with_reducible first | intro _ | refine rz ?_ | refine ra ?_ ?_ | omega | simp (maxSteps := 9^7) only [go_sem, hk0])
 (refine QV.intro (.int .i64 (dW s)) ?_ ?_; focus ((repeat' with_reducible first | intro _ | refine rz ?_ | refine ra ?_ ?_ | omega | simp (maxSteps := 9^7) only [go_sem]); refine VcCall.k (kW) ?_; (repeat' with_reducible first | intro _ | refine rz ?_ | refine ra ?_ ?_ | omega | simp (maxSteps := 9^7) only [go_sem])))
 (repeat' with_reducible first | intro _ | refine rz ?_ | refine ra ?_ ?_ | omega | simp (maxSteps := 9^7) only [go_sem])
 (refine QV.intro (.int .i64 (dH s)) ?_ ?_; focus ((repeat' with_reducible first | intro _ | refine rz ?_ | refine ra ?_ ?_ | omega | simp (maxSteps := 9^7) only [go_sem]); refine VcCall.k (kH) ?_; (repeat' with_reducible first | intro _ | refine rz ?_ | refine ra ?_ ?_ | omega | simp (maxSteps := 9^7) only [go_sem])))
 (repeat' with_reducible first | intro _ | refine rz ?_ | refine ra ?_ ?_ | omega | simp (maxSteps := 9^7) only [go_sem, fk1, fk2])
 refine VcCall.k kz ?_
 (repeat' with_reducible first | intro _ | refine rz ?_ | refine ra ?_ ?_ | omega | simp (maxSteps := 9^7) only [go_sem, hal, hcut, e8])
 refine VcCall.o kp 1 ?_
 (repeat' with_reducible first | intro _ | refine rz ?_ | refine ra ?_ ?_ | omega | simp (maxSteps := 9^7) only [go_sem])
 refine VcCall.k ke ?_
 (repeat' with_reducible first | intro _ | refine rz ?_ | refine ra ?_ ?_ | omega | simp (maxSteps := 9^7) only [go_sem, f9])
 refine VcCall.k (refDecNo_ok 8) ?_
 (repeat' with_reducible first | intro _ | refine rz ?_ | refine ra ?_ ?_ | omega | simp (maxSteps := 9^7) only [go_sem])
 refine Ret.auto 0 ?_ rfl ?_ <;> simp only [go_sem, Int.natCast_succ, Post]
set_option maxHeartbeats 8000000 in
theorem refDecode_ok (s : Bytes) (c : DCut s) (h3 : sumB (s.take (s.length - 8)) = s.drop (s.length - 8)) (h4 : 1 ≤ dK s ∧ dK s ≤ 4) (h5 : sizeErr (dW s) (dH s) = 0) (h6 : (rPg s).2 = true) (h7 : encB (dW s) (dH s) (rPg s).1 (dK s) = s) : FnOk Tryz.prog 16 [.str s] (.tup [.agg [.int .i64 (dW s), .int .i64 (dH s), .own 0], .int .i64 0]) [(0, .row 4 (.bools (rPg s).1))] := by
 obtain ⟨c1, c2, c3⟩ := c
 have f1 : ((2097152 : Int) < (s.length : Int)) = False := eq_false (by omega)
 have f2 : ((s.length : Int) < 17) = False := eq_false (by omega)
 have kb := number_ok ((s.drop 5).take 4) (by rw [List.length_take]; omega)
 have kK := number_ok (s.take 1) (by rw [List.length_take]; omega)
 have kW := number_ok ((s.drop 1).take 2) (by rw [List.length_take]; omega)
 have kH := number_ok ((s.drop 3).take 2) (by rw [List.length_take]; omega)
 rw [show numB (s.take 1) = dK s from rfl] at kK
 rw [show numB ((s.drop 1).take 2) = dW s from rfl] at kW
 rw [show numB ((s.drop 3).take 2) = dH s from rfl] at kH
 have hlt := dL_lt s
 rw [show numB ((s.drop 5).take 4) = dL s from rfl] at kb
 have f3 : ((s.length : Int) = 17 + (dL s : Int)) = True := eq_true (by omega)
 have ks := refSumOf_ok (s.take (s.length - 8)) (by rw [List.length_take]; omega)
 have hal := cut_all s c1
 have e8 : (s.length : Int) - 8 = ((s.length - 8 : Nat) : Int) := by omega
 have htd : (s.drop (s.length - 8)).take (s.length - (s.length - 8)) = s.drop (s.length - 8) := List.take_of_length_le (by rw [List.length_drop]; exact Nat.le_refl _)
 have hKl := dK_lt s
 have hWl := dW_lt s
 have hHl := dH_lt s
 have hDl := dD_len s c1
 have f4 : (sumB (s.take (s.length - 8)) = s.drop (s.length - 8)) = True := eq_true h3
 have hk0 := dK_first s c1
 have fk1 : ((dK s : Int) < 1) = False := eq_false (by omega)
 have fk2 : (4 < (dK s : Int)) = False := eq_false (by omega)
 have kz := refSize_ok (dW s) (dH s)
 have hz := sizeErr_zero h5
 have hwh : ((dW s : Int) * (dH s : Int)) = ((dW s * dH s : Nat) : Int) := (Int.natCast_mul _ _).symm
 rw [hwh] at hz
 rw [h5] at kz
 have kp := read_good (dW s) (dH s) (by omega) (by omega) (by omega) (by omega) (dD s) (by omega) (dK s) (by omega) h6
 have hcut := dD_mid s c1
 have hp : rpOf (dK s) (dW s) (dH s) (dD s) = rPg s := rfl
 rw [hp] at kp
 have hpl : (rPg s).1.length = dW s * dH s := rpOf_len h6
 have ke := refEncode_ok (dW s) (dH s) (by omega) (by omega) (by omega) (by omega) (rPg s).1 hpl (dK s) (by omega)
 have f9 : (encB (dW s) (dH s) (rPg s).1 (dK s) = s) = True := eq_true h7
 generalize encB (dW s) (dH s) (rPg s).1 (dK s) = E at *
 generalize rPg s = q at *
 generalize dD s = d at *
 generalize dL s = L at *
 refine FnOk.of_vc Tryz.func16 rfl (by decide) (by simp [Tryz.f16]) [.cell 2 24, .tmp 3] rfl fun w0 T0 _ => ?_
 simp only [Tryz.f16, argEnv]
 (repeat' with_reducible first | intro _ | refine rz ?_ | refine ra ?_ ?_ | omega | simp (maxSteps := 9^7) only [go_sem, f1, f2])
 refine VcCall.k kb ?_
 (repeat' with_reducible first | intro _ | refine rz ?_ | refine ra ?_ ?_ | omega | simp (maxSteps := 9^7) only [go_sem, f3, e8])
 refine VcDraw.lex [] [] (by kernel_rfl) (by kernel_rfl) ?_
 (repeat' with_reducible first | intro _ | refine rz ?_ | refine ra ?_ ?_ | omega | simp (maxSteps := 9^7) only [go_sem, Nat.sub_zero, hal, e8])
 (refine QV.intro (.str (sumB (s.take (s.length - 8)))) ?_ ?_; focus ((repeat' with_reducible first | intro _ | refine rz ?_ | refine ra ?_ ?_ | omega | simp (maxSteps := 9^7) only [go_sem]); refine VcCall.k (ks) ?_; (repeat' with_reducible first | intro _ | refine rz ?_ | refine ra ?_ ?_ | omega | simp (maxSteps := 9^7) only [go_sem])))
 (repeat' with_reducible first | intro _ | refine rz ?_ | refine ra ?_ ?_ | omega | simp (maxSteps := 9^7) only [go_sem, Nat.sub_zero, hal, htd, f4, e8])
 refine VcDraw.lex [] [] (by kernel_rfl) (by kernel_rfl) ?_
 (repeat' with_reducible first | intro _ | refine rz ?_ | refine ra ?_ ?_ | omega | simp (maxSteps := 9^7) only [go_sem, hk0])
 (refine QV.intro (.int .i64 (dW s)) ?_ ?_; focus ((repeat' with_reducible first | intro _ | refine rz ?_ | refine ra ?_ ?_ | omega | simp (maxSteps := 9^7) only [go_sem]); refine VcCall.k (kW) ?_; (repeat' with_reducible first | intro _ | refine rz ?_ | refine ra ?_ ?_ | omega | simp (maxSteps := 9^7) only [go_sem])))
 (repeat' with_reducible first | intro _ | refine rz ?_ | refine ra ?_ ?_ | omega | simp (maxSteps := 9^7) only [go_sem])
 (refine QV.intro (.int .i64 (dH s)) ?_ ?_; focus ((repeat' with_reducible first | intro _ | refine rz ?_ | refine ra ?_ ?_ | omega | simp (maxSteps := 9^7) only [go_sem]); refine VcCall.k (kH) ?_; (repeat' with_reducible first | intro _ | refine rz ?_ | refine ra ?_ ?_ | omega | simp (maxSteps := 9^7) only [go_sem])))
 (repeat' with_reducible first | intro _ | refine rz ?_ | refine ra ?_ ?_ | omega | simp (maxSteps := 9^7) only [go_sem, fk1, fk2])
 refine VcCall.k kz ?_
 (repeat' with_reducible first | intro _ | refine rz ?_ | refine ra ?_ ?_ | omega | simp (maxSteps := 9^7) only [go_sem, hal, hcut, e8])
 refine VcCall.o kp 1 ?_
 (repeat' with_reducible first | intro _ | refine rz ?_ | refine ra ?_ ?_ | omega | simp (maxSteps := 9^7) only [go_sem])
 refine VcCall.k ke ?_
 (repeat' with_reducible first | intro _ | refine rz ?_ | refine ra ?_ ?_ | omega | simp (maxSteps := 9^7) only [go_sem, f9])
 refine Ret.auto 1 ?_ rfl ?_ <;> simp only [go_sem, Int.natCast_succ, Post]
theorem refDecode_fr (s : Bytes) (hs : s.length ≤ 200000000000000) : FnFr Tryz.prog 16 [.str s] (dqA (decR s)) [] := by
 unfold decR
 have no : ∀ e, FnOk Tryz.prog 16 [.str s] (.tup [.agg [.int .i64 0, .int .i64 0, .nilS], .int .i64 e]) [] → FnFr Tryz.prog 16 [.str s] (dqA (dNo e)) [] := fun e k =>
  FnFr.toRo (FnFr.of_ok k rfl rfl) (by simp [dqA, dNo, outOk, argOkL, allOk, argOk, argOkN, lk, noIdR_ok, nilRow])
 by_cases h1 : 2097152 < s.length
 ·rw [if_pos h1]; exact no _ (refDecode_e1 s hs h1)
 rw [if_neg h1]
 by_cases h2 : s.length < 17 ∨ s.length ≠ 17 + dL s
 ·rw [if_pos h2]; exact no _ (refDecode_e2 s (by omega) h2)
 rw [if_neg h2]
 have c : DCut s := ⟨by omega, by omega, by omega⟩
 by_cases h3 : sumB (s.take (s.length - 8)) = s.drop (s.length - 8)
 rotate_left
 ·rw [if_pos h3]; exact no _ (refDecode_e3 s c h3)
 rw [if_neg (fun h => h h3)]
 by_cases h4 : 1 ≤ dK s ∧ dK s ≤ 4
 rotate_left
 ·rw [if_pos h4]; exact no _ (refDecode_e4 s c h3 h4)
 rw [if_neg (fun h => h h4)]
 by_cases h5 : sizeErr (dW s) (dH s) = 0
 rotate_left
 ·rw [if_pos h5]; exact no _ (refDecode_e5 s c h3 h4 h5)
 rw [if_neg (fun h => h h5)]
 have hz := sizeErr_zero h5
 obtain ⟨g1, g2⟩ := rGood_eq (s := s) (by omega)
 by_cases h6 : (rPg s).2 = true
 rotate_left
 ·rw [if_neg (fun h => h6 (g1.2 h).1)]; exact no _ (refDecode_e6 s c h3 h4 h5 (by simpa using h6))
 by_cases h7 : encB (dW s) (dH s) (rPg s).1 (dK s) = s
 ·have hg : rGood s := ⟨h6, h7⟩
  rw [if_pos (g1.1 hg), ← g2 hg]
  exact FnFr.toRo (FnFr.of_ok (refDecode_ok s c h3 h4 h5 h6 h7) rfl rfl) (by simp [dqA, outOk, argOkL, allOk, argOk, argOkN, lk, noIdR_ok])
 ·rw [if_neg (fun h => h7 (g1.2 h).2)]; exact no _ (refDecode_e7 s c h3 h4 h5 h6 h7)
set_option maxHeartbeats 1000000 in
theorem equalBools_ok (a b : List Bool) : FnOk Tryz.prog 77 [.ro (.bools a), .ro (.bools b)] (.bool (decide (a = b))) [] := by
 refine FnOk.of_vc Tryz.func77 rfl (by decide) (by simp [Tryz.f77]) [.tmp 4] rfl fun w0 T0 _ => ?_
 simp only [Tryz.f77, argEnv]
 simp (maxSteps := 9^7) only [go_sem]
 refine Asm.intro fun _ => Asm.intro fun _ => Ite.decide (fun h => ?_) fun h => ?_
 ·simp (maxSteps := 9^7) only [go_sem]
  refine Ret.auto 0 ?_ rfl (by simp [subOk])
  have : a ≠ b := by intro e; subst e; exact h rfl
  simp only [go_sem, Int.natCast_succ, Post, this, decide_false, decide_true]
 have hl : a.length = b.length := by omega
 simp (maxSteps := 9^7) only [go_sem]
 refine Asm.intro fun _ => VcLoop.intro (fun i : Nat => ⟨26, [(0, .ro (.bools a)), (1, .ro (.bools b)), (12, .int .i64 a.length), (13, .int .i64 i)], [], 0⟩) (fun i => i ≤ a.length ∧ ∀ j, j < i → a.getD j false = b.getD j false) (fun i => a.length - i) 0 ?_ ⟨by omega, fun j hj => by omega⟩ fun i hi => ?_
 ·refine Ent.auto0 rfl ?_ ?_ <;> simp only [go_sem, Int.natCast_succ]
 simp (maxSteps := 9^7) only [go_sem]
 refine Ite.decide (fun h1 => ?_) (fun h1 => ?_)
 ·simp (maxSteps := 9^7) only [go_sem]
  refine VcDraw.lex [] [] (by kernel_rfl) (by kernel_rfl) ?_
  simp (maxSteps := 9^7) only [go_sem]
  (repeat' first | (with_reducible refine Asm.intro fun _ => ?_) | ((with_reducible refine Chk.intro ?_ ?_); (· first | omega | (with_reducible refine Chk.intro ?_ ?_ <;> omega) | (simp; done) | (simp; omega))) | ((with_reducible refine LetW.i64 ?_ ?_ ?_); (· omega); (· omega)) | ((with_reducible refine Ite.decide (fun _ => ?_) (fun _ => ?_)) <;> first | (exfalso; omega) | simp (maxSteps := 9^7) only [go_sem]) | ((with_reducible refine Ite.bool (fun _ => ?_) (fun _ => ?_)) <;> simp (maxSteps := 9^7) only [go_sem]) | (with_reducible refine And.intro ?_ ?_))
  ·rename_i h2
   refine Ret.auto 0 ?_ rfl (by simp [subOk])
   have : a ≠ b := by intro e; subst e; exact h2 rfl
   simp only [go_sem, Int.natCast_succ, Post, this]
  ·rename_i h2
   refine ⟨i + 1, Ent.auto0 rfl ?_ ?_, ⟨by omega, fun j hj => ?_⟩, by omega⟩
   ·simp only [go_sem, Int.natCast_succ]
    all_goals omega
   ·simp only [go_sem, Int.natCast_succ]
   ·by_cases e : j = i
    ·subst e; exact Decidable.of_not_not h2
    ·exact hi.2 j (by omega)
 ·simp (maxSteps := 9^7) only [go_sem]
  refine Ret.auto 0 ?_ rfl (by simp [subOk])
  have : a = b := eq_of_getD false hl fun j hj => hi.2 j (by omega)
  simp only [go_sem, Int.natCast_succ, Post, this, decide_false, decide_true]
set_option maxHeartbeats 1000000 in
theorem sameBits_ok (w h w' h' : Int) (p p' : List Bool) : FnOk Tryz.prog 23 [.agg [.int .i64 w, .int .i64 h, .ro (.bools p)], .agg [.int .i64 w', .int .i64 h', .ro (.bools p')]] (.bool (decide (w = w' ∧ h = h' ∧ p = p'))) [] := by
 refine FnOk.of_vc Tryz.func23 rfl (by decide) (by simp [Tryz.f23]) [.tmp 4] rfl fun w0 T0 _ => ?_
 simp only [Tryz.f23, argEnv]
 simp (maxSteps := 9^7) only [go_sem]
 (repeat' first | (with_reducible refine Asm.intro fun _ => ?_) | ((with_reducible refine Chk.intro ?_ ?_); (· first | omega | (with_reducible refine Chk.intro ?_ ?_ <;> omega) | (simp; done) | (simp; omega))) | ((with_reducible refine LetW.i64 ?_ ?_ ?_); (· omega); (· omega)) | ((with_reducible refine Ite.decide (fun _ => ?_) (fun _ => ?_)) <;> first | (exfalso; omega) | simp (maxSteps := 9^7) only [go_sem]) | ((with_reducible refine Ite.bool (fun _ => ?_) (fun _ => ?_)) <;> simp (maxSteps := 9^7) only [go_sem]) | (with_reducible refine And.intro ?_ ?_))
 ·refine VcCall.fr (args' := [.ro (.bools p), .ro (.bools p')]) (FnFr.of_ok (equalBools_ok p p') rfl rfl) (by simp [argOkL, allOk, argOkN]) 0 rfl (by simp [rowsB]) ?_
  try simp (maxSteps := 9^7) only [go_sem]
  (repeat' first | (with_reducible refine Asm.intro fun _ => ?_) | ((with_reducible refine Chk.intro ?_ ?_); (· first | omega | (with_reducible refine Chk.intro ?_ ?_ <;> omega) | (simp; done) | (simp; omega))) | ((with_reducible refine LetW.i64 ?_ ?_ ?_); (· omega); (· omega)) | ((with_reducible refine Ite.decide (fun _ => ?_) (fun _ => ?_)) <;> first | (exfalso; omega) | simp (maxSteps := 9^7) only [go_sem]) | ((with_reducible refine Ite.bool (fun _ => ?_) (fun _ => ?_)) <;> simp (maxSteps := 9^7) only [go_sem]) | (with_reducible refine And.intro ?_ ?_))
  rename_i h1
  refine Ret.auto 0 ?_ rfl ?_ <;> simp only [go_sem, Int.natCast_succ, Post]
  simp [h1.1, h1.2]
 ·rename_i h1
  refine Ret.auto 0 ?_ rfl ?_ <;> simp only [go_sem, Int.natCast_succ, Post]
  exact (decide_eq_false fun x => h1 ⟨x.1, x.2.1⟩).symm
set_option maxHeartbeats 1000000 in
theorem alike_err (w h : Int) (p : List Bool) (e w' h' : Int) (p' : List Bool) (f : Int) (hf : f ≠ 0) : FnOk Tryz.prog 17 [.agg [.int .i64 w, .int .i64 h, .ro (.bools p)], .int .i64 e, .agg [.int .i64 w', .int .i64 h', .ro (.bools p')], .int .i64 f] (.bool (decide (((e = f ∧ w = 0) ∧ h = 0) ∧ (p.length : Int) = 0))) [] := by
 refine FnOk.of_vc Tryz.func17 rfl (by decide) (by simp [Tryz.f17]) [.tmp 8] rfl fun w0 T0 _ => ?_
 simp only [Tryz.f17, argEnv]
 simp (maxSteps := 9^7) only [go_sem]
 (repeat' first | (with_reducible refine Asm.intro fun _ => ?_) | ((with_reducible refine Chk.intro ?_ ?_); (· first | omega | (with_reducible refine Chk.intro ?_ ?_ <;> omega) | (simp; done) | (simp; omega))) | ((with_reducible refine LetW.i64 ?_ ?_ ?_); (· omega); (· omega)) | ((with_reducible refine Ite.decide (fun _ => ?_) (fun _ => ?_)) <;> first | (exfalso; omega) | simp (maxSteps := 9^7) only [go_sem]) | ((with_reducible refine Ite.bool (fun _ => ?_) (fun _ => ?_)) <;> simp (maxSteps := 9^7) only [go_sem]) | (with_reducible refine And.intro ?_ ?_))
 refine Ret.auto 0 ?_ rfl ?_ <;> simp only [go_sem, Int.natCast_succ, Post]
set_option maxHeartbeats 1000000 in
theorem alike_ok (w h : Int) (p : List Bool) (e w' h' : Int) (p' : List Bool) : FnOk Tryz.prog 17 [.agg [.int .i64 w, .int .i64 h, .ro (.bools p)], .int .i64 e, .agg [.int .i64 w', .int .i64 h', .ro (.bools p')], .int .i64 0] (.bool (decide (e = 0 ∧ w = w' ∧ h = h' ∧ p = p'))) [] := by
 refine FnOk.of_vc Tryz.func17 rfl (by decide) (by simp [Tryz.f17]) [.tmp 8] rfl fun w0 T0 _ => ?_
 simp only [Tryz.f17, argEnv]
 simp (maxSteps := 9^7) only [go_sem]
 (repeat' first | (with_reducible refine Asm.intro fun _ => ?_) | ((with_reducible refine Chk.intro ?_ ?_); (· first | omega | (with_reducible refine Chk.intro ?_ ?_ <;> omega) | (simp; done) | (simp; omega))) | ((with_reducible refine LetW.i64 ?_ ?_ ?_); (· omega); (· omega)) | ((with_reducible refine Ite.decide (fun _ => ?_) (fun _ => ?_)) <;> first | (exfalso; omega) | simp (maxSteps := 9^7) only [go_sem]) | ((with_reducible refine Ite.bool (fun _ => ?_) (fun _ => ?_)) <;> simp (maxSteps := 9^7) only [go_sem]) | (with_reducible refine And.intro ?_ ?_))
 ·rename_i h1
  refine VcCall.fr (args' := [.agg [.int .i64 w, .int .i64 h, .ro (.bools p)], .agg [.int .i64 w', .int .i64 h', .ro (.bools p')]]) (FnFr.of_ok (sameBits_ok w h w' h' p p') rfl rfl) (by simp [argOkL, allOk, argOkN]) 0 rfl (by simp [rowsB]) ?_
  simp (maxSteps := 9^7) only [go_sem]
  (repeat' first | (with_reducible refine Asm.intro fun _ => ?_) | ((with_reducible refine Chk.intro ?_ ?_); (· first | omega | (with_reducible refine Chk.intro ?_ ?_ <;> omega) | (simp; done) | (simp; omega))) | ((with_reducible refine LetW.i64 ?_ ?_ ?_); (· omega); (· omega)) | ((with_reducible refine Ite.decide (fun _ => ?_) (fun _ => ?_)) <;> first | (exfalso; omega) | simp (maxSteps := 9^7) only [go_sem]) | ((with_reducible refine Ite.bool (fun _ => ?_) (fun _ => ?_)) <;> simp (maxSteps := 9^7) only [go_sem]) | (with_reducible refine And.intro ?_ ?_))
  refine Ret.auto 0 ?_ rfl ?_ <;> simp only [go_sem, Int.natCast_succ, Post]
  simp [h1]
 ·rename_i h1
  refine Ret.auto 0 ?_ rfl ?_ <;> simp only [go_sem, Int.natCast_succ, Post]
  exact (decide_eq_false fun x => h1 x.1).symm
end Go.Fv.H
/- The reference's Shortest: the walk. -/
namespace Go.Fv.H
open Go Go.Proofs
set_option linter.unusedSimpArgs false
set_option linter.unusedVariables false
set_option linter.unnecessarySimpa false
set_option maxRecDepth 8000
end Go.Fv.H
/- A page made right: the walk's result, and how long its codes are. -/
namespace Go.Fv.H
open Go Go.Proofs
set_option linter.unusedSimpArgs false
set_option linter.unusedVariables false
set_option linter.unnecessarySimpa false
set_option maxRecDepth 8000
structure FPg where
 (w h : Nat) (p : List Bool)
def fitG (W H : Int) (p : List Bool) : FPg := ⟨fitN W 31, fitN H 31, rowsOf (fitN W 31) (fitB p (fitN W 31)) (fitN H 31 * fitN W 31)⟩
structure FPg.Ok (b : FPg) : Prop where
 g : PgOk b.w b.h b.p
 w32 : b.w ≤ 32
 h32 : b.h ≤ 32
theorem fitG_ok (W H : Int) (p : List Bool) : (fitG W H p).Ok := by
 obtain ⟨w1, w2, _⟩ := fitN_bd W 31 (by decide)
 obtain ⟨h1, h2, _⟩ := fitN_bd H 31 (by decide)
 have hl := rowsOf_len (fitN W 31) (fitB p (fitN W 31)) (fitN H 31 * fitN W 31)
 have hm : fitN W 31 * fitN H 31 ≤ 32 * 32 := Nat.mul_le_mul w2 h2
 refine ⟨⟨w1, ?_, h1, ?_, ?_, ?_⟩, w2, h2⟩
 ·show fitN W 31 ≤ 4000; omega
 ·show fitN H 31 ≤ 4000; omega
 ·show fitN W 31 * fitN H 31 ≤ _; omega
 ·show (rowsOf _ _ _).length = fitN W 31 * fitN H 31; rw [hl, Nat.mul_comm]
def FPg.av (b : FPg) : AV := .agg [.int .i64 b.w, .int .i64 b.h, .ro (.bools b.p)]
theorem fit_fr (W H : Int) (p : List Bool) : FnFr Tryz.prog 12 [.agg [.int .i64 W, .int .i64 H, .ro (.bools p)]] (.agg [.int .i64 (fitG W H p).w, .int .i64 (fitG W H p).h, .ro (.bools (fitG W H p).p)]) [] :=
 FnFr.toRo (FnFr.of_ok (fit_ok W H p) rfl rfl) (by simp [fitG, outOk, argOkL, allOk, argOk, argOkN, lk, noIdR_ok])
theorem encB_short {w h : Nat} {p : List Bool} (g : PgOk w h p) (kind : Int) : (encB w h p kind).length ≤ 1048597 := by
 have := dataB_short g kind
 rw [encB_len]; omega
theorem alike_same (w h : Nat) (p : List Bool) (e : Int) (he : e ≠ 0 → w = 0 ∧ h = 0 ∧ p = []) : FnOk Tryz.prog 17 [.agg [.int .i64 w, .int .i64 h, .ro (.bools p)], .int .i64 e, .agg [.int .i64 w, .int .i64 h, .ro (.bools p)], .int .i64 e] (.bool true) [] := by
 by_cases h0 : e = 0
 ·subst h0
  have k := alike_ok (w : Int) (h : Int) p 0 (w : Int) (h : Int) p
  rw [decide_eq_true ⟨rfl, rfl, rfl, rfl⟩] at k
  exact k
 ·obtain ⟨rfl, rfl, rfl⟩ := he h0
  have k := alike_err ((0 : Nat) : Int) ((0 : Nat) : Int) [] e ((0 : Nat) : Int) ((0 : Nat) : Int) [] e h0
  rw [decide_eq_true ⟨⟨⟨rfl, rfl⟩, rfl⟩, rfl⟩] at k
  exact k
theorem decR_err (s : Bytes) (he : (decR s).e ≠ 0) : (decR s).w = 0 ∧ (decR s).h = 0 ∧ (decR s).p = [] := by
 unfold decR at he ⊢
 split
 ·exact ⟨rfl, rfl, rfl⟩
 ·split
  ·exact ⟨rfl, rfl, rfl⟩
  ·split
   ·exact ⟨rfl, rfl, rfl⟩
   ·split
    ·exact ⟨rfl, rfl, rfl⟩
    ·split
     ·exact ⟨rfl, rfl, rfl⟩
     ·split
      ·rename_i h1 h2 h3 h4 h5 h6
       rw [if_neg h1, if_neg h2, if_neg h3, if_neg h4, if_neg h5, if_pos h6] at he
       exact absurd rfl he
      ·exact ⟨rfl, rfl, rfl⟩
end Go.Fv.H
/- Strips put together, in plain words. -/
namespace Go.Fv.H
open Go Go.Proofs
set_option linter.unusedSimpArgs false
set_option linter.unusedVariables false
set_option linter.unnecessarySimpa false
def fsGo (W H : Nat) (P : List Bool) : Nat → List Bytes → DQ
 | _, [] => ⟨W, H, P, 0⟩
 | i, s :: l =>
  if (decR s).e ≠ 0 then dNo (decR s).e
  else if 0 < i ∧ (decR s).w ≠ W then dNo 11
  else fsGo (decR s).w (H + (decR s).h) (P ++ (decR s).p) (i + 1) l
def fsR (l : List Bytes) : DQ :=
 if l = [] then dNo 9
 else if (fsGo 0 0 [] 0 l).e ≠ 0 then fsGo 0 0 [] 0 l
 else if sizeErr (fsGo 0 0 [] 0 l).w (fsGo 0 0 [] 0 l).h ≠ 0 then dNo (sizeErr (fsGo 0 0 [] 0 l).w (fsGo 0 0 [] 0 l).h)
 else fsGo 0 0 [] 0 l
theorem fsGo_err : ∀ (l : List Bytes) (W H : Nat) (P : List Bool) (i : Nat), (fsGo W H P i l).e ≠ 0 → (fsGo W H P i l).w = 0 ∧ (fsGo W H P i l).h = 0 ∧ (fsGo W H P i l).p = []
 | [], W, H, P, i, h => absurd rfl h
 | s :: l, W, H, P, i, h => by
  unfold fsGo at h ⊢
  split
  ·exact ⟨rfl, rfl, rfl⟩
  ·rename_i h1
   rw [if_neg h1] at h
   split
   ·exact ⟨rfl, rfl, rfl⟩
   ·rename_i h2
    rw [if_neg h2] at h
    exact fsGo_err l _ _ _ _ h
theorem fsR_err (l : List Bytes) (h : (fsR l).e ≠ 0) : (fsR l).w = 0 ∧ (fsR l).h = 0 ∧ (fsR l).p = [] := by
 unfold fsR at h ⊢
 split
 ·exact ⟨rfl, rfl, rfl⟩
 ·rename_i h1
  rw [if_neg h1] at h
  split
  ·rename_i h2
   exact fsGo_err l _ _ _ _ h2
  ·rename_i h2
   rw [if_neg h2] at h
   split
   ·exact ⟨rfl, rfl, rfl⟩
   ·rename_i h3
    rw [if_neg h3] at h
    exact absurd (Classical.not_not.1 h2) h
theorem alike_fs (l : List Bytes) : FnOk Tryz.prog 17 [.agg [.int .i64 (fsR l).w, .int .i64 (fsR l).h, .ro (.bools (fsR l).p)], .int .i64 (fsR l).e, .agg [.int .i64 (fsR l).w, .int .i64 (fsR l).h, .ro (.bools (fsR l).p)], .int .i64 (fsR l).e] (.bool true) [] :=
 alike_same _ _ _ _ (fsR_err l)
end Go.Fv.H
/- FromStrips, of both: the walk. -/
namespace Go.Fv.H
open Go Go.Proofs
set_option linter.unusedSimpArgs false
set_option linter.unusedVariables false
set_option linter.unnecessarySimpa false
set_option maxRecDepth 8000
structure FX where
 (i W H : Nat) (P : List Bool)
theorem fsGo_step {W H : Nat} {P : List Bool} {i : Nat} {l : List Bytes} (h : i < l.length) : fsGo W H P i (l.drop i) = if (decR (l.getD i [])).e ≠ 0 then dNo (decR (l.getD i [])).e else if 0 < i ∧ (decR (l.getD i [])).w ≠ W then dNo 11 else fsGo (decR (l.getD i [])).w (H + (decR (l.getD i [])).h) (P ++ (decR (l.getD i [])).p) (i + 1) (l.drop (i + 1)) := by
 rw [List.drop_eq_getElem_cons h, getD_lt h]
 rfl
theorem decR_bd (s : Bytes) : (decR s).w ≤ 4000 ∧ (decR s).h ≤ 4000 ∧ (decR s).p.length ≤ 1048576 := by
 by_cases h : (decR s).e = 0
 ·have g := (decR_ok h).1
  exact ⟨g.w1, g.h1, by rw [g.p]; exact g.wh⟩
 ·obtain ⟨h1, h2, h3⟩ := decR_err s h
  rw [h1, h2, h3]; simp
set_option maxHeartbeats 8000000 in
theorem fromStrips_ok (l : List Bytes) (hl : l.length ≤ 100000) (hs : ∀ s, s ∈ l → s.length ≤ 200000000000000) :
  FnOk Tryz.prog 18 [.ro (.strs l)] (.tup [.agg [.int .i64 (fsR l).w, .int .i64 (fsR l).h, .own 0], .int .i64 (fsR l).e]) [(0, .row 4 (.bools (fsR l).p))] := by
 obtain ⟨R, hR⟩ : ∃ R, fsR l = R := ⟨_, rfl⟩
 rw [hR]
 refine FnOk.of_vc Tryz.func18 rfl (by decide) (by simp [Tryz.f18]) [.cell 2 24, .tmp 3] rfl fun w0 T0 _ => ?_
 simp only [Tryz.f18, argEnv]
 by_cases h0 : l = []
 ·have hR0 : R = dNo 9 := by rw [← hR, h0]; rfl
  subst h0
  rw [hR0]
  (repeat' with_reducible first | intro _ | refine rz ?_ | refine ra ?_ ?_ | omega | simp (maxSteps := 9^7) only [go_sem, dNo])
  refine Ret.ent (Ent.nilBox (P := Tryz.prog) 0 2 4 e4 rfl rfl) ?_
  simp only [go_sem, Int.natCast_succ, put]
  refine Ret.of [(0, 1)] 1 ?_ (by rfl) ?_ <;> simp only [go_sem, Int.natCast_succ, Post]
 have f0 : ((l.length : Int) = 0) = False := eq_false (by have := List.length_pos_iff.2 h0; omega)
 obtain ⟨G, hG⟩ : ∃ G, fsGo 0 0 [] 0 l = G := ⟨_, rfl⟩
 have hRG : R = if G.e ≠ 0 then G else if sizeErr G.w G.h ≠ 0 then dNo (sizeErr G.w G.h) else G := by rw [← hR]; unfold fsR; rw [if_neg h0, hG]
 (repeat' with_reducible first | intro _ | refine rz ?_ | refine ra ?_ ?_ | omega | simp (maxSteps := 9^7) only [go_sem, f0])
 refine VcLoop.intro (fun x : FX => ⟨66, [(16, .int .i64 x.i), (15, .int .i64 l.length), (14, .ro (.strs l)), (4, .ptr 1 0), (2, .ptr 0 0)], [(0, .box 24 [.int .i64 0, .int .i64 0, .nilS]), (1, .box 24 [.int .i64 x.W, .int .i64 x.H, .own 2]), (2, .row 4 (.bools x.P))], 3⟩) (fun x => x.i ≤ l.length ∧ x.W ≤ 4000 ∧ x.H ≤ 4000 * x.i ∧ x.P.length ≤ 1048576 * x.i ∧ fsGo x.W x.H x.P x.i (l.drop x.i) = G) (fun x => l.length - x.i) ⟨0, 0, 0, []⟩ ?_ ⟨Nat.zero_le _, Nat.zero_le _, Nat.zero_le _, Nat.zero_le _, by rw [List.drop_zero]; exact hG⟩ fun x hx => ?_
 ·refine Ent.trans (Ent.nilBox (P := Tryz.prog) 1 2 4 e4 rfl rfl) (Ent.auto0 rfl ?_ ?_) <;> simp only [go_sem, Int.natCast_succ, put]
  all_goals first | rfl | exact ⟨rfl, rfl⟩ | trace_state
 obtain ⟨i, W, H, P⟩ := x
 obtain ⟨hi, hW, hH, hP, hgo⟩ := hx
 dsimp only at hi hW hH hP hgo ⊢
 by_cases hlt : i < l.length
 rotate_left
 ·have f1 : ((i : Int) < (l.length : Int)) = False := eq_false (by omega)
  rw [List.drop_of_length_le (by omega)] at hgo
  have hG2 : G = ⟨W, H, P, 0⟩ := hgo.symm
  have hRG2 : R = if sizeErr W H ≠ 0 then dNo (sizeErr W H) else ⟨W, H, P, 0⟩ := by rw [hRG, hG2, if_neg (fun h => h rfl)]
  have kz := checkSize_ok (W : Int) (H : Int)
  by_cases hz : sizeErr W H = 0
  ·rw [if_neg (fun h => h hz)] at hRG2
   rw [hz] at kz
   rw [hRG2]
   (repeat' with_reducible first | intro _ | refine rz ?_ | refine ra ?_ ?_ | omega | simp (maxSteps := 9^7) only [go_sem, f1])
   refine VcCall.k kz ?_
   (repeat' with_reducible first | intro _ | refine rz ?_ | refine ra ?_ ?_ | omega | simp (maxSteps := 9^7) only [go_sem])
   refine Ret.of [(0, 2)] 1 ?_ (by rfl) ?_ <;> simp only [go_sem, Int.natCast_succ, Post]
  ·rw [if_pos hz] at hRG2
   have f2 : (sizeErr (W : Int) (H : Int) = 0) = False := eq_false hz
   rw [hRG2]
   generalize sizeErr (W : Int) (H : Int) = z at *
   (repeat' with_reducible first | intro _ | refine rz ?_ | refine ra ?_ ?_ | omega | simp (maxSteps := 9^7) only [go_sem, f1])
   refine VcCall.k kz ?_
   (repeat' with_reducible first | intro _ | refine rz ?_ | refine ra ?_ ?_ | omega | simp (maxSteps := 9^7) only [go_sem, f2, dNo])
   refine Ret.ent (Ent.nilBox (P := Tryz.prog) 0 2 4 e4 rfl rfl) ?_
   simp only [go_sem, Int.natCast_succ, put]
   refine Ret.of [(0, 3)] 1 ?_ (by rfl) ?_ <;> simp only [go_sem, Int.natCast_succ, Post]
 have f1 : ((i : Int) < (l.length : Int)) = True := eq_true (by omega)
 have hm : l.getD i [] ∈ l := by rw [getD_lt hlt]; exact List.getElem_mem hlt
 have hsl := hs _ hm
 have kd := decode_fr (l.getD i []) hsl
 unfold dqA at kd
 rw [fsGo_step hlt] at hgo
 obtain ⟨b1, b2, b3⟩ := decR_bd (l.getD i [])
 generalize decR (l.getD i []) = q at *
 (repeat' with_reducible first | intro _ | refine rz ?_ | refine ra ?_ ?_ | omega | simp (maxSteps := 9^7) only [go_sem, f1])
 refine VcCall.f kd 0 ?_
 by_cases he : q.e = 0
 rotate_left
 ·have f2 : (q.e = 0) = False := eq_false he
  rw [if_pos he] at hgo
  have hR2 : R = dNo q.e := by rw [hRG, ← hgo, if_pos (show (dNo q.e).e ≠ 0 from he)]
  rw [hR2]
  (repeat' with_reducible first | intro _ | refine rz ?_ | refine ra ?_ ?_ | omega | simp (maxSteps := 9^7) only [go_sem, f2, dNo])
  refine Ret.ent (Ent.nilBox (P := Tryz.prog) 0 2 4 e4 rfl rfl) ?_
  simp only [go_sem, Int.natCast_succ, put]
  refine Ret.of [(0, 4)] 1 ?_ (by rfl) ?_ <;> simp only [go_sem, Int.natCast_succ, Post]
 have f2 : (q.e = 0) = True := eq_true he
 rw [if_neg (fun h => h he)] at hgo
 by_cases hc : 0 < i ∧ q.w ≠ W
 ·have f3 : ((0 : Int) < (i : Int)) = True := eq_true (by omega)
  have f4 : ((q.w : Int) = (W : Int)) = False := eq_false (by omega)
  rw [if_pos hc] at hgo
  have hR2 : R = dNo 11 := by rw [hRG, ← hgo, if_pos (show (dNo 11).e ≠ 0 by decide)]
  rw [hR2]
  (repeat' with_reducible first | intro _ | refine rz ?_ | refine ra ?_ ?_ | omega | simp (maxSteps := 9^7) only [go_sem, f2, f3, f4, dNo])
  refine Ret.ent (Ent.nilBox (P := Tryz.prog) 0 2 4 e4 rfl rfl) ?_
  simp only [go_sem, Int.natCast_succ, put]
  refine Ret.of [(0, 4)] 1 ?_ (by rfl) ?_ <;> simp only [go_sem, Int.natCast_succ, Post]
 rw [if_neg hc] at hgo
 by_cases h00 : 0 < i
 ·have f3 : ((0 : Int) < (i : Int)) = True := eq_true (by omega)
  have f4 : ((q.w : Int) = (W : Int)) = True := eq_true (by omega)
  (repeat' with_reducible first | intro _ | refine rz ?_ | refine ra ?_ ?_ | omega | simp (maxSteps := 9^7) only [go_sem, f2, f3, f4])
  refine ⟨⟨i + 1, q.w, H + q.h, P ++ q.p⟩, Ent.auto0 rfl ?_ ?_, ⟨by dsimp only; omega, b1, by dsimp only; omega, by dsimp only; rw [List.length_append]; omega, hgo⟩, by dsimp only; omega⟩ <;> simp only [go_sem, Int.natCast_succ]
  all_goals first | rfl | omega | exact ⟨rfl, rfl⟩ | trace_state
 ·have f3 : ((0 : Int) < (i : Int)) = False := eq_false (by omega)
  (repeat' with_reducible first | intro _ | refine rz ?_ | refine ra ?_ ?_ | omega | simp (maxSteps := 9^7) only [go_sem, f2, f3])
  refine ⟨⟨i + 1, q.w, H + q.h, P ++ q.p⟩, Ent.auto0 rfl ?_ ?_, ⟨by dsimp only; omega, b1, by dsimp only; omega, by dsimp only; rw [List.length_append]; omega, hgo⟩, by dsimp only; omega⟩ <;> simp only [go_sem, Int.natCast_succ]
  all_goals first | rfl | omega | exact ⟨rfl, rfl⟩ | trace_state
set_option maxHeartbeats 8000000 in
theorem refFromStrips_ok (l : List Bytes) (hl : l.length ≤ 100000) (hs : ∀ s, s ∈ l → s.length ≤ 200000000000000) :
  FnOk Tryz.prog 19 [.ro (.strs l)] (.tup [.agg [.int .i64 (fsR l).w, .int .i64 (fsR l).h, .own 0], .int .i64 (fsR l).e]) [(0, .row 4 (.bools (fsR l).p))] := by
 obtain ⟨R, hR⟩ : ∃ R, fsR l = R := ⟨_, rfl⟩
 rw [hR]
 refine FnOk.of_vc Tryz.func19 rfl (by decide) (by simp [Tryz.f19]) [.cell 2 24, .tmp 3] rfl fun w0 T0 _ => ?_
 simp only [Tryz.f19, argEnv]
 by_cases h0 : l = []
 ·have hR0 : R = dNo 9 := by rw [← hR, h0]; rfl
  subst h0
  rw [hR0]
  (repeat' with_reducible first | intro _ | refine rz ?_ | refine ra ?_ ?_ | omega | simp (maxSteps := 9^7) only [go_sem, dNo])
  refine Ret.ent (Ent.nilBox (P := Tryz.prog) 0 2 4 e4 rfl rfl) ?_
  simp only [go_sem, Int.natCast_succ, put]
  refine Ret.of [(0, 2)] 1 ?_ (by rfl) ?_ <;> simp only [go_sem, Int.natCast_succ, Post]
 have f0 : ((l.length : Int) = 0) = False := eq_false (by have := List.length_pos_iff.2 h0; omega)
 obtain ⟨G, hG⟩ : ∃ G, fsGo 0 0 [] 0 l = G := ⟨_, rfl⟩
 have hRG : R = if G.e ≠ 0 then G else if sizeErr G.w G.h ≠ 0 then dNo (sizeErr G.w G.h) else G := by rw [← hR]; unfold fsR; rw [if_neg h0, hG]
 (repeat' with_reducible first | intro _ | refine rz ?_ | refine ra ?_ ?_ | omega | simp (maxSteps := 9^7) only [go_sem, f0])
 refine VcLoop.intro (fun x : FX => ⟨69, [(16, .int .i64 x.i), (15, .int .i64 l.length), (14, .ro (.strs l)), (4, .ptr 1 0), (2, .ptr 0 0)], [(0, .box 24 [.int .i64 0, .int .i64 0, .nilS]), (1, .box 24 [.int .i64 x.W, .int .i64 x.H, .own 2]), (2, .row 4 (.bools x.P))], 3⟩) (fun x => x.i ≤ l.length ∧ x.W ≤ 4000 ∧ x.H ≤ 4000 * x.i ∧ x.P.length ≤ 1048576 * x.i ∧ fsGo x.W x.H x.P x.i (l.drop x.i) = G) (fun x => l.length - x.i) ⟨0, 0, 0, []⟩ ?_ ⟨Nat.zero_le _, Nat.zero_le _, Nat.zero_le _, Nat.zero_le _, by rw [List.drop_zero]; exact hG⟩ fun x hx => ?_
 ·refine Ent.trans (Ent.nilBox (P := Tryz.prog) 1 2 4 e4 rfl rfl) (Ent.auto0 rfl ?_ ?_) <;> simp only [go_sem, Int.natCast_succ, put]
  all_goals first | rfl | exact ⟨rfl, rfl⟩ | trace_state
 obtain ⟨i, W, H, P⟩ := x
 obtain ⟨hi, hW, hH, hP, hgo⟩ := hx
 dsimp only at hi hW hH hP hgo ⊢
 by_cases hlt : i < l.length
 rotate_left
 ·have f1 : ((i : Int) < (l.length : Int)) = False := eq_false (by omega)
  rw [List.drop_of_length_le (by omega)] at hgo
  have hG2 : G = ⟨W, H, P, 0⟩ := hgo.symm
  have hRG2 : R = if sizeErr W H ≠ 0 then dNo (sizeErr W H) else ⟨W, H, P, 0⟩ := by rw [hRG, hG2, if_neg (fun h => h rfl)]
  have kz := refSize_ok (W : Int) (H : Int)
  by_cases hz : sizeErr W H = 0
  ·rw [if_neg (fun h => h hz)] at hRG2
   rw [hz] at kz
   rw [hRG2]
   (repeat' with_reducible first | intro _ | refine rz ?_ | refine ra ?_ ?_ | omega | simp (maxSteps := 9^7) only [go_sem, f1])
   refine VcCall.k kz ?_
   (repeat' with_reducible first | intro _ | refine rz ?_ | refine ra ?_ ?_ | omega | simp (maxSteps := 9^7) only [go_sem])
   refine Ret.of [(0, 2)] 1 ?_ (by rfl) ?_ <;> simp only [go_sem, Int.natCast_succ, Post]
  ·rw [if_pos hz] at hRG2
   have f2 : (sizeErr (W : Int) (H : Int) = 0) = False := eq_false hz
   rw [hRG2]
   generalize sizeErr (W : Int) (H : Int) = z at *
   (repeat' with_reducible first | intro _ | refine rz ?_ | refine ra ?_ ?_ | omega | simp (maxSteps := 9^7) only [go_sem, f1])
   refine VcCall.k kz ?_
   (repeat' with_reducible first | intro _ | refine rz ?_ | refine ra ?_ ?_ | omega | simp (maxSteps := 9^7) only [go_sem, f2, dNo])
   refine Ret.ent (Ent.nilBox (P := Tryz.prog) 0 2 4 e4 rfl rfl) ?_
   simp only [go_sem, Int.natCast_succ, put]
   refine Ret.of [(0, 3)] 1 ?_ (by rfl) ?_ <;> simp only [go_sem, Int.natCast_succ, Post]
 have f1 : ((i : Int) < (l.length : Int)) = True := eq_true (by omega)
 have hm : l.getD i [] ∈ l := by rw [getD_lt hlt]; exact List.getElem_mem hlt
 have hsl := hs _ hm
 have kd := refDecode_fr (l.getD i []) hsl
 unfold dqA at kd
 rw [fsGo_step hlt] at hgo
 obtain ⟨b1, b2, b3⟩ := decR_bd (l.getD i [])
 generalize decR (l.getD i []) = q at *
 (repeat' with_reducible first | intro _ | refine rz ?_ | refine ra ?_ ?_ | omega | simp (maxSteps := 9^7) only [go_sem, f1])
 refine VcCall.f kd 0 ?_
 by_cases he : q.e = 0
 rotate_left
 ·have f2 : (q.e = 0) = False := eq_false he
  rw [if_pos he] at hgo
  have hR2 : R = dNo q.e := by rw [hRG, ← hgo, if_pos (show (dNo q.e).e ≠ 0 from he)]
  rw [hR2]
  (repeat' with_reducible first | intro _ | refine rz ?_ | refine ra ?_ ?_ | omega | simp (maxSteps := 9^7) only [go_sem, f2, dNo])
  refine Ret.ent (Ent.nilBox (P := Tryz.prog) 0 2 4 e4 rfl rfl) ?_
  simp only [go_sem, Int.natCast_succ, put]
  refine Ret.of [(0, 4)] 1 ?_ (by rfl) ?_ <;> simp only [go_sem, Int.natCast_succ, Post]
 have f2 : (q.e = 0) = True := eq_true he
 rw [if_neg (fun h => h he)] at hgo
 by_cases hc : 0 < i ∧ q.w ≠ W
 ·have f3 : ((0 : Int) < (i : Int)) = True := eq_true (by omega)
  have f4 : ((q.w : Int) = (W : Int)) = False := eq_false (by omega)
  rw [if_pos hc] at hgo
  have hR2 : R = dNo 11 := by rw [hRG, ← hgo, if_pos (show (dNo 11).e ≠ 0 by decide)]
  rw [hR2]
  (repeat' with_reducible first | intro _ | refine rz ?_ | refine ra ?_ ?_ | omega | simp (maxSteps := 9^7) only [go_sem, f2, f3, f4, dNo])
  refine Ret.ent (Ent.nilBox (P := Tryz.prog) 0 2 4 e4 rfl rfl) ?_
  simp only [go_sem, Int.natCast_succ, put]
  refine Ret.of [(0, 4)] 1 ?_ (by rfl) ?_ <;> simp only [go_sem, Int.natCast_succ, Post]
 rw [if_neg hc] at hgo
 by_cases h00 : 0 < i
 ·have f3 : ((0 : Int) < (i : Int)) = True := eq_true (by omega)
  have f4 : ((q.w : Int) = (W : Int)) = True := eq_true (by omega)
  (repeat' with_reducible first | intro _ | refine rz ?_ | refine ra ?_ ?_ | omega | simp (maxSteps := 9^7) only [go_sem, f2, f3, f4])
  refine VcDraw.lex [11, 13, 15, 17] [(0, [1]), (1, [1]), (2, [1]), (3, [1]), (4, [1, 2]), (5, [1, 2]), (6, [1, 2]), (12, [0])] (by kernel_rfl) (by kernel_rfl) ?_
  (repeat' with_reducible first | intro _ | refine rz ?_ | refine ra ?_ ?_ | omega | simp (maxSteps := 9^7) only [go_sem])
  refine ⟨⟨i + 1, q.w, H + q.h, P ++ q.p⟩, Ent.auto0 rfl ?_ ?_, ⟨by dsimp only; omega, b1, by dsimp only; omega, by dsimp only; rw [List.length_append]; omega, hgo⟩, by dsimp only; omega⟩ <;> simp only [go_sem, Int.natCast_succ]
  all_goals first | rfl | omega | exact ⟨rfl, rfl⟩ | trace_state
 ·have f3 : ((0 : Int) < (i : Int)) = False := eq_false (by omega)
  (repeat' with_reducible first | intro _ | refine rz ?_ | refine ra ?_ ?_ | omega | simp (maxSteps := 9^7) only [go_sem, f2, f3])
  refine VcDraw.lex [11, 13, 15, 17] [(0, [1]), (1, [1]), (2, [1]), (3, [1]), (4, [1, 2]), (5, [1, 2]), (6, [1, 2]), (12, [0])] (by kernel_rfl) (by kernel_rfl) ?_
  (repeat' with_reducible first | intro _ | refine rz ?_ | refine ra ?_ ?_ | omega | simp (maxSteps := 9^7) only [go_sem])
  refine ⟨⟨i + 1, q.w, H + q.h, P ++ q.p⟩, Ent.auto0 rfl ?_ ?_, ⟨by dsimp only; omega, b1, by dsimp only; omega, by dsimp only; rw [List.length_append]; omega, hgo⟩, by dsimp only; omega⟩ <;> simp only [go_sem, Int.natCast_succ]
  all_goals first | rfl | omega | exact ⟨rfl, rfl⟩ | trace_state
end Go.Fv.H
/- Pages, as data. -/
namespace Go.Fv.H
open Go Go.Proofs
set_option linter.unusedSimpArgs false
set_option linter.unusedVariables false
structure Pg where
 W : Int
 H : Int
 p : List Bool
def Pg.av (s : Pg) : List AV := [.int .i64 s.W, .int .i64 s.H, .ro (.bools s.p)]
def Pg.zero : Pg := ⟨0, 0, []⟩
abbrev pgs (l : List Pg) : RowV := .objs 3 (l.map Pg.av)
instance : FNoId Pg.av := ⟨fun _ => rfl⟩
theorem pg_elem (l : List Pg) {i : Nat} (h : i < l.length) : (l.map Pg.av).getD i [] = [.int .i64 (l.getD i Pg.zero).W, .int .i64 (l.getD i Pg.zero).H, .ro (.bools (l.getD i Pg.zero).p)] := by
 simp [List.getD_eq_getElem?_getD, h, Pg.av]
end Go.Fv.H
