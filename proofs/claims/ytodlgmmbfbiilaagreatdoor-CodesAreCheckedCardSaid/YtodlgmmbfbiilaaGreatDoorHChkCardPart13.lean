/-
  A part of the proof of the claim: walks over the program's functions and the plain laws that these need. No condition of its own.
-/
import Derived.Test.YtodlgmmbfbiilaaGreatDoorHChkCardPart9
import Derived.Test.YtodlgmmbfbiilaaGreatDoorHChkCardPart11
import Derived.Test.YtodlgmmbfbiilaaGreatDoorHChkCardPart12
import Derived.Test.YtodlgmmbfbiilaaGreatDoorHChkCardPart10
import Derived.Test.YtodlgmmbfbiilaaGreatDoorHChkCardPart6
import Derived.Test.YtodlgmmbfbiilaaGreatDoorHChkCardPart1
import Derived.Test.YtodlgmmbfbiilaaGreatDoorFvPart10
import Derived.Test.YtodlgmmbfbiilaaGreatDoorHChkCardPart7
import Derived.Test.YtodlgmmbfbiilaaGreatDoorHChkCardPart8
/- The reference's Decode: the walk. -/
namespace Go.Fv.H
open Go Go.Proofs
set_option linter.unusedSimpArgs false
set_option linter.unusedVariables false
set_option linter.unnecessarySimpa false
set_option maxRecDepth 8000
theorem refDecNo_ok (e : Int) : FnOk Tryz.prog 70 [.int .i64 e] (.tup [.agg [.int .i64 0, .int .i64 0, .nilS], .int .i64 e]) [] := by
 refine FnOk.of_vc Tryz.func70 rfl (by decide) (by simp [Tryz.f70]) [.cell 2 24, .tmp 3] rfl fun w0 T0 _ => ?_
 simp only [Tryz.f70, argEnv]
 (repeat' with_reducible first | intro _ | refine rz ?_ | refine ra ?_ ?_ | omega | simp (maxSteps := 9^7) only [go_sem])
 refine Ret.auto 0 ?_ rfl ?_ <;> simp only [go_sem, Int.natCast_succ, Post]
theorem dK_first (s : Bytes) (h : 17 ≤ s.length) : (((s.getD 0 0).toNat : Nat) : Int) = (dK s : Int) := by
 cases s with
 | nil => simp at h
 | cons c s =>
  show ((c.toNat : Nat) : Int) = ((numB [c] : Nat) : Int)
  have : numB [c] = c.toNat := by show 0 * 256 + c.toNat = _; omega
  rw [this]
theorem dD_mid (s : Bytes) (h : 17 ≤ s.length) : (s.drop 9).take (s.length - 8 - 9) = dD s := by
 unfold dD
 rw [show s.length - 8 - 9 = s.length - 17 by omega]
theorem read_good (w h : Nat) (hw0 : 0 < w) (hw : w ≤ 4000) (hh : h ≤ 4000) (hwh : w * h ≤ 1048576) (d : Bytes) (hd : d.length ≤ 100000000) (kind : Int) (hk : 1 ≤ kind ∧ kind ≤ 4) (hq : (rpOf kind w h d).2 = true) :
  FnOk Tryz.prog 73 [.int .i64 kind, .str d, .int .i64 w, .int .i64 h] (.tup [.agg [.int .i64 w, .int .i64 h, .own 0], .bool true]) [(0, .row 4 (.bools (rpOf kind w h d).1))] := by
 have hc : kind = 4 ∨ kind = 1 ∨ kind = 2 ∨ kind = 3 := by omega
 rcases hc with rfl | rfl | rfl | rfl
 ·have e : rpOf 4 w h d = uaOut w h d (w * h) := rfl
  rw [e] at hq ⊢
  have k := read4_ok w h hw0 hw hh hwh d hd
  rw [hq] at k
  exact k
 ·have e : rpOf 1 w h d = plPage (w * h) (upB d) := rfl
  rw [e] at hq ⊢
  unfold plPage at hq ⊢
  split at hq
  ·cases hq
  ·rename_i hs
   rw [if_neg hs]
   exact read1_ok w h hw0 hw hh hwh d hd (by omega)
 ·have e : rpOf 2 w h d = rnPage w h (upB d) := rfl
  rw [e] at hq ⊢
  have k := read2_ok w h hw0 hw hh hwh d hd
  rw [hq] at k
  exact k
 ·have e : rpOf 3 w h d = lnPage h (List.replicate w false) (upB d) := rfl
  rw [e] at hq ⊢
  have k := read3_ok w h hw0 hw hh hwh d hd
  rw [hq] at k
  exact k
theorem read_bad (w h : Nat) (hw0 : 0 < w) (hw : w ≤ 4000) (hh : h ≤ 4000) (hwh : w * h ≤ 1048576) (d : Bytes) (hd : d.length ≤ 100000000) (kind : Int) (hk : 1 ≤ kind ∧ kind ≤ 4) (hq : (rpOf kind w h d).2 = false) :
  FnFr Tryz.prog 73 [.int .i64 kind, .str d, .int .i64 w, .int .i64 h] (.tup [.agg [.int .i64 w, .int .i64 h, .ro (.bools (rpOf kind w h d).1)], .bool false]) [] := by
 have hc : kind = 4 ∨ kind = 1 ∨ kind = 2 ∨ kind = 3 := by omega
 rcases hc with rfl | rfl | rfl | rfl
 ·have e : rpOf 4 w h d = uaOut w h d (w * h) := rfl
  rw [e] at hq ⊢
  have k := read4_ok w h hw0 hw hh hwh d hd
  rw [hq] at k
  exact FnFr.toRo (FnFr.of_ok k rfl rfl) (by simp [outOk, argOkL, allOk, argOk, argOkN, lk, noIdR_ok, nilRow])
 ·have e : rpOf 1 w h d = plPage (w * h) (upB d) := rfl
  rw [e] at hq ⊢
  unfold plPage at hq ⊢
  split at hq
  ·rename_i hs
   rw [if_pos hs]
   exact FnFr.toRo (FnFr.of_ok (read1_no w h hw0 hw hh hwh d hd hs) rfl rfl) (by simp [outOk, argOkL, allOk, argOk, argOkN, lk, noIdR_ok, nilRow])
  ·cases hq
 ·have e : rpOf 2 w h d = rnPage w h (upB d) := rfl
  rw [e] at hq ⊢
  have k := read2_ok w h hw0 hw hh hwh d hd
  rw [hq] at k
  exact FnFr.toRo (FnFr.of_ok k rfl rfl) (by simp [outOk, argOkL, allOk, argOk, argOkN, lk, noIdR_ok, nilRow])
 ·have e : rpOf 3 w h d = lnPage h (List.replicate w false) (upB d) := rfl
  rw [e] at hq ⊢
  have k := read3_ok w h hw0 hw hh hwh d hd
  rw [hq] at k
  exact FnFr.toRo (FnFr.of_ok k rfl rfl) (by simp [outOk, argOkL, allOk, argOk, argOkN, lk, noIdR_ok, nilRow])
set_option maxHeartbeats 8000000 in
theorem refDecode_e1 (s : Bytes) (hs : s.length ≤ 200000000000000) (h1 : 2097152 < s.length) : FnOk Tryz.prog 16 [.str s] (.tup [.agg [.int .i64 0, .int .i64 0, .nilS], .int .i64 4]) [] := by
 refine FnOk.of_vc Tryz.func16 rfl (by decide) (by simp [Tryz.f16]) [.cell 2 24, .tmp 3] rfl fun w0 T0 _ => ?_
 simp only [Tryz.f16, argEnv]
 have f1 : ((2097152 : Int) < (s.length : Int)) = True := eq_true (by omega)
 (repeat' with_reducible first | intro _ | refine rz ?_ | refine ra ?_ ?_ | omega | simp (maxSteps := 9^7) only [go_sem, f1])
 refine VcCall.k (refDecNo_ok 4) ?_
 (repeat' with_reducible first | intro _ | refine rz ?_ | refine ra ?_ ?_ | omega | simp (maxSteps := 9^7) only [go_sem])
 refine Ret.auto 0 ?_ rfl ?_ <;> simp only [go_sem, Int.natCast_succ, Post]
set_option maxHeartbeats 8000000 in
theorem refDecode_e2 (s : Bytes) (h1 : s.length ≤ 2097152) (h2 : s.length < 17 ∨ s.length ≠ 17 + dL s) : FnOk Tryz.prog 16 [.str s] (.tup [.agg [.int .i64 0, .int .i64 0, .nilS], .int .i64 8]) [] := by
 refine FnOk.of_vc Tryz.func16 rfl (by decide) (by simp [Tryz.f16]) [.cell 2 24, .tmp 3] rfl fun w0 T0 _ => ?_
 simp only [Tryz.f16, argEnv]
 have f1 : ((2097152 : Int) < (s.length : Int)) = False := eq_false (by omega)
 by_cases h17 : s.length < 17
 ·have f2 : ((s.length : Int) < 17) = True := eq_true (by omega)
  (repeat' with_reducible first | intro _ | refine rz ?_ | refine ra ?_ ?_ | omega | simp (maxSteps := 9^7) only [go_sem, f1, f2])
  refine VcCall.k (refDecNo_ok 8) ?_
  (repeat' with_reducible first | intro _ | refine rz ?_ | refine ra ?_ ?_ | omega | simp (maxSteps := 9^7) only [go_sem])
  refine Ret.auto 0 ?_ rfl ?_ <;> simp only [go_sem, Int.natCast_succ, Post]
 ·have f2 : ((s.length : Int) < 17) = False := eq_false (by omega)
  have kb := number_ok ((s.drop 5).take 4) (by rw [List.length_take]; omega)
  have hlt := dL_lt s
  rw [show numB ((s.drop 5).take 4) = dL s from rfl] at kb
  have f3 : ((s.length : Int) = 17 + (dL s : Int)) = False := eq_false (by omega)
  generalize dL s = L at *
  (repeat' with_reducible first | intro _ | refine rz ?_ | refine ra ?_ ?_ | omega | simp (maxSteps := 9^7) only [go_sem, f1, f2])
  refine VcCall.k kb ?_
  (repeat' with_reducible first | intro _ | refine rz ?_ | refine ra ?_ ?_ | omega | simp (maxSteps := 9^7) only [go_sem, f3])
  refine VcCall.k (refDecNo_ok 8) ?_
  (repeat' with_reducible first | intro _ | refine rz ?_ | refine ra ?_ ?_ | omega | simp (maxSteps := 9^7) only [go_sem])
  refine Ret.auto 0 ?_ rfl ?_ <;> simp only [go_sem, Int.natCast_succ, Post]
set_option maxHeartbeats 8000000 in
theorem refDecode_e3 (s : Bytes) (c : DCut s) (h3 : sumB (s.take (s.length - 8)) ≠ s.drop (s.length - 8)) : FnOk Tryz.prog 16 [.str s] (.tup [.agg [.int .i64 0, .int .i64 0, .nilS], .int .i64 14]) [] := by
 obtain ⟨c1, c2, c3⟩ := c
 have f1 : ((2097152 : Int) < (s.length : Int)) = False := eq_false (by omega)
 have f2 : ((s.length : Int) < 17) = False := eq_false (by omega)
 have kb := number_ok ((s.drop 5).take 4) (by rw [List.length_take]; omega)
 have kK := number_ok (s.take 1) (by rw [List.length_take]; omega)
 have kW := number_ok ((s.drop 1).take 2) (by rw [List.length_take]; omega)
 have kH := number_ok ((s.drop 3).take 2) (by rw [List.length_take]; omega)
 rw [show numB (s.take 1) = dK s from rfl] at kK
 rw [show numB ((s.drop 1).take 2) = dW s from rfl] at kW
 rw [show numB ((s.drop 3).take 2) = dH s from rfl] at kH
 have hlt := dL_lt s
 rw [show numB ((s.drop 5).take 4) = dL s from rfl] at kb
 have f3 : ((s.length : Int) = 17 + (dL s : Int)) = True := eq_true (by omega)
 have ks := refSumOf_ok (s.take (s.length - 8)) (by rw [List.length_take]; omega)
 have hal := cut_all s c1
 have e8 : (s.length : Int) - 8 = ((s.length - 8 : Nat) : Int) := by omega
 have htd : (s.drop (s.length - 8)).take (s.length - (s.length - 8)) = s.drop (s.length - 8) := List.take_of_length_le (by rw [List.length_drop]; exact Nat.le_refl _)
 have hKl := dK_lt s
 have hWl := dW_lt s
 have hHl := dH_lt s
 have hDl := dD_len s c1
 have f4 : (sumB (s.take (s.length - 8)) = s.drop (s.length - 8)) = False := eq_false h3
 generalize dL s = L at *
 refine FnOk.of_vc Tryz.func16 rfl (by decide) (by simp [Tryz.f16]) [.cell 2 24, .tmp 3] rfl fun w0 T0 _ => ?_
 simp only [Tryz.f16, argEnv]
 (repeat' with_reducible first | intro _ | refine rz ?_ | refine ra ?_ ?_ | omega | simp (maxSteps := 9^7) only [go_sem, f1, f2])
 refine VcCall.k kb ?_
 (repeat' with_reducible first | intro _ | refine rz ?_ | refine ra ?_ ?_ | omega | simp (maxSteps := 9^7) only [go_sem, f3, e8])
 refine VcDraw.lex [] [] (by kernel_rfl) (by kernel_rfl) ?_
 (repeat' with_reducible first | intro _ | refine rz ?_ | refine ra ?_ ?_ | omega | simp (maxSteps := 9^7) only [go_sem, Nat.sub_zero, hal, e8])
 (refine QV.intro (.str (sumB (s.take (s.length - 8)))) ?_ ?_; focus ((repeat' with_reducible first | intro _ | refine rz ?_ | refine ra ?_ ?_ | omega | simp (maxSteps := 9^7) only [go_sem]); refine VcCall.k (ks) ?_; (repeat' with_reducible first | intro _ | refine rz ?_ | refine ra ?_ ?_ | omega | simp (maxSteps := 9^7) only [go_sem])))
 (repeat' with_reducible first | intro _ | refine rz ?_ | refine ra ?_ ?_ | omega | simp (maxSteps := 9^7) only [go_sem, Nat.sub_zero, hal, htd, f4, e8])
 refine VcCall.k (refDecNo_ok 14) ?_
 (repeat' with_reducible first | intro _ | refine rz ?_ | refine ra ?_ ?_ | omega | simp (maxSteps := 9^7) only [go_sem])
 refine Ret.auto 0 ?_ rfl ?_ <;> simp only [go_sem, Int.natCast_succ, Post]
set_option maxHeartbeats 8000000 in
theorem refDecode_e4 (s : Bytes) (c : DCut s) (h3 : sumB (s.take (s.length - 8)) = s.drop (s.length - 8)) (h4 : ¬ (1 ≤ dK s ∧ dK s ≤ 4)) : FnOk Tryz.prog 16 [.str s] (.tup [.agg [.int .i64 0, .int .i64 0, .nilS], .int .i64 1]) [] := by
 obtain ⟨c1, c2, c3⟩ := c
 have f1 : ((2097152 : Int) < (s.length : Int)) = False := eq_false (by omega)
 have f2 : ((s.length : Int) < 17) = False := eq_false (by omega)
 have kb := number_ok ((s.drop 5).take 4) (by rw [List.length_take]; omega)
 have kK := number_ok (s.take 1) (by rw [List.length_take]; omega)
 have kW := number_ok ((s.drop 1).take 2) (by rw [List.length_take]; omega)
 have kH := number_ok ((s.drop 3).take 2) (by rw [List.length_take]; omega)
 rw [show numB (s.take 1) = dK s from rfl] at kK
 rw [show numB ((s.drop 1).take 2) = dW s from rfl] at kW
 rw [show numB ((s.drop 3).take 2) = dH s from rfl] at kH
 have hlt := dL_lt s
 rw [show numB ((s.drop 5).take 4) = dL s from rfl] at kb
 have f3 : ((s.length : Int) = 17 + (dL s : Int)) = True := eq_true (by omega)
 have ks := refSumOf_ok (s.take (s.length - 8)) (by rw [List.length_take]; omega)
 have hal := cut_all s c1
 have e8 : (s.length : Int) - 8 = ((s.length - 8 : Nat) : Int) := by omega
 have htd : (s.drop (s.length - 8)).take (s.length - (s.length - 8)) = s.drop (s.length - 8) := List.take_of_length_le (by rw [List.length_drop]; exact Nat.le_refl _)
 have hKl := dK_lt s
 have hWl := dW_lt s
 have hHl := dH_lt s
 have hDl := dD_len s c1
 have f4 : (sumB (s.take (s.length - 8)) = s.drop (s.length - 8)) = True := eq_true h3
 have hk0 := dK_first s c1
 generalize dL s = L at *
 refine FnOk.of_vc Tryz.func16 rfl (by decide) (by simp [Tryz.f16]) [.cell 2 24, .tmp 3] rfl fun w0 T0 _ => ?_
 simp only [Tryz.f16, argEnv]
 by_cases h1k : dK s < 1
 ·have fk1 : ((dK s : Int) < 1) = True := eq_true (by omega)
  have fk2 : (4 < (dK s : Int)) = False := eq_false (by omega)
  (repeat' with_reducible first | intro _ | refine rz ?_ | refine ra ?_ ?_ | omega | simp (maxSteps := 9^7) only [go_sem, f1, f2])
  refine VcCall.k kb ?_
  (repeat' with_reducible first | intro _ | refine rz ?_ | refine ra ?_ ?_ | omega | simp (maxSteps := 9^7) only [go_sem, f3, e8])
  refine VcDraw.lex [] [] (by kernel_rfl) (by kernel_rfl) ?_
  (repeat' with_reducible first | intro _ | refine rz ?_ | refine ra ?_ ?_ | omega | simp (maxSteps := 9^7) only [go_sem, Nat.sub_zero, hal, e8])
  (refine QV.intro (.str (sumB (s.take (s.length - 8)))) ?_ ?_; focus ((repeat' with_reducible first | intro _ | refine rz ?_ | refine ra ?_ ?_ | omega | simp (maxSteps := 9^7) only [go_sem]); refine VcCall.k (ks) ?_; (repeat' with_reducible first | intro _ | refine rz ?_ | refine ra ?_ ?_ | omega | simp (maxSteps := 9^7) only [go_sem])))
  (repeat' with_reducible first | intro _ | refine rz ?_ | refine ra ?_ ?_ | omega | simp (maxSteps := 9^7) only [go_sem, Nat.sub_zero, hal, htd, f4, e8])
  refine VcDraw.lex [] [] (by kernel_rfl) (by kernel_rfl) ?_
  (repeat' with_reducible first | intro _ | refine rz ?_ | refine ra ?_ ?_ | omega | simp (maxSteps := 9^7) only [go_sem, hk0])
  (refine QV.intro (.int .i64 (dW s)) ?_ ?_; focus ((repeat' with_reducible first | intro _ | refine rz ?_ | refine ra ?_ ?_ | omega | simp (maxSteps := 9^7) only [go_sem]); refine VcCall.k (kW) ?_; (repeat' with_reducible first | intro _ | refine rz ?_ | refine ra ?_ ?_ | omega | simp (maxSteps := 9^7) only [go_sem])))
  (repeat' with_reducible first | intro _ | refine rz ?_ | refine ra ?_ ?_ | omega | simp (maxSteps := 9^7) only [go_sem])
  (refine QV.intro (.int .i64 (dH s)) ?_ ?_; focus ((repeat' with_reducible first | intro _ | refine rz ?_ | refine ra ?_ ?_ | omega | simp (maxSteps := 9^7) only [go_sem]); refine VcCall.k (kH) ?_; (repeat' with_reducible first | intro _ | refine rz ?_ | refine ra ?_ ?_ | omega | simp (maxSteps := 9^7) only [go_sem])))
  (repeat' with_reducible first | intro _ | refine rz ?_ | refine ra ?_ ?_ | omega | simp (maxSteps := 9^7) only [go_sem, fk1, fk2])
  refine VcCall.k (refDecNo_ok 1) ?_
  (repeat' with_reducible first | intro _ | refine rz ?_ | refine ra ?_ ?_ | omega | simp (maxSteps := 9^7) only [go_sem])
  refine Ret.auto 0 ?_ rfl ?_ <;> simp only [go_sem, Int.natCast_succ, Post]
 ·have fk1 : ((dK s : Int) < 1) = False := eq_false (by omega)
  have fk2 : (4 < (dK s : Int)) = True := eq_true (by omega)
  (repeat' with_reducible first | intro _ | refine rz ?_ | refine ra ?_ ?_ | omega | simp (maxSteps := 9^7) only [go_sem, f1, f2])
  refine VcCall.k kb ?_
  (repeat' with_reducible first | intro _ | refine rz ?_ | refine ra ?_ ?_ | omega | simp (maxSteps := 9^7) only [go_sem, f3, e8])
  refine VcDraw.lex [] [] (by kernel_rfl) (by kernel_rfl) ?_
  (repeat' with_reducible first | intro _ | refine rz ?_ | refine ra ?_ ?_ | omega | simp (maxSteps := 9^7) only [go_sem, Nat.sub_zero, hal, e8])
  (refine QV.intro (.str (sumB (s.take (s.length - 8)))) ?_ ?_; focus ((repeat' with_reducible first | intro _ | refine rz ?_ | refine ra ?_ ?_ | omega | simp (maxSteps := 9^7) only [go_sem]); refine VcCall.k (ks) ?_; (repeat' with_reducible first | intro _ | refine rz ?_ | refine ra ?_ ?_ | omega | simp (maxSteps := 9^7) only [go_sem])))
  (repeat' with_reducible first | intro _ | refine rz ?_ | refine ra ?_ ?_ | omega | simp (maxSteps := 9^7) only [go_sem, Nat.sub_zero, hal, htd, f4, e8])
  refine VcDraw.lex [] [] (by kernel_rfl) (by kernel_rfl) ?_
  (repeat' with_reducible first | intro _ | refine rz ?_ | refine ra ?_ ?_ | omega | simp (maxSteps := 9^7) only [go_sem, hk0])
  (refine QV.intro (.int .i64 (dW s)) ?_ ?_; focus ((repeat' with_reducible first | intro _ | refine rz ?_ | refine ra ?_ ?_ | omega | simp (maxSteps := 9^7) only [go_sem]); refine VcCall.k (kW) ?_; (repeat' with_reducible first | intro _ | refine rz ?_ | refine ra ?_ ?_ | omega | simp (maxSteps := 9^7) only [go_sem])))
  (repeat' with_reducible first | intro _ | refine rz ?_ | refine ra ?_ ?_ | omega | simp (maxSteps := 9^7) only [go_sem])
  (refine QV.intro (.int .i64 (dH s)) ?_ ?_; focus ((repeat' with_reducible first | intro _ | refine rz ?_ | refine ra ?_ ?_ | omega | simp (maxSteps := 9^7) only [go_sem]); refine VcCall.k (kH) ?_; (repeat' with_reducible first | intro _ | refine rz ?_ | refine ra ?_ ?_ | omega | simp (maxSteps := 9^7) only [go_sem])))
  (repeat' with_reducible first | intro _ | refine rz ?_ | refine ra ?_ ?_ | omega | simp (maxSteps := 9^7) only [go_sem, fk1, fk2])
  refine VcCall.k (refDecNo_ok 1) ?_
  (repeat' with_reducible first | intro _ | refine rz ?_ | refine ra ?_ ?_ | omega | simp (maxSteps := 9^7) only [go_sem])
  refine Ret.auto 0 ?_ rfl ?_ <;> simp only [go_sem, Int.natCast_succ, Post]
set_option maxHeartbeats 8000000 in
theorem refDecode_e5 (s : Bytes) (c : DCut s) (h3 : sumB (s.take (s.length - 8)) = s.drop (s.length - 8)) (h4 : 1 ≤ dK s ∧ dK s ≤ 4) (h5 : sizeErr (dW s) (dH s) ≠ 0) : FnOk Tryz.prog 16 [.str s] (.tup [.agg [.int .i64 0, .int .i64 0, .nilS], .int .i64 (sizeErr (dW s) (dH s))]) [] := by
 obtain ⟨c1, c2, c3⟩ := c
 have f1 : ((2097152 : Int) < (s.length : Int)) = False := eq_false (by omega)
 have f2 : ((s.length : Int) < 17) = False := eq_false (by omega)
 have kb := number_ok ((s.drop 5).take 4) (by rw [List.length_take]; omega)
 have kK := number_ok (s.take 1) (by rw [List.length_take]; omega)
 have kW := number_ok ((s.drop 1).take 2) (by rw [List.length_take]; omega)
 have kH := number_ok ((s.drop 3).take 2) (by rw [List.length_take]; omega)
 rw [show numB (s.take 1) = dK s from rfl] at kK
 rw [show numB ((s.drop 1).take 2) = dW s from rfl] at kW
 rw [show numB ((s.drop 3).take 2) = dH s from rfl] at kH
 have hlt := dL_lt s
 rw [show numB ((s.drop 5).take 4) = dL s from rfl] at kb
 have f3 : ((s.length : Int) = 17 + (dL s : Int)) = True := eq_true (by omega)
 have ks := refSumOf_ok (s.take (s.length - 8)) (by rw [List.length_take]; omega)
 have hal := cut_all s c1
 have e8 : (s.length : Int) - 8 = ((s.length - 8 : Nat) : Int) := by omega
 have htd : (s.drop (s.length - 8)).take (s.length - (s.length - 8)) = s.drop (s.length - 8) := List.take_of_length_le (by rw [List.length_drop]; exact Nat.le_refl _)
 have hKl := dK_lt s
 have hWl := dW_lt s
 have hHl := dH_lt s
 have hDl := dD_len s c1
 have f4 : (sumB (s.take (s.length - 8)) = s.drop (s.length - 8)) = True := eq_true h3
 have hk0 := dK_first s c1
 have fk1 : ((dK s : Int) < 1) = False := eq_false (by omega)
 have fk2 : (4 < (dK s : Int)) = False := eq_false (by omega)
 have kz := refSize_ok (dW s) (dH s)
 generalize sizeErr (dW s) (dH s) = z at *
 have f5 : (z = 0) = False := eq_false h5
 generalize dL s = L at *
 refine FnOk.of_vc Tryz.func16 rfl (by decide) (by simp [Tryz.f16]) [.cell 2 24, .tmp 3] rfl fun w0 T0 _ => ?_
 simp only [Tryz.f16, argEnv]
 (repeat' with_reducible first | intro _ | refine rz ?_ | refine ra ?_ ?_ | omega | simp (maxSteps := 9^7) only [go_sem, f1, f2])
 refine VcCall.k kb ?_
 (repeat' with_reducible first | intro _ | refine rz ?_ | refine ra ?_ ?_ | omega | simp (maxSteps := 9^7) only [go_sem, f3, e8])
 refine VcDraw.lex [] [] (by kernel_rfl) (by kernel_rfl) ?_
 (repeat' with_reducible first | intro _ | refine rz ?_ | refine ra ?_ ?_ | omega | simp (maxSteps := 9^7) only [go_sem, Nat.sub_zero, hal, e8])
 (refine QV.intro (.str (sumB (s.take (s.length - 8)))) ?_ ?_; focus ((repeat' with_reducible first | intro _ | refine rz ?_ | refine ra ?_ ?_ | omega | simp (maxSteps := 9^7) only [go_sem]); refine VcCall.k (ks) ?_; (repeat' with_reducible first | intro _ | refine rz ?_ | refine ra ?_ ?_ | omega | simp (maxSteps := 9^7) only [go_sem])))
 (repeat' with_reducible first | intro _ | refine rz ?_ | refine ra ?_ ?_ | omega | simp (maxSteps := 9^7) only [go_sem, Nat.sub_zero, hal, htd, f4, e8])
 refine VcDraw.lex [] [] (by kernel_rfl) (by kernel_rfl) ?_
 (repeat' with_reducible first | intro _ | refine rz ?_ | refine ra ?_ ?_ | omega | simp (maxSteps := 9^7) only [go_sem, hk0])
 (refine QV.intro (.int .i64 (dW s)) ?_ ?_; focus ((repeat' with_reducible first | intro _ | refine rz ?_ | refine ra ?_ ?_ | omega | simp (maxSteps := 9^7) only [go_sem]); refine VcCall.k (kW) ?_; (repeat' with_reducible first | intro _ | refine rz ?_ | refine ra ?_ ?_ | omega | simp (maxSteps := 9^7) only [go_sem])))
 (repeat' with_reducible first | intro _ | refine rz ?_ | refine ra ?_ ?_ | omega | simp (maxSteps := 9^7) only [go_sem])
 (refine QV.intro (.int .i64 (dH s)) ?_ ?_; focus ((repeat' with_reducible first | intro _ | refine rz ?_ | refine ra ?_ ?_ | omega | simp (maxSteps := 9^7) only [go_sem]); refine VcCall.k (kH) ?_; (repeat' with_reducible first | intro _ | refine rz ?_ | refine ra ?_ ?_ | omega | simp (maxSteps := 9^7) only [go_sem])))
 (repeat' with_reducible first | intro _ | refine rz ?_ | refine ra ?_ ?_ | omega | simp (maxSteps := 9^7) only [go_sem, fk1, fk2])
 refine VcCall.k kz ?_
 (repeat' with_reducible first | intro _ | refine rz ?_ | refine ra ?_ ?_ | omega | simp (maxSteps := 9^7) only [go_sem, f5])
 refine VcCall.k (refDecNo_ok z) ?_
 (repeat' with_reducible first | intro _ | refine rz ?_ | refine ra ?_ ?_ | omega | simp (maxSteps := 9^7) only [go_sem])
 refine Ret.auto 0 ?_ rfl ?_ <;> simp only [go_sem, Int.natCast_succ, Post]
set_option maxHeartbeats 8000000 in
theorem refDecode_e6 (s : Bytes) (c : DCut s) (h3 : sumB (s.take (s.length - 8)) = s.drop (s.length - 8)) (h4 : 1 ≤ dK s ∧ dK s ≤ 4) (h5 : sizeErr (dW s) (dH s) = 0) (h6 : (rPg s).2 = false) : FnOk Tryz.prog 16 [.str s] (.tup [.agg [.int .i64 0, .int .i64 0, .nilS], .int .i64 8]) [] := by
 obtain ⟨c1, c2, c3⟩ := c
 have f1 : ((2097152 : Int) < (s.length : Int)) = False := eq_false (by omega)
 have f2 : ((s.length : Int) < 17) = False := eq_false (by omega)
 have kb := number_ok ((s.drop 5).take 4) (by rw [List.length_take]; omega)
 have kK := number_ok (s.take 1) (by rw [List.length_take]; omega)
 have kW := number_ok ((s.drop 1).take 2) (by rw [List.length_take]; omega)
 have kH := number_ok ((s.drop 3).take 2) (by rw [List.length_take]; omega)
 rw [show numB (s.take 1) = dK s from rfl] at kK
 rw [show numB ((s.drop 1).take 2) = dW s from rfl] at kW
 rw [show numB ((s.drop 3).take 2) = dH s from rfl] at kH
 have hlt := dL_lt s
 rw [show numB ((s.drop 5).take 4) = dL s from rfl] at kb
 have f3 : ((s.length : Int) = 17 + (dL s : Int)) = True := eq_true (by omega)
 have ks := refSumOf_ok (s.take (s.length - 8)) (by rw [List.length_take]; omega)
 have hal := cut_all s c1
 have e8 : (s.length : Int) - 8 = ((s.length - 8 : Nat) : Int) := by omega
 have htd : (s.drop (s.length - 8)).take (s.length - (s.length - 8)) = s.drop (s.length - 8) := List.take_of_length_le (by rw [List.length_drop]; exact Nat.le_refl _)
 have hKl := dK_lt s
 have hWl := dW_lt s
 have hHl := dH_lt s
 have hDl := dD_len s c1
 have f4 : (sumB (s.take (s.length - 8)) = s.drop (s.length - 8)) = True := eq_true h3
 have hk0 := dK_first s c1
 have fk1 : ((dK s : Int) < 1) = False := eq_false (by omega)
 have fk2 : (4 < (dK s : Int)) = False := eq_false (by omega)
 have kz := refSize_ok (dW s) (dH s)
 have hz := sizeErr_zero h5
 have hwh : ((dW s : Int) * (dH s : Int)) = ((dW s * dH s : Nat) : Int) := (Int.natCast_mul _ _).symm
 rw [hwh] at hz
 rw [h5] at kz
 have kp := read_bad (dW s) (dH s) (by omega) (by omega) (by omega) (by omega) (dD s) (by omega) (dK s) (by omega) h6
 have hcut := dD_mid s c1
 have hp : rpOf (dK s) (dW s) (dH s) (dD s) = rPg s := rfl
 rw [hp] at kp
 generalize rPg s = q at *
 generalize dD s = d at *
 generalize dL s = L at *
 refine FnOk.of_vc Tryz.func16 rfl (by decide) (by simp [Tryz.f16]) [.cell 2 24, .tmp 3] rfl fun w0 T0 _ => ?_
 simp only [Tryz.f16, argEnv]
 (repeat' with_reducible first | intro _ | refine rz ?_ | refine ra ?_ ?_ | omega | simp (maxSteps := 9^7) only [go_sem, f1, f2])
 refine VcCall.k kb ?_
 (repeat' with_reducible first | intro _ | refine rz ?_ | refine ra ?_ ?_ | omega | simp (maxSteps := 9^7) only [go_sem, f3, e8])
 refine VcDraw.lex [] [] (by kernel_rfl) (by kernel_rfl) ?_
 (repeat' with_reducible first | intro _ | refine rz ?_ | refine ra ?_ ?_ | omega | simp (maxSteps := 9^7) only [go_sem, Nat.sub_zero, hal, e8])
 (refine QV.intro (.str (sumB (s.take (s.length - 8)))) ?_ ?_; focus ((repeat' with_reducible first | intro _ | refine rz ?_ | refine ra ?_ ?_ | omega | simp (maxSteps := 9^7) only [go_sem]); refine VcCall.k (ks) ?_; (repeat' with_reducible first | intro _ | refine rz ?_ | refine ra ?_ ?_ | omega | simp (maxSteps := 9^7) only [go_sem])))
 (repeat' with_reducible first | intro _ | refine rz ?_ | refine ra ?_ ?_ | omega | simp (maxSteps := 9^7) only [go_sem, Nat.sub_zero, hal, htd, f4, e8])
 refine VcDraw.lex [] [] (by kernel_rfl) (by kernel_rfl) ?_
 (repeat' with_reducible first | intro _ | refine rz ?_ | refine ra ?_ ?_ | omega | simp (maxSteps := 9^7) only [go_sem, hk0])
 (refine QV.intro (.int .i64 (dW s)) ?_ ?_; focus ((repeat' with_reducible first | intro _ | refine rz ?_ | refine ra ?_ ?_ | omega | simp (maxSteps := 9^7) only [go_sem]); refine VcCall.k (kW) ?_; (repeat' with_reducible first | intro _ | refine rz ?_ | refine ra ?_ ?_ | omega | simp (maxSteps := 9^7) only [go_sem])))
 (repeat' with_reducible first | intro _ | refine rz ?_ | refine ra ?_ ?_ | omega | simp (maxSteps := 9^7) only [go_sem])
 (refine QV.intro (.int .i64 (dH s)) ?_ ?_; focus ((repeat' with_reducible first | intro _ | refine rz ?_ | refine ra ?_ ?_ | omega | simp (maxSteps := 9^7) only [go_sem]); refine VcCall.k (kH) ?_; (repeat' with_reducible first | intro _ | refine rz ?_ | refine ra ?_ ?_ | omega | simp (maxSteps := 9^7) only [go_sem])))
 (repeat' with_reducible first | intro _ | refine rz ?_ | refine ra ?_ ?_ | omega | simp (maxSteps := 9^7) only [go_sem, fk1, fk2])
 refine VcCall.k kz ?_
 (repeat' with_reducible first | intro _ | refine rz ?_ | refine ra ?_ ?_ | omega | simp (maxSteps := 9^7) only [go_sem, hal, hcut, e8])
 refine VcCall.f kp 0 ?_
 (repeat' with_reducible first | intro _ | refine rz ?_ | refine ra ?_ ?_ | omega | simp (maxSteps := 9^7) only [go_sem])
 refine VcCall.k (refDecNo_ok 8) ?_
 (repeat' with_reducible first | intro _ | refine rz ?_ | refine ra ?_ ?_ | omega | simp (maxSteps := 9^7) only [go_sem])
 refine Ret.auto 0 ?_ rfl ?_ <;> simp only [go_sem, Int.natCast_succ, Post]
set_option maxHeartbeats 8000000 in
theorem refDecode_e7 (s : Bytes) (c : DCut s) (h3 : sumB (s.take (s.length - 8)) = s.drop (s.length - 8)) (h4 : 1 ≤ dK s ∧ dK s ≤ 4) (h5 : sizeErr (dW s) (dH s) = 0) (h6 : (rPg s).2 = true) (h7 : ¬ encB (dW s) (dH s) (rPg s).1 (dK s) = s) : FnOk Tryz.prog 16 [.str s] (.tup [.agg [.int .i64 0, .int .i64 0, .nilS], .int .i64 8]) [] := by
 obtain ⟨c1, c2, c3⟩ := c
 have f1 : ((2097152 : Int) < (s.length : Int)) = False := eq_false (by omega)
 have f2 : ((s.length : Int) < 17) = False := eq_false (by omega)
 have kb := number_ok ((s.drop 5).take 4) (by rw [List.length_take]; omega)
 have kK := number_ok (s.take 1) (by rw [List.length_take]; omega)
 have kW := number_ok ((s.drop 1).take 2) (by rw [List.length_take]; omega)
 have kH := number_ok ((s.drop 3).take 2) (by rw [List.length_take]; omega)
 rw [show numB (s.take 1) = dK s from rfl] at kK
 rw [show numB ((s.drop 1).take 2) = dW s from rfl] at kW
 rw [show numB ((s.drop 3).take 2) = dH s from rfl] at kH
 have hlt := dL_lt s
 rw [show numB ((s.drop 5).take 4) = dL s from rfl] at kb
 have f3 : ((s.length : Int) = 17 + (dL s : Int)) = True := eq_true (by omega)
 have ks := refSumOf_ok (s.take (s.length - 8)) (by rw [List.length_take]; omega)
 have hal := cut_all s c1
 have e8 : (s.length : Int) - 8 = ((s.length - 8 : Nat) : Int) := by omega
 have htd : (s.drop (s.length - 8)).take (s.length - (s.length - 8)) = s.drop (s.length - 8) := List.take_of_length_le (by rw [List.length_drop]; exact Nat.le_refl _)
 have hKl := dK_lt s
 have hWl := dW_lt s
 have hHl := dH_lt s
 have hDl := dD_len s c1
 have f4 : (sumB (s.take (s.length - 8)) = s.drop (s.length - 8)) = True := eq_true h3
 have hk0 := dK_first s c1
 have fk1 : ((dK s : Int) < 1) = False := eq_false (by omega)
 have fk2 : (4 < (dK s : Int)) = False := eq_false (by omega)
 have kz := refSize_ok (dW s) (dH s)
 have hz := sizeErr_zero h5
 have hwh : ((dW s : Int) * (dH s : Int)) = ((dW s * dH s : Nat) : Int) := (Int.natCast_mul _ _).symm
 rw [hwh] at hz
 rw [h5] at kz
 have kp := read_good (dW s) (dH s) (by omega) (by omega) (by omega) (by omega) (dD s) (by omega) (dK s) (by omega) h6
 have hcut := dD_mid s c1
 have hp : rpOf (dK s) (dW s) (dH s) (dD s) = rPg s := rfl
 rw [hp] at kp
 have hpl : (rPg s).1.length = dW s * dH s := rpOf_len h6
 have ke := refEncode_ok (dW s) (dH s) (by omega) (by omega) (by omega) (by omega) (rPg s).1 hpl (dK s) (by omega)
 have f9 : (encB (dW s) (dH s) (rPg s).1 (dK s) = s) = False := eq_false h7
 generalize encB (dW s) (dH s) (rPg s).1 (dK s) = E at *
 generalize rPg s = q at *
 generalize dD s = d at *
 generalize dL s = L at *
 refine FnOk.of_vc Tryz.func16 rfl (by decide) (by simp [Tryz.f16]) [.cell 2 24, .tmp 3] rfl fun w0 T0 _ => ?_
 simp only [Tryz.f16, argEnv]
 (repeat' with_reducible first | intro _ | refine rz ?_ | refine ra ?_ ?_ | omega | simp (maxSteps := 9^7) only [go_sem, f1, f2])
 refine VcCall.k kb ?_
 (repeat' with_reducible first | intro _ | refine rz ?_ | refine ra ?_ ?_ | omega | simp (maxSteps := 9^7) only [go_sem, f3, e8])
 refine VcDraw.lex [] [] (by kernel_rfl) (by kernel_rfl) ?_
 (repeat' with_reducible first | intro _ | refine rz ?_ | refine ra ?_ ?_ | omega | simp (maxSteps := 9^7) only [go_sem, Nat.sub_zero, hal, e8])
 (refine QV.intro (.str (sumB (s.take (s.length - 8)))) ?_ ?_; focus ((repeat' with_reducible first | intro _ | refine rz ?_ | refine ra ?_ ?_ | omega | simp (maxSteps := 9^7) only [go_sem]); refine VcCall.k (ks) ?_; (repeat' with_reducible first | intro _ | refine rz ?_ | refine ra ?_ ?_ | omega | simp (maxSteps := 9^7) only [go_sem])))
 (repeat' with_reducible first | intro _ | refine rz ?_ | refine ra ?_ ?_ | omega | simp (maxSteps := 9^7) only [go_sem, Nat.sub_zero, hal, htd, f4, e8])
 refine VcDraw.lex [] [] (by kernel_rfl) (by kernel_rfl) ?_
 (repeat' with_reducible first | intro _ | refine rz ?_ | refine ra ?_ ?_ | omega | simp (maxSteps := 9^7) only [go_sem, hk0])
 (refine QV.intro (.int .i64 (dW s)) ?_ ?_; focus ((repeat' with_reducible first | intro _ | refine rz ?_ | refine ra ?_ ?_ | omega | simp (maxSteps := 9^7) only [go_sem]); refine VcCall.k (kW) ?_; (repeat' with_reducible first | intro _ | refine rz ?_ | refine ra ?_ ?_ | omega | simp (maxSteps := 9^7) only [go_sem])))
 (repeat' with_reducible first | intro _ | refine rz ?_ | refine ra ?_ ?_ | omega | simp (maxSteps := 9^7) only [go_sem])
 (refine QV.intro (.int .i64 (dH s)) ?_ ?_; focus ((repeat' with_reducible first | intro _ | refine rz ?_ | refine ra ?_ ?_ | omega | simp (maxSteps := 9^7) only [go_sem]); refine VcCall.k (kH) ?_; (repeat' with_reducible first | intro _ | refine rz ?_ | refine ra ?_ ?_ | omega | simp (maxSteps := 9^7) only [go_sem])))
 (repeat' with_reducible first | intro _ | refine rz ?_ | refine ra ?_ ?_ | omega | simp (maxSteps := 9^7) only [go_sem, fk1, fk2])
 refine VcCall.k kz ?_
 (repeat' with_reducible first | intro _ | refine rz ?_ | refine ra ?_ ?_ | omega | simp (maxSteps := 9^7) only [go_sem, hal, hcut, e8])
 refine VcCall.o kp 1 ?_
 (repeat' with_reducible first | intro _ | refine rz ?_ | refine ra ?_ ?_ | omega | simp (maxSteps := 9^7) only [go_sem])
 refine VcCall.k ke ?_
 (repeat' with_reducible first | intro _ | refine rz ?_ | refine ra ?_ ?_ | omega | simp (maxSteps := 9^7) only [go_sem, f9])
 refine VcCall.k (refDecNo_ok 8) ?_
 (repeat' with_reducible first | intro _ | refine rz ?_ | refine ra ?_ ?_ | omega | simp (maxSteps := 9^7) only [go_sem])
 refine Ret.auto 0 ?_ rfl ?_ <;> simp only [go_sem, Int.natCast_succ, Post]
set_option maxHeartbeats 8000000 in
theorem refDecode_ok (s : Bytes) (c : DCut s) (h3 : sumB (s.take (s.length - 8)) = s.drop (s.length - 8)) (h4 : 1 ≤ dK s ∧ dK s ≤ 4) (h5 : sizeErr (dW s) (dH s) = 0) (h6 : (rPg s).2 = true) (h7 : encB (dW s) (dH s) (rPg s).1 (dK s) = s) : FnOk Tryz.prog 16 [.str s] (.tup [.agg [.int .i64 (dW s), .int .i64 (dH s), .own 0], .int .i64 0]) [(0, .row 4 (.bools (rPg s).1))] := by
 obtain ⟨c1, c2, c3⟩ := c
 have f1 : ((2097152 : Int) < (s.length : Int)) = False := eq_false (by omega)
 have f2 : ((s.length : Int) < 17) = False := eq_false (by omega)
 have kb := number_ok ((s.drop 5).take 4) (by rw [List.length_take]; omega)
 have kK := number_ok (s.take 1) (by rw [List.length_take]; omega)
 have kW := number_ok ((s.drop 1).take 2) (by rw [List.length_take]; omega)
 have kH := number_ok ((s.drop 3).take 2) (by rw [List.length_take]; omega)
 rw [show numB (s.take 1) = dK s from rfl] at kK
 rw [show numB ((s.drop 1).take 2) = dW s from rfl] at kW
 rw [show numB ((s.drop 3).take 2) = dH s from rfl] at kH
 have hlt := dL_lt s
 rw [show numB ((s.drop 5).take 4) = dL s from rfl] at kb
 have f3 : ((s.length : Int) = 17 + (dL s : Int)) = True := eq_true (by omega)
 have ks := refSumOf_ok (s.take (s.length - 8)) (by rw [List.length_take]; omega)
 have hal := cut_all s c1
 have e8 : (s.length : Int) - 8 = ((s.length - 8 : Nat) : Int) := by omega
 have htd : (s.drop (s.length - 8)).take (s.length - (s.length - 8)) = s.drop (s.length - 8) := List.take_of_length_le (by rw [List.length_drop]; exact Nat.le_refl _)
 have hKl := dK_lt s
 have hWl := dW_lt s
 have hHl := dH_lt s
 have hDl := dD_len s c1
 have f4 : (sumB (s.take (s.length - 8)) = s.drop (s.length - 8)) = True := eq_true h3
 have hk0 := dK_first s c1
 have fk1 : ((dK s : Int) < 1) = False := eq_false (by omega)
 have fk2 : (4 < (dK s : Int)) = False := eq_false (by omega)
 have kz := refSize_ok (dW s) (dH s)
 have hz := sizeErr_zero h5
 have hwh : ((dW s : Int) * (dH s : Int)) = ((dW s * dH s : Nat) : Int) := (Int.natCast_mul _ _).symm
 rw [hwh] at hz
 rw [h5] at kz
 have kp := read_good (dW s) (dH s) (by omega) (by omega) (by omega) (by omega) (dD s) (by omega) (dK s) (by omega) h6
 have hcut := dD_mid s c1
 have hp : rpOf (dK s) (dW s) (dH s) (dD s) = rPg s := rfl
 rw [hp] at kp
 have hpl : (rPg s).1.length = dW s * dH s := rpOf_len h6
 have ke := refEncode_ok (dW s) (dH s) (by omega) (by omega) (by omega) (by omega) (rPg s).1 hpl (dK s) (by omega)
 have f9 : (encB (dW s) (dH s) (rPg s).1 (dK s) = s) = True := eq_true h7
 generalize encB (dW s) (dH s) (rPg s).1 (dK s) = E at *
 generalize rPg s = q at *
 generalize dD s = d at *
 generalize dL s = L at *
 refine FnOk.of_vc Tryz.func16 rfl (by decide) (by simp [Tryz.f16]) [.cell 2 24, .tmp 3] rfl fun w0 T0 _ => ?_
 simp only [Tryz.f16, argEnv]
 (repeat' with_reducible first | intro _ | refine rz ?_ | refine ra ?_ ?_ | omega | simp (maxSteps := 9^7) only [go_sem, f1, f2])
 refine VcCall.k kb ?_
 (repeat' with_reducible first | intro _ | refine rz ?_ | refine ra ?_ ?_ | omega | simp (maxSteps := 9^7) only [go_sem, f3, e8])
 refine VcDraw.lex [] [] (by kernel_rfl) (by kernel_rfl) ?_
 (repeat' with_reducible first | intro _ | refine rz ?_ | refine ra ?_ ?_ | omega | simp (maxSteps := 9^7) only [go_sem, Nat.sub_zero, hal, e8])
 (refine QV.intro (.str (sumB (s.take (s.length - 8)))) ?_ ?_; focus ((repeat' with_reducible first | intro _ | refine rz ?_ | refine ra ?_ ?_ | omega | simp (maxSteps := 9^7) only [go_sem]); refine VcCall.k (ks) ?_; (repeat' with_reducible first | intro _ | refine rz ?_ | refine ra ?_ ?_ | omega | simp (maxSteps := 9^7) only [go_sem])))
 (repeat' with_reducible first | intro _ | refine rz ?_ | refine ra ?_ ?_ | omega | simp (maxSteps := 9^7) only [go_sem, Nat.sub_zero, hal, htd, f4, e8])
 refine VcDraw.lex [] [] (by kernel_rfl) (by kernel_rfl) ?_
 (repeat' with_reducible first | intro _ | refine rz ?_ | refine ra ?_ ?_ | omega | simp (maxSteps := 9^7) only [go_sem, hk0])
 (refine QV.intro (.int .i64 (dW s)) ?_ ?_; focus ((repeat' with_reducible first | intro _ | refine rz ?_ | refine ra ?_ ?_ | omega | simp (maxSteps := 9^7) only [go_sem]); refine VcCall.k (kW) ?_; (repeat' with_reducible first | intro _ | refine rz ?_ | refine ra ?_ ?_ | omega | simp (maxSteps := 9^7) only [go_sem])))
 (repeat' with_reducible first | intro _ | refine rz ?_ | refine ra ?_ ?_ | omega | simp (maxSteps := 9^7) only [go_sem])
 (refine QV.intro (.int .i64 (dH s)) ?_ ?_; focus ((repeat' with_reducible first | intro _ | refine rz ?_ | refine ra ?_ ?_ | omega | simp (maxSteps := 9^7) only [go_sem]); refine VcCall.k (kH) ?_; (repeat' with_reducible first | intro _ | refine rz ?_ | refine ra ?_ ?_ | omega | simp (maxSteps := 9^7) only [go_sem])))
 (repeat' with_reducible first | intro _ | refine rz ?_ | refine ra ?_ ?_ | omega | simp (maxSteps := 9^7) only [go_sem, fk1, fk2])
 refine VcCall.k kz ?_
 (repeat' with_reducible first | intro _ | refine rz ?_ | refine ra ?_ ?_ | omega | simp (maxSteps := 9^7) only [go_sem, hal, hcut, e8])
 refine VcCall.o kp 1 ?_
 (repeat' with_reducible first | intro _ | refine rz ?_ | refine ra ?_ ?_ | omega | simp (maxSteps := 9^7) only [go_sem])
 refine VcCall.k ke ?_
 (repeat' with_reducible first | intro _ | refine rz ?_ | refine ra ?_ ?_ | omega | simp (maxSteps := 9^7) only [go_sem, f9])
 refine Ret.auto 1 ?_ rfl ?_ <;> simp only [go_sem, Int.natCast_succ, Post]
theorem refDecode_fr (s : Bytes) (hs : s.length ≤ 200000000000000) : FnFr Tryz.prog 16 [.str s] (dqA (decR s)) [] := by
 unfold decR
 have no : ∀ e, FnOk Tryz.prog 16 [.str s] (.tup [.agg [.int .i64 0, .int .i64 0, .nilS], .int .i64 e]) [] → FnFr Tryz.prog 16 [.str s] (dqA (dNo e)) [] := fun e k =>
  FnFr.toRo (FnFr.of_ok k rfl rfl) (by simp [dqA, dNo, outOk, argOkL, allOk, argOk, argOkN, lk, noIdR_ok, nilRow])
 by_cases h1 : 2097152 < s.length
 ·rw [if_pos h1]; exact no _ (refDecode_e1 s hs h1)
 rw [if_neg h1]
 by_cases h2 : s.length < 17 ∨ s.length ≠ 17 + dL s
 ·rw [if_pos h2]; exact no _ (refDecode_e2 s (by omega) h2)
 rw [if_neg h2]
 have c : DCut s := ⟨by omega, by omega, by omega⟩
 by_cases h3 : sumB (s.take (s.length - 8)) = s.drop (s.length - 8)
 rotate_left
 ·rw [if_pos h3]; exact no _ (refDecode_e3 s c h3)
 rw [if_neg (fun h => h h3)]
 by_cases h4 : 1 ≤ dK s ∧ dK s ≤ 4
 rotate_left
 ·rw [if_pos h4]; exact no _ (refDecode_e4 s c h3 h4)
 rw [if_neg (fun h => h h4)]
 by_cases h5 : sizeErr (dW s) (dH s) = 0
 rotate_left
 ·rw [if_pos h5]; exact no _ (refDecode_e5 s c h3 h4 h5)
 rw [if_neg (fun h => h h5)]
 have hz := sizeErr_zero h5
 obtain ⟨g1, g2⟩ := rGood_eq (s := s) (by omega)
 by_cases h6 : (rPg s).2 = true
 rotate_left
 ·rw [if_neg (fun h => h6 (g1.2 h).1)]; exact no _ (refDecode_e6 s c h3 h4 h5 (by simpa using h6))
 by_cases h7 : encB (dW s) (dH s) (rPg s).1 (dK s) = s
 ·have hg : rGood s := ⟨h6, h7⟩
  rw [if_pos (g1.1 hg), ← g2 hg]
  exact FnFr.toRo (FnFr.of_ok (refDecode_ok s c h3 h4 h5 h6 h7) rfl rfl) (by simp [dqA, outOk, argOkL, allOk, argOk, argOkN, lk, noIdR_ok])
 ·rw [if_neg (fun h => h7 (g1.2 h).2)]; exact no _ (refDecode_e7 s c h3 h4 h5 h6 h7)
set_option maxHeartbeats 1000000 in
theorem equalBools_ok (a b : List Bool) : FnOk Tryz.prog 77 [.ro (.bools a), .ro (.bools b)] (.bool (decide (a = b))) [] := by
 refine FnOk.of_vc Tryz.func77 rfl (by decide) (by simp [Tryz.f77]) [.tmp 4] rfl fun w0 T0 _ => ?_
 simp only [Tryz.f77, argEnv]
 simp (maxSteps := 9^7) only [go_sem]
 refine Asm.intro fun _ => Asm.intro fun _ => Ite.decide (fun h => ?_) fun h => ?_
 ·simp (maxSteps := 9^7) only [go_sem]
  refine Ret.auto 0 ?_ rfl (by simp [subOk])
  have : a ≠ b := by intro e; subst e; exact h rfl
  simp only [go_sem, Int.natCast_succ, Post, this, decide_false, decide_true]
 have hl : a.length = b.length := by omega
 simp (maxSteps := 9^7) only [go_sem]
 refine Asm.intro fun _ => VcLoop.intro (fun i : Nat => ⟨26, [(0, .ro (.bools a)), (1, .ro (.bools b)), (12, .int .i64 a.length), (13, .int .i64 i)], [], 0⟩) (fun i => i ≤ a.length ∧ ∀ j, j < i → a.getD j false = b.getD j false) (fun i => a.length - i) 0 ?_ ⟨by omega, fun j hj => by omega⟩ fun i hi => ?_
 ·refine Ent.auto0 rfl ?_ ?_ <;> simp only [go_sem, Int.natCast_succ]
 simp (maxSteps := 9^7) only [go_sem]
 refine Ite.decide (fun h1 => ?_) (fun h1 => ?_)
 ·simp (maxSteps := 9^7) only [go_sem]
  refine VcDraw.lex [] [] (by kernel_rfl) (by kernel_rfl) ?_
  simp (maxSteps := 9^7) only [go_sem]
  (repeat' first | (with_reducible refine Asm.intro fun _ => ?_) | ((with_reducible refine Chk.intro ?_ ?_); (· first | omega | (with_reducible refine Chk.intro ?_ ?_ <;> omega) | (simp; done) | (simp; omega))) | ((with_reducible refine LetW.i64 ?_ ?_ ?_); (· omega); (· omega)) | ((with_reducible refine Ite.decide (fun _ => ?_) (fun _ => ?_)) <;> first | (exfalso; omega) | simp (maxSteps := 9^7) only [go_sem]) | ((with_reducible refine Ite.bool (fun _ => ?_) (fun _ => ?_)) <;> simp (maxSteps := 9^7) only [go_sem]) | (with_reducible refine And.intro ?_ ?_))
  ·rename_i h2
   refine Ret.auto 0 ?_ rfl (by simp [subOk])
   have : a ≠ b := by intro e; subst e; exact h2 rfl
   simp only [go_sem, Int.natCast_succ, Post, this]
  ·rename_i h2
   refine ⟨i + 1, Ent.auto0 rfl ?_ ?_, ⟨by omega, fun j hj => ?_⟩, by omega⟩
   ·simp only [go_sem, Int.natCast_succ]
    all_goals omega
   ·simp only [go_sem, Int.natCast_succ]
   ·by_cases e : j = i
    ·subst e; exact Decidable.of_not_not h2
    ·exact hi.2 j (by omega)
 ·simp (maxSteps := 9^7) only [go_sem]
  refine Ret.auto 0 ?_ rfl (by simp [subOk])
  have : a = b := eq_of_getD false hl fun j hj => hi.2 j (by omega)
  simp only [go_sem, Int.natCast_succ, Post, this, decide_false, decide_true]
set_option maxHeartbeats 1000000 in
theorem sameBits_ok (w h w' h' : Int) (p p' : List Bool) : FnOk Tryz.prog 23 [.agg [.int .i64 w, .int .i64 h, .ro (.bools p)], .agg [.int .i64 w', .int .i64 h', .ro (.bools p')]] (.bool (decide (w = w' ∧ h = h' ∧ p = p'))) [] := by
 refine FnOk.of_vc Tryz.func23 rfl (by decide) (by simp [Tryz.f23]) [.tmp 4] rfl fun w0 T0 _ => ?_
 simp only [Tryz.f23, argEnv]
 simp (maxSteps := 9^7) only [go_sem]
 (repeat' first | (with_reducible refine Asm.intro fun _ => ?_) | ((with_reducible refine Chk.intro ?_ ?_); (· first | omega | (with_reducible refine Chk.intro ?_ ?_ <;> omega) | (simp; done) | (simp; omega))) | ((with_reducible refine LetW.i64 ?_ ?_ ?_); (· omega); (· omega)) | ((with_reducible refine Ite.decide (fun _ => ?_) (fun _ => ?_)) <;> first | (exfalso; omega) | simp (maxSteps := 9^7) only [go_sem]) | ((with_reducible refine Ite.bool (fun _ => ?_) (fun _ => ?_)) <;> simp (maxSteps := 9^7) only [go_sem]) | (with_reducible refine And.intro ?_ ?_))
 ·refine VcCall.fr (args' := [.ro (.bools p), .ro (.bools p')]) (FnFr.of_ok (equalBools_ok p p') rfl rfl) (by simp [argOkL, allOk, argOkN]) 0 rfl (by simp [rowsB]) ?_
  try simp (maxSteps := 9^7) only [go_sem]
  (repeat' first | (with_reducible refine Asm.intro fun _ => ?_) | ((with_reducible refine Chk.intro ?_ ?_); (· first | omega | (with_reducible refine Chk.intro ?_ ?_ <;> omega) | (simp; done) | (simp; omega))) | ((with_reducible refine LetW.i64 ?_ ?_ ?_); (· omega); (· omega)) | ((with_reducible refine Ite.decide (fun _ => ?_) (fun _ => ?_)) <;> first | (exfalso; omega) | simp (maxSteps := 9^7) only [go_sem]) | ((with_reducible refine Ite.bool (fun _ => ?_) (fun _ => ?_)) <;> simp (maxSteps := 9^7) only [go_sem]) | (with_reducible refine And.intro ?_ ?_))
  rename_i h1
  refine Ret.auto 0 ?_ rfl ?_ <;> simp only [go_sem, Int.natCast_succ, Post]
  simp [h1.1, h1.2]
 ·rename_i h1
  refine Ret.auto 0 ?_ rfl ?_ <;> simp only [go_sem, Int.natCast_succ, Post]
  exact (decide_eq_false fun x => h1 ⟨x.1, x.2.1⟩).symm
set_option maxHeartbeats 1000000 in
theorem alike_err (w h : Int) (p : List Bool) (e w' h' : Int) (p' : List Bool) (f : Int) (hf : f ≠ 0) : FnOk Tryz.prog 17 [.agg [.int .i64 w, .int .i64 h, .ro (.bools p)], .int .i64 e, .agg [.int .i64 w', .int .i64 h', .ro (.bools p')], .int .i64 f] (.bool (decide (((e = f ∧ w = 0) ∧ h = 0) ∧ (p.length : Int) = 0))) [] := by
 refine FnOk.of_vc Tryz.func17 rfl (by decide) (by simp [Tryz.f17]) [.tmp 8] rfl fun w0 T0 _ => ?_
 simp only [Tryz.f17, argEnv]
 simp (maxSteps := 9^7) only [go_sem]
 (repeat' first | (with_reducible refine Asm.intro fun _ => ?_) | ((with_reducible refine Chk.intro ?_ ?_); (· first | omega | (with_reducible refine Chk.intro ?_ ?_ <;> omega) | (simp; done) | (simp; omega))) | ((with_reducible refine LetW.i64 ?_ ?_ ?_); (· omega); (· omega)) | ((with_reducible refine Ite.decide (fun _ => ?_) (fun _ => ?_)) <;> first | (exfalso; omega) | simp (maxSteps := 9^7) only [go_sem]) | ((with_reducible refine Ite.bool (fun _ => ?_) (fun _ => ?_)) <;> simp (maxSteps := 9^7) only [go_sem]) | (with_reducible refine And.intro ?_ ?_))
 refine Ret.auto 0 ?_ rfl ?_ <;> simp only [go_sem, Int.natCast_succ, Post]
set_option maxHeartbeats 1000000 in
theorem alike_ok (w h : Int) (p : List Bool) (e w' h' : Int) (p' : List Bool) : FnOk Tryz.prog 17 [.agg [.int .i64 w, .int .i64 h, .ro (.bools p)], .int .i64 e, .agg [.int .i64 w', .int .i64 h', .ro (.bools p')], .int .i64 0] (.bool (decide (e = 0 ∧ w = w' ∧ h = h' ∧ p = p'))) [] := by
 refine FnOk.of_vc Tryz.func17 rfl (by decide) (by simp [Tryz.f17]) [.tmp 8] rfl fun w0 T0 _ => ?_
 simp only [Tryz.f17, argEnv]
 simp (maxSteps := 9^7) only [go_sem]
 (repeat' first | (with_reducible refine Asm.intro fun _ => ?_) | ((with_reducible refine Chk.intro ?_ ?_); (· first | omega | (with_reducible refine Chk.intro ?_ ?_ <;> omega) | (simp; done) | (simp; omega))) | ((with_reducible refine LetW.i64 ?_ ?_ ?_); (· omega); (· omega)) | ((with_reducible refine Ite.decide (fun _ => ?_) (fun _ => ?_)) <;> first | (exfalso; omega) | simp (maxSteps := 9^7) only [go_sem]) | ((with_reducible refine Ite.bool (fun _ => ?_) (fun _ => ?_)) <;> simp (maxSteps := 9^7) only [go_sem]) | (with_reducible refine And.intro ?_ ?_))
 ·rename_i h1
  refine VcCall.fr (args' := [.agg [.int .i64 w, .int .i64 h, .ro (.bools p)], .agg [.int .i64 w', .int .i64 h', .ro (.bools p')]]) (FnFr.of_ok (sameBits_ok w h w' h' p p') rfl rfl) (by simp [argOkL, allOk, argOkN]) 0 rfl (by simp [rowsB]) ?_
  simp (maxSteps := 9^7) only [go_sem]
  (repeat' first | (with_reducible refine Asm.intro fun _ => ?_) | ((with_reducible refine Chk.intro ?_ ?_); (· first | omega | (with_reducible refine Chk.intro ?_ ?_ <;> omega) | (simp; done) | (simp; omega))) | ((with_reducible refine LetW.i64 ?_ ?_ ?_); (· omega); (· omega)) | ((with_reducible refine Ite.decide (fun _ => ?_) (fun _ => ?_)) <;> first | (exfalso; omega) | simp (maxSteps := 9^7) only [go_sem]) | ((with_reducible refine Ite.bool (fun _ => ?_) (fun _ => ?_)) <;> simp (maxSteps := 9^7) only [go_sem]) | (with_reducible refine And.intro ?_ ?_))
  refine Ret.auto 0 ?_ rfl ?_ <;> simp only [go_sem, Int.natCast_succ, Post]
  simp [h1]
 ·rename_i h1
  refine Ret.auto 0 ?_ rfl ?_ <;> simp only [go_sem, Int.natCast_succ, Post]
  exact (decide_eq_false fun x => h1 x.1).symm
end Go.Fv.H
/- The reference's Shortest: the walk. -/
namespace Go.Fv.H
open Go Go.Proofs
set_option linter.unusedSimpArgs false
set_option linter.unusedVariables false
set_option linter.unnecessarySimpa false
set_option maxRecDepth 8000
end Go.Fv.H
/- A page made right: the walk's result, and how long its codes are. -/
namespace Go.Fv.H
open Go Go.Proofs
set_option linter.unusedSimpArgs false
set_option linter.unusedVariables false
set_option linter.unnecessarySimpa false
set_option maxRecDepth 8000
structure FPg where
 (w h : Nat) (p : List Bool)
def fitG (W H : Int) (p : List Bool) : FPg := ⟨fitN W 31, fitN H 31, rowsOf (fitN W 31) (fitB p (fitN W 31)) (fitN H 31 * fitN W 31)⟩
structure FPg.Ok (b : FPg) : Prop where
 g : PgOk b.w b.h b.p
 w32 : b.w ≤ 32
 h32 : b.h ≤ 32
theorem fitG_ok (W H : Int) (p : List Bool) : (fitG W H p).Ok := by
 obtain ⟨w1, w2, _⟩ := fitN_bd W 31 (by decide)
 obtain ⟨h1, h2, _⟩ := fitN_bd H 31 (by decide)
 have hl := rowsOf_len (fitN W 31) (fitB p (fitN W 31)) (fitN H 31 * fitN W 31)
 have hm : fitN W 31 * fitN H 31 ≤ 32 * 32 := Nat.mul_le_mul w2 h2
 refine ⟨⟨w1, ?_, h1, ?_, ?_, ?_⟩, w2, h2⟩
 ·show fitN W 31 ≤ 4000; omega
 ·show fitN H 31 ≤ 4000; omega
 ·show fitN W 31 * fitN H 31 ≤ _; omega
 ·show (rowsOf _ _ _).length = fitN W 31 * fitN H 31; rw [hl, Nat.mul_comm]
def FPg.av (b : FPg) : AV := .agg [.int .i64 b.w, .int .i64 b.h, .ro (.bools b.p)]
theorem fit_fr (W H : Int) (p : List Bool) : FnFr Tryz.prog 12 [.agg [.int .i64 W, .int .i64 H, .ro (.bools p)]] (.agg [.int .i64 (fitG W H p).w, .int .i64 (fitG W H p).h, .ro (.bools (fitG W H p).p)]) [] :=
 FnFr.toRo (FnFr.of_ok (fit_ok W H p) rfl rfl) (by simp [fitG, outOk, argOkL, allOk, argOk, argOkN, lk, noIdR_ok])
theorem encB_short {w h : Nat} {p : List Bool} (g : PgOk w h p) (kind : Int) : (encB w h p kind).length ≤ 1048597 := by
 have := dataB_short g kind
 rw [encB_len]; omega
theorem encB_pos (w h : Nat) (p : List Bool) (kind : Int) : 17 ≤ (encB w h p kind).length := by rw [encB_len]; omega
theorem alike_same (w h : Nat) (p : List Bool) (e : Int) (he : e ≠ 0 → w = 0 ∧ h = 0 ∧ p = []) : FnOk Tryz.prog 17 [.agg [.int .i64 w, .int .i64 h, .ro (.bools p)], .int .i64 e, .agg [.int .i64 w, .int .i64 h, .ro (.bools p)], .int .i64 e] (.bool true) [] := by
 by_cases h0 : e = 0
 ·subst h0
  have k := alike_ok (w : Int) (h : Int) p 0 (w : Int) (h : Int) p
  rw [decide_eq_true ⟨rfl, rfl, rfl, rfl⟩] at k
  exact k
 ·obtain ⟨rfl, rfl, rfl⟩ := he h0
  have k := alike_err ((0 : Nat) : Int) ((0 : Nat) : Int) [] e ((0 : Nat) : Int) ((0 : Nat) : Int) [] e h0
  rw [decide_eq_true ⟨⟨⟨rfl, rfl⟩, rfl⟩, rfl⟩] at k
  exact k
theorem decR_err (s : Bytes) (he : (decR s).e ≠ 0) : (decR s).w = 0 ∧ (decR s).h = 0 ∧ (decR s).p = [] := by
 unfold decR at he ⊢
 split
 ·exact ⟨rfl, rfl, rfl⟩
 ·split
  ·exact ⟨rfl, rfl, rfl⟩
  ·split
   ·exact ⟨rfl, rfl, rfl⟩
   ·split
    ·exact ⟨rfl, rfl, rfl⟩
    ·split
     ·exact ⟨rfl, rfl, rfl⟩
     ·split
      ·rename_i h1 h2 h3 h4 h5 h6
       rw [if_neg h1, if_neg h2, if_neg h3, if_neg h4, if_neg h5, if_pos h6] at he
       exact absurd rfl he
      ·exact ⟨rfl, rfl, rfl⟩
theorem alike_dec (s : Bytes) : FnOk Tryz.prog 17 [.agg [.int .i64 (decR s).w, .int .i64 (decR s).h, .ro (.bools (decR s).p)], .int .i64 (decR s).e, .agg [.int .i64 (decR s).w, .int .i64 (decR s).h, .ro (.bools (decR s).p)], .int .i64 (decR s).e] (.bool true) [] :=
 alike_same _ _ _ _ (decR_err s)
end Go.Fv.H
/- The laws' first question. -/
namespace Go.Fv.H
open Go Go.Proofs
set_option linter.unusedSimpArgs false
set_option linter.unusedVariables false
set_option maxRecDepth 8000
theorem landed_ok : FnOk Tryz.prog 11 [] (.bool true) [] := by
 have k := isName_ok [97]
 refine FnOk.of_vc Tryz.func11 rfl (by decide) (by simp [Tryz.f11]) [.tmp 0] rfl fun w0 T0 _ => ?_
 simp only [Tryz.f11, argEnv]
 have e : nameOk [97] = true := by decide
 rw [e] at k
 (repeat' with_reducible first | intro _ | refine rz ?_ | refine ra ?_ ?_ | omega | simp (maxSteps := 9^7) only [go_sem])
 refine VcCall.k k ?_
 (repeat' with_reducible first | intro _ | refine rz ?_ | refine ra ?_ ?_ | omega | simp (maxSteps := 9^7) only [go_sem])
 refine Ret.auto 0 ?_ rfl ?_ <;> simp only [go_sem, Int.natCast_succ, Post]
end Go.Fv.H
/- CodesAreChecked: the law. -/
namespace Go.Fv.H
open Go Go.Proofs
set_option linter.unusedSimpArgs false
set_option linter.unusedVariables false
set_option linter.unnecessarySimpa false
set_option maxRecDepth 8000
def sumOk (s : Bytes) : Prop := sumB (s.take (s.length - 8)) = s.drop (s.length - 8)
theorem decR_sum {s : Bytes} (h : (decR s).e = 0) : sumOk s ∧ 17 ≤ s.length := by
 have h0 := decR_ok h
 have e := h0.2.2.1
 have hl := encB_len (decR s).w (decR s).h (decR s).p (dK s)
 have k := dSum_enc (decR s).w (decR s).h (decR s).p (dK s)
 rw [e] at k hl
 exact ⟨k, by omega⟩
theorem sum_changed {s : Bytes} (hs : sumOk s) (h8 : 8 ≤ s.length) {k : Nat} (hk : k < s.length) {x : UInt8} (hx : x ≠ s.getD k 0) : ¬ sumOk (s.set k x) := by
 intro h
 unfold sumOk at hs h
 rw [List.length_set] at h
 by_cases hk8 : k < s.length - 8
 ·have e1 : (s.set k x).drop (s.length - 8) = s.drop (s.length - 8) := by
   rw [List.drop_set_of_lt hk8]
  have e2 : (s.set k x).take (s.length - 8) = (s.take (s.length - 8)).set k x := by rw [List.take_set]
  rw [e1, e2, ← hs] at h
  have hl : k < (s.take (s.length - 8)).length := by rw [List.length_take]; omega
  have hg : (s.take (s.length - 8)).getD k 0 = s.getD k 0 := by
   rw [List.getD_eq_getElem?_getD, List.getElem?_take_of_lt hk8, ← List.getD_eq_getElem?_getD]
  generalize s.take (s.length - 8) = a at *
  have hsp : a = a.take k ++ a.getD k 0 :: a.drop (k + 1) := by
   rw [getD_lt hl]
   have := List.take_append_drop k a
   rw [List.drop_eq_getElem_cons hl] at this
   exact this.symm
  have hset : a.set k x = a.take k ++ x :: a.drop (k + 1) := by
   rw [List.set_eq_take_append_cons_drop, if_pos hl]
  rw [hset] at h
  conv at h => rhs; rw [hsp]
  have := sumB_set (a.take k) (a.drop (k + 1)) h
  exact hx (by rw [this, hg])
 ·have e2 : (s.set k x).take (s.length - 8) = s.take (s.length - 8) := by
   rw [List.take_set, List.set_eq_of_length_le (by rw [List.length_take]; omega)]
  rw [e2, hs] at h
  have hg : ((s.set k x).drop (s.length - 8))[k - (s.length - 8)]? = (s.drop (s.length - 8))[k - (s.length - 8)]? := by rw [h]
  rw [List.getElem?_drop, List.getElem?_drop, show s.length - 8 + (k - (s.length - 8)) = k by omega, List.getElem?_set_self hk, List.getElem?_eq_getElem hk] at hg
  have := Option.some.inj hg
  exact hx (by rw [getD_lt hk]; exact this)
theorem dec_changed {w h : Nat} {p : List Bool} (kind : Int) {k : Nat} (hk : k < (encB w h p kind).length) {x : UInt8} (hx : x ≠ (encB w h p kind).getD k 0) : (decR ((encB w h p kind).set k x)).e ≠ 0 := by
 intro hd
 have hl := encB_len w h p kind
 have hs : sumOk (encB w h p kind) := dSum_enc w h p kind
 generalize encB w h p kind = E at *
 exact sum_changed hs (by omega) hk hx (decR_sum hd).1
theorem xor8 (a b : UInt8) : bitsI .xor .u8 (a.toNat : Int) (b.toNat : Int) = (((a ^^^ b : UInt8).toNat : Nat) : Int) := by
 obtain ⟨e1, e2⟩ := bits8_nat a.toNat b.toNat a.toNat_lt b.toNat_lt
 show IntKind.u8.wrap (((BitVec.ofInt 8 (a.toNat : Int)) ^^^ (BitVec.ofInt 8 (b.toNat : Int))).toNat : Int) = _
 rw [BitVec.toNat_xor, e1, e2, UInt8.toNat_xor, wrap8]
 have h : a.toNat ^^^ b.toNat < 256 := Nat.xor_lt_two_pow (n := 8) a.toNat_lt b.toNat_lt
 omega
theorem xor_ne {a b : UInt8} (hb : b ≠ 0) : a ^^^ b ≠ a := by
 intro h
 apply hb
 apply UInt8.toNat_inj.1
 have h1 := congrArg UInt8.toNat h
 rw [UInt8.toNat_xor] at h1
 have : a.toNat ^^^ b.toNat = a.toNat ^^^ 0 := by rw [h1, Nat.xor_zero]
 have h2 : a.toNat ^^^ (a.toNat ^^^ b.toNat) = a.toNat ^^^ (a.toNat ^^^ 0) := by rw [this]
 rw [← Nat.xor_assoc, ← Nat.xor_assoc, Nat.xor_self, Nat.zero_xor, Nat.zero_xor] at h2
 rw [h2]; rfl
theorem bytes_set1 (E : Bytes) (k : Nat) (x : UInt8) : (byteInts E).set k (x.toNat : Int) = byteInts (E.set k x) := by unfold byteInts; rw [List.map_set]
theorem place_bd (at_ : Int) {n : Nat} (h : 0 < n) : 0 ≤ ((at_.tmod n + n).tmod n : Int) ∧ ((at_.tmod n + n).tmod n : Int) < n ∧ -(n : Int) < at_.tmod n ∧ at_.tmod n < n := by
 have h1 : -(n : Int) < at_.tmod n := by
  have := Int.lt_tmod_of_pos (a := at_) (b := n) (by omega)
  exact this
 have h2 : at_.tmod n < n := Int.tmod_lt_of_pos _ (by omega)
 refine ⟨Int.tmod_nonneg _ (by omega), Int.tmod_lt_of_pos _ (by omega), h1, h2⟩
set_option maxHeartbeats 16000000 in
theorem codesChk_ok (W H : Int) (p : List Bool) (kind0 at_ cut : Int) (c : UInt8) (more : Bytes) (hm : more.length ≤ 140737488351232) (summed : Bool) :
  FnOk Tryz.prog 3 [.agg [.int .i64 W, .int .i64 H, .ro (.bools p)], .int .i64 kind0, .int .i64 at_, .int .i64 cut, .int .u8 c.toNat, .str more, .bool summed] (.bool true) [] := by
 have kf := fit_fr W H p
 have hb := fitG_ok W H p
 generalize fitG W H p = b at *
 obtain ⟨w, h, q⟩ := b
 obtain ⟨g, w32, h32⟩ := hb
 dsimp only at kf g w32 h32
 obtain ⟨n1, n2, n3⟩ := fitN_bd kind0 3 (by decide)
 replace n3 : 1 + bitsI .and .i64 kind0 3 = ((fitN kind0 3 : Nat) : Int) := n3
 generalize fitN kind0 3 = kn at *
 have ke := refEncode_ok w h g.w0 g.w1 g.h1 g.wh q g.p (kn : Int) (by omega)
 have hEl := encB_short g (kn : Int)
 have hEp := encB_pos w h q (kn : Int)
 have hch := @dec_changed w h q (kn : Int)
 generalize encB w h q (kn : Int) = E at *
 have hbl := bytes_len E
 obtain ⟨L, hL⟩ : ∃ L, E.length = L := ⟨_, rfl⟩
 rw [hL] at hEl hEp hbl hch
 obtain ⟨a1, a2, a3, a4⟩ := place_bd at_ (n := L) (by omega)
 have hLne : ¬ (L : Int) = 0 := by omega
 obtain ⟨k, hk⟩ : ∃ k : Nat, ((at_.tmod L + L).tmod L : Int) = k := ⟨((at_.tmod L + L).tmod L).toNat, by omega⟩
 rw [hk] at a1 a2
 have hkl : k < L := by omega
 have hg : (byteInts E).getD k 0 = ((E.getD k 0).toNat : Int) := bytes_at (by omega)
 have hx := xor8 (E.getD k 0) c
 have hset := bytes_set1 E k (E.getD k 0 ^^^ c)
 obtain ⟨m, hmm⟩ : ∃ m : Nat, min (max cut 0) (L : Int) = m := ⟨(min (max cut 0) (L : Int)).toNat, by omega⟩
 have hmL : m ≤ L := by omega
 have hch2 : c.toNat ≠ 0 → (decR (E.set k (E.getD k 0 ^^^ c))).e ≠ 0 := fun hc => hch hkl (xor_ne (fun e => hc (by rw [e]; rfl)))
 have hE'l : (E.set k (E.getD k 0 ^^^ c)).length = L := by rw [List.length_set, hL]
 generalize E.set k (E.getD k 0 ^^^ c) = E' at *
 have hbl2 := bytes_len E'
 rw [hE'l] at hbl2
 have hLm : (L : Int) - (m : Int) = ((L - m : Nat) : Int) := by omega
 have hbk : ((byteInts E').take (L - m)).map (fun n => UInt8.ofNat n.toNat) = E'.take (L - m) := by
  have := bytes_back (E'.take (L - m))
  unfold byteInts at this ⊢
  rw [← List.map_take]
  exact this
 obtain ⟨T, hT⟩ : ∃ T, E'.take (L - m) ++ more = T := ⟨_, rfl⟩
 have hTl : T.length = L - m + more.length := by rw [← hT, List.length_append, List.length_take, hE'l]; omega
 have hsame : cut ≤ 0 → more = [] → T = E' := fun h1 h2 => by
  have hm0 : m = 0 := by omega
  rw [← hT, h2, List.append_nil, hm0, Nat.sub_zero, List.take_of_length_le (by omega)]
 have bodyW : ∀ (T2 : Bytes), T2.length ≤ 140738000000000 → FnFr Tryz.prog 15 [.str T2] (dqA (decR T2)) [] ∧ FnFr Tryz.prog 16 [.str T2] (dqA (decR T2)) [] := fun T2 h2 => ⟨decode_fr T2 (by omega), refDecode_fr T2 (by omega)⟩
 have cl : (c.toNat : Int) < 256 := by have := c.toNat_lt; omega
 have hTl2 : ((byteInts E').take (L - m)).length + more.length = T.length := by rw [hTl, List.length_take, hbl2]; omega
 cases summed with
 | false =>
  obtain ⟨kd1, kd2⟩ := bodyW T (by omega)
  have ka := alike_dec T
  unfold dqA at kd1 kd2
  have hfin : (c.toNat : Int) ≠ 0 → cut ≤ 0 → more = [] → (decR T).e ≠ 0 := fun h1 h2 h3 => by rw [hsame h2 h3]; exact hch2 (by omega)
  generalize decR T = Q at *
  have g8 : True = True := rfl
  refine FnOk.of_vc Tryz.func3 rfl (by decide) (by simp [Tryz.f3]) [.tmp 14] rfl fun w0 T0 _ => ?_
  simp only [Tryz.f3, argEnv]
  (repeat' with_reducible first | intro _ | refine rz ?_ | refine ra ?_ ?_ | omega | simp (maxSteps := 9^7) only [go_sem])
  refine VcCall.k landed_ok ?_
  (repeat' with_reducible first | intro _ | refine rz ?_ | refine ra ?_ ?_ | omega | simp (maxSteps := 9^7) only [go_sem])
  refine VcCall.f kf 0 ?_
  (repeat' with_reducible first | intro _ | refine rz ?_ | refine ra ?_ ?_ | omega | simp (maxSteps := 9^7) only [go_sem, n3])
  refine VcCall.k ke ?_
  (repeat' with_reducible first | intro _ | refine rz ?_ | refine ra ?_ ?_ | omega | simp (maxSteps := 9^7) only [go_sem, hbl, hk, hg, hx, hset, hLne, hbl2, hmm, hLm, hbk, hT, Nat.sub_zero])
  refine VcCall.f kd1 0 ?_
  (repeat' with_reducible first | intro _ | refine rz ?_ | refine ra ?_ ?_ | omega | simp (maxSteps := 9^7) only [go_sem])
  refine VcCall.f kd2 0 ?_
  (repeat' with_reducible first | intro _ | refine rz ?_ | refine ra ?_ ?_ | omega | simp (maxSteps := 9^7) only [go_sem])
  refine VcCall.k ka ?_
  by_cases z1 : (c.toNat : Int) = 0
  ·have y1 : ((c.toNat : Int) = 0) = True := eq_true z1
   (repeat' with_reducible first | intro _ | refine rz ?_ | refine ra ?_ ?_ | omega | simp (maxSteps := 9^7) only [go_sem, y1])
   refine Ret.auto 0 ?_ rfl ?_ <;> simp only [go_sem, Int.natCast_succ, Post]
  have y1 : ((c.toNat : Int) = 0) = False := eq_false z1
  by_cases z2 : 0 < cut
  ·have y2 : (0 < cut) = True := eq_true z2
   (repeat' with_reducible first | intro _ | refine rz ?_ | refine ra ?_ ?_ | omega | simp (maxSteps := 9^7) only [go_sem, y1, y2])
   refine Ret.auto 0 ?_ rfl ?_ <;> simp only [go_sem, Int.natCast_succ, Post]
  have y2 : (0 < cut) = False := eq_false z2
  by_cases z3 : more = []
  ·have y3 : (more = []) = True := eq_true z3
   have y4 : (Q.e = 0) = False := eq_false (hfin z1 (by omega) z3)
   (repeat' with_reducible first | intro _ | refine rz ?_ | refine ra ?_ ?_ | omega | simp (maxSteps := 9^7) only [go_sem, y1, y2, y3, y4])
   refine Ret.auto 0 ?_ rfl ?_ <;> simp only [go_sem, Int.natCast_succ, Post]
  ·have y3 : (more = []) = False := eq_false z3
   (repeat' with_reducible first | intro _ | refine rz ?_ | refine ra ?_ ?_ | omega | simp (maxSteps := 9^7) only [go_sem, y1, y2, y3])
   refine Ret.auto 0 ?_ rfl ?_ <;> simp only [go_sem, Int.natCast_succ, Post]
 | true =>
  by_cases h8 : 8 ≤ T.length
  ·have g8 : ((8 : Int) ≤ (T.length : Int)) = True := eq_true (by omega)
   have e8 : (T.length : Int) - 8 = ((T.length - 8 : Nat) : Int) := by omega
   have ks := refSumOf_ok (T.take (T.length - 8)) (by rw [List.length_take]; omega)
   have hsl := sumB_len (T.take (T.length - 8))
   have htl : (T.take (T.length - 8)).length = T.length - 8 := by rw [List.length_take]; omega
   obtain ⟨U, hU⟩ : ∃ U, T.take (T.length - 8) = U := ⟨_, rfl⟩
   rw [hU] at ks hsl htl
   obtain ⟨kd1, kd2⟩ := bodyW (U ++ sumB U) (by rw [List.length_append]; omega)
   have ka := alike_dec (U ++ sumB U)
   unfold dqA at kd1 kd2
   generalize decR (U ++ sumB U) = Q at *
   refine FnOk.of_vc Tryz.func3 rfl (by decide) (by simp [Tryz.f3]) [.tmp 14] rfl fun w0 T0 _ => ?_
   simp only [Tryz.f3, argEnv]
   (repeat' with_reducible first | intro _ | refine rz ?_ | refine ra ?_ ?_ | omega | simp (maxSteps := 9^7) only [go_sem])
   refine VcCall.k landed_ok ?_
   (repeat' with_reducible first | intro _ | refine rz ?_ | refine ra ?_ ?_ | omega | simp (maxSteps := 9^7) only [go_sem])
   refine VcCall.f kf 0 ?_
   (repeat' with_reducible first | intro _ | refine rz ?_ | refine ra ?_ ?_ | omega | simp (maxSteps := 9^7) only [go_sem, n3])
   refine VcCall.k ke ?_
   (repeat' with_reducible first | intro _ | refine rz ?_ | refine ra ?_ ?_ | omega | simp (maxSteps := 9^7) only [go_sem, hbl, hk, hg, hx, hset, hLne, hbl2, hmm, hLm, hbk, hT, Nat.sub_zero])
   rotate_left
   ·rename_i hb; simp only [hk, Int.toNat_natCast, hg, hx, hset, hTl2] at hb; omega
   (repeat' with_reducible first | intro _ | refine rz ?_ | refine ra ?_ ?_ | omega | simp (maxSteps := 9^7) only [go_sem, e8, Nat.sub_zero, hU])
   refine VcCall.k ks ?_
   (repeat' with_reducible first | intro _ | refine rz ?_ | refine ra ?_ ?_ | omega | simp (maxSteps := 9^7) only [go_sem])
   refine VcCall.f kd1 0 ?_
   (repeat' with_reducible first | intro _ | refine rz ?_ | refine ra ?_ ?_ | omega | simp (maxSteps := 9^7) only [go_sem])
   refine VcCall.f kd2 0 ?_
   (repeat' with_reducible first | intro _ | refine rz ?_ | refine ra ?_ ?_ | omega | simp (maxSteps := 9^7) only [go_sem])
   refine VcCall.k ka ?_
   by_cases z1 : (c.toNat : Int) = 0
   ·have y1 : ((c.toNat : Int) = 0) = True := eq_true z1
    (repeat' with_reducible first | intro _ | refine rz ?_ | refine ra ?_ ?_ | omega | simp (maxSteps := 9^7) only [go_sem, y1])
    refine Ret.auto 0 ?_ rfl ?_ <;> simp only [go_sem, Int.natCast_succ, Post]
   have y1 : ((c.toNat : Int) = 0) = False := eq_false z1
   by_cases z2 : 0 < cut
   ·have y2 : (0 < cut) = True := eq_true z2
    (repeat' with_reducible first | intro _ | refine rz ?_ | refine ra ?_ ?_ | omega | simp (maxSteps := 9^7) only [go_sem, y1, y2])
    refine Ret.auto 0 ?_ rfl ?_ <;> simp only [go_sem, Int.natCast_succ, Post]
   have y2 : (0 < cut) = False := eq_false z2
   by_cases z3 : more = []
   ·have y3 : (more = []) = True := eq_true z3
    (repeat' with_reducible first | intro _ | refine rz ?_ | refine ra ?_ ?_ | omega | simp (maxSteps := 9^7) only [go_sem, y1, y2, y3])
    refine Ret.auto 0 ?_ rfl ?_ <;> simp only [go_sem, Int.natCast_succ, Post]
   ·have y3 : (more = []) = False := eq_false z3
    (repeat' with_reducible first | intro _ | refine rz ?_ | refine ra ?_ ?_ | omega | simp (maxSteps := 9^7) only [go_sem, y1, y2, y3])
    refine Ret.auto 0 ?_ rfl ?_ <;> simp only [go_sem, Int.natCast_succ, Post]
  ·have g8 : ((8 : Int) ≤ (T.length : Int)) = False := eq_false (by omega)
   obtain ⟨kd1, kd2⟩ := bodyW T (by omega)
   have ka := alike_dec T
   unfold dqA at kd1 kd2
   generalize decR T = Q at *
   refine FnOk.of_vc Tryz.func3 rfl (by decide) (by simp [Tryz.f3]) [.tmp 14] rfl fun w0 T0 _ => ?_
   simp only [Tryz.f3, argEnv]
   (repeat' with_reducible first | intro _ | refine rz ?_ | refine ra ?_ ?_ | omega | simp (maxSteps := 9^7) only [go_sem])
   refine VcCall.k landed_ok ?_
   (repeat' with_reducible first | intro _ | refine rz ?_ | refine ra ?_ ?_ | omega | simp (maxSteps := 9^7) only [go_sem])
   refine VcCall.f kf 0 ?_
   (repeat' with_reducible first | intro _ | refine rz ?_ | refine ra ?_ ?_ | omega | simp (maxSteps := 9^7) only [go_sem, n3])
   refine VcCall.k ke ?_
   (repeat' with_reducible first | intro _ | refine rz ?_ | refine ra ?_ ?_ | omega | simp (maxSteps := 9^7) only [go_sem, hbl, hk, hg, hx, hset, hLne, hbl2, hmm, hLm, hbk, hT, Nat.sub_zero])
   ·rename_i hb _; simp only [hk, Int.toNat_natCast, hg, hx, hset, hTl2] at hb; omega
   refine VcCall.f kd1 0 ?_
   (repeat' with_reducible first | intro _ | refine rz ?_ | refine ra ?_ ?_ | omega | simp (maxSteps := 9^7) only [go_sem])
   refine VcCall.f kd2 0 ?_
   (repeat' with_reducible first | intro _ | refine rz ?_ | refine ra ?_ ?_ | omega | simp (maxSteps := 9^7) only [go_sem])
   refine VcCall.k ka ?_
   by_cases z1 : (c.toNat : Int) = 0
   ·have y1 : ((c.toNat : Int) = 0) = True := eq_true z1
    (repeat' with_reducible first | intro _ | refine rz ?_ | refine ra ?_ ?_ | omega | simp (maxSteps := 9^7) only [go_sem, y1])
    refine Ret.auto 0 ?_ rfl ?_ <;> simp only [go_sem, Int.natCast_succ, Post]
   have y1 : ((c.toNat : Int) = 0) = False := eq_false z1
   by_cases z2 : 0 < cut
   ·have y2 : (0 < cut) = True := eq_true z2
    (repeat' with_reducible first | intro _ | refine rz ?_ | refine ra ?_ ?_ | omega | simp (maxSteps := 9^7) only [go_sem, y1, y2])
    refine Ret.auto 0 ?_ rfl ?_ <;> simp only [go_sem, Int.natCast_succ, Post]
   exact absurd hTl (by omega)
end Go.Fv.H
