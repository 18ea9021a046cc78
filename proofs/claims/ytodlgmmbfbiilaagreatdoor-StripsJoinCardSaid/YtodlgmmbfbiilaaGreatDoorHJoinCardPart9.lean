/-
  A part of the proof of the claim: walks over the program's functions and the plain laws that these need. No condition of its own.
-/
import Derived.Test.YtodlgmmbfbiilaaGreatDoorHJoinCardPart7
import Derived.Test.YtodlgmmbfbiilaaGreatDoorHJoinCardPart8
import Derived.Test.YtodlgmmbfbiilaaGreatDoorHJoinCardPart6
import Derived.Test.YtodlgmmbfbiilaaGreatDoorHJoinCardPart5
import Derived.Test.YtodlgmmbfbiilaaGreatDoorHJoinCardPart3
/- shrink.Decode: the walk. -/
namespace Go.Fv.H
open Go Go.Proofs
set_option linter.unusedSimpArgs false
set_option linter.unusedVariables false
set_option linter.unnecessarySimpa false
set_option maxRecDepth 8000
def dqA (q : DQ) : AV := .tup [.agg [.int .i64 q.w, .int .i64 q.h, .ro (.bools q.p)], .int .i64 q.e]
theorem pageOf_good (w h : Nat) (hw0 : 0 < w) (hw : w ≤ 4000) (hh : h ≤ 4000) (hwh : w * h ≤ 1048576) (d : Bytes) (hd : d.length ≤ 100000000) (kind : Int) (hk : 1 ≤ kind ∧ kind ≤ 4) (hq : (pgOf kind w h d).2 = true) :
  FnOk Tryz.prog 68 [.str d, .int .i64 kind, .int .i64 w, .int .i64 h] (.tup [.agg [.int .i64 w, .int .i64 h, .own 0], .bool true]) [(0, .row 4 (.bools (pgOf kind w h d).1))] := by
 have hc : kind = 4 ∨ kind = 1 ∨ kind = 2 ∨ kind = 3 := by omega
 rcases hc with rfl | rfl | rfl | rfl
 ·exact pageOf4_ok w h hw0 hw hh hwh d hd
 ·have e : pgOf 1 w h d = plPage (w * h) (upB d) := rfl
  rw [e] at hq ⊢
  unfold plPage at hq ⊢
  split at hq
  ·cases hq
  ·rename_i hs
   rw [if_neg hs]
   exact pageOf1_ok w h hw0 hw hh hwh d hd (by omega)
 ·have e : pgOf 2 w h d = rnPage w h (upB d) := rfl
  rw [e] at hq ⊢
  have k := pageOf2_ok w h hw0 hw hh hwh d hd
  rw [hq] at k
  exact k
 ·have e : pgOf 3 w h d = lnPage h (List.replicate w false) (upB d) := rfl
  rw [e] at hq ⊢
  have k := pageOf3_ok w h hw0 hw hh hwh d hd
  rw [hq] at k
  exact k
theorem pageOf_bad (w h : Nat) (hw0 : 0 < w) (hw : w ≤ 4000) (hh : h ≤ 4000) (hwh : w * h ≤ 1048576) (d : Bytes) (hd : d.length ≤ 100000000) (kind : Int) (hk : 1 ≤ kind ∧ kind ≤ 4) (hq : (pgOf kind w h d).2 = false) :
  FnFr Tryz.prog 68 [.str d, .int .i64 kind, .int .i64 w, .int .i64 h] (.tup [.agg [.int .i64 w, .int .i64 h, .ro (.bools (pgOf kind w h d).1)], .bool false]) [] := by
 have hc : kind = 4 ∨ kind = 1 ∨ kind = 2 ∨ kind = 3 := by omega
 rcases hc with rfl | rfl | rfl | rfl
 ·cases hq
 ·have e : pgOf 1 w h d = plPage (w * h) (upB d) := rfl
  rw [e] at hq ⊢
  unfold plPage at hq ⊢
  split at hq
  ·rename_i hs
   rw [if_pos hs]
   exact FnFr.toRo (FnFr.of_ok (pageOf1_no w h hw0 hw hh hwh d hd hs) rfl rfl) (by simp [outOk, argOkL, allOk, argOk, argOkN, lk, noIdR_ok, nilRow])
  ·cases hq
 ·have e : pgOf 2 w h d = rnPage w h (upB d) := rfl
  rw [e] at hq ⊢
  have k := pageOf2_ok w h hw0 hw hh hwh d hd
  rw [hq] at k
  exact FnFr.toRo (FnFr.of_ok k rfl rfl) (by simp [outOk, argOkL, allOk, argOk, argOkN, lk, noIdR_ok, nilRow])
 ·have e : pgOf 3 w h d = lnPage h (List.replicate w false) (upB d) := rfl
  rw [e] at hq ⊢
  have k := pageOf3_ok w h hw0 hw hh hwh d hd
  rw [hq] at k
  exact FnFr.toRo (FnFr.of_ok k rfl rfl) (by simp [outOk, argOkL, allOk, argOk, argOkN, lk, noIdR_ok, nilRow])
theorem dK_lt (s : Bytes) : dK s < 256 := by
 have h1 := numB_lt (s.take 1)
 have h2 : 256 ^ (s.take 1).length ≤ 256 ^ 1 := Nat.pow_le_pow_right (by decide) (by rw [List.length_take]; omega)
 unfold dK; omega
theorem dW_lt (s : Bytes) : dW s < 65536 := by
 have h1 := numB_lt ((s.drop 1).take 2)
 have h2 : 256 ^ ((s.drop 1).take 2).length ≤ 256 ^ 2 := Nat.pow_le_pow_right (by decide) (by rw [List.length_take]; omega)
 rw [show (256 : Nat) ^ 2 = 65536 from rfl] at h2
 unfold dW; omega
theorem dH_lt (s : Bytes) : dH s < 65536 := by
 have h1 := numB_lt ((s.drop 3).take 2)
 have h2 : 256 ^ ((s.drop 3).take 2).length ≤ 256 ^ 2 := Nat.pow_le_pow_right (by decide) (by rw [List.length_take]; omega)
 rw [show (256 : Nat) ^ 2 = 65536 from rfl] at h2
 unfold dH; omega
theorem dL_lt (s : Bytes) : dL s < 4294967296 := by
 have h1 := numB_lt ((s.drop 5).take 4)
 have h2 : 256 ^ ((s.drop 5).take 4).length ≤ 256 ^ 4 := Nat.pow_le_pow_right (by decide) (by rw [List.length_take]; omega)
 rw [show (256 : Nat) ^ 4 = 4294967296 from rfl] at h2
 unfold dL; omega
set_option maxHeartbeats 8000000 in
theorem decode_e1 (s : Bytes) (hs : s.length ≤ 200000000000000) (h1 : 2097152 < s.length) : FnOk Tryz.prog 15 [.str s] (.tup [.agg [.int .i64 0, .int .i64 0, .nilS], .int .i64 4]) [] := by
 refine FnOk.of_vc Tryz.func15 rfl (by decide) (by simp [Tryz.f15]) [.cell 2 24, .tmp 3] rfl fun w0 T0 _ => ?_
 simp only [Tryz.f15, argEnv]
 have f1 : ((2097152 : Int) < (s.length : Int)) = True := eq_true (by omega)
 (repeat' with_reducible first | intro _ | refine rz ?_ | refine ra ?_ ?_ | omega | simp (maxSteps := 9^7) only [go_sem, f1])
 refine Ret.auto 0 ?_ rfl ?_ <;> simp only [go_sem, Int.natCast_succ, Post]
set_option maxHeartbeats 8000000 in
theorem decode_e2 (s : Bytes) (h1 : s.length ≤ 2097152) (h2 : s.length < 17 ∨ s.length ≠ 17 + dL s) : FnOk Tryz.prog 15 [.str s] (.tup [.agg [.int .i64 0, .int .i64 0, .nilS], .int .i64 8]) [] := by
 refine FnOk.of_vc Tryz.func15 rfl (by decide) (by simp [Tryz.f15]) [.cell 2 24, .tmp 3] rfl fun w0 T0 _ => ?_
 simp only [Tryz.f15, argEnv]
 have f1 : ((2097152 : Int) < (s.length : Int)) = False := eq_false (by omega)
 by_cases h17 : s.length < 17
 ·have f2 : ((s.length : Int) < 17) = True := eq_true (by omega)
  (repeat' with_reducible first | intro _ | refine rz ?_ | refine ra ?_ ?_ | omega | simp (maxSteps := 9^7) only [go_sem, f1, f2])
  refine Ret.auto 0 ?_ rfl ?_ <;> simp only [go_sem, Int.natCast_succ, Post]
 ·have f2 : ((s.length : Int) < 17) = False := eq_false (by omega)
  have kb := bigAt_ok ((s.drop 5).take 4) (by rw [List.length_take]; omega)
  have hlt := dL_lt s
  have hdl : numB ((s.drop 5).take 4) = dL s := rfl
  rw [hdl] at kb
  have f3 : ((s.length : Int) = 9 + (dL s : Int) + 8) = False := eq_false (by omega)
  generalize dL s = L at *
  (repeat' with_reducible first | intro _ | refine rz ?_ | refine ra ?_ ?_ | omega | simp (maxSteps := 9^7) only [go_sem, f1, f2])
  refine VcCall.k kb ?_
  (repeat' with_reducible first | intro _ | refine rz ?_ | refine ra ?_ ?_ | omega | simp (maxSteps := 9^7) only [go_sem, f3])
  refine Ret.auto 0 ?_ rfl ?_ <;> simp only [go_sem, Int.natCast_succ, Post]
structure DCut (s : Bytes) : Prop where
 n17 : 17 ≤ s.length
 long : s.length = 17 + dL s
 most : s.length ≤ 2097152
theorem cut_all (s : Bytes) (h : 17 ≤ s.length) : (s.take (s.length - 8)).length = s.length - 8 := by rw [List.length_take]; omega
end Go.Fv.H
/- shrink.Decode: the walk behind the first parts. -/
namespace Go.Fv.H
open Go Go.Proofs
set_option linter.unusedSimpArgs false
set_option linter.unusedVariables false
set_option linter.unnecessarySimpa false
set_option maxRecDepth 8000
theorem dD_len (s : Bytes) (h : 17 ≤ s.length) : (dD s).length = s.length - 17 := by
 unfold dD; rw [List.length_take, List.length_drop]; omega
theorem dD_cut (s : Bytes) (h : 17 ≤ s.length) : ((s.take (s.length - 8)).drop 9).take (s.length - 8 - 9) = dD s := by
 unfold dD
 rw [List.drop_take, List.take_take, show s.length - 8 - 9 = s.length - 17 by omega, Nat.min_self]
set_option maxHeartbeats 8000000 in
theorem decode_e3 (s : Bytes) (c : DCut s) (h3 : sumB (s.take (s.length - 8)) ≠ s.drop (s.length - 8)) : FnOk Tryz.prog 15 [.str s] (.tup [.agg [.int .i64 0, .int .i64 0, .nilS], .int .i64 14]) [] := by
 obtain ⟨c1, c2, c3⟩ := c
 have f1 : ((2097152 : Int) < (s.length : Int)) = False := eq_false (by omega)
 have f2 : ((s.length : Int) < 17) = False := eq_false (by omega)
 have kb := bigAt_ok ((s.drop 5).take 4) (by rw [List.length_take]; omega)
 have kK := bigAt_ok (s.take 1) (by rw [List.length_take]; omega)
 have kW := bigAt_ok ((s.drop 1).take 2) (by rw [List.length_take]; omega)
 have kH := bigAt_ok ((s.drop 3).take 2) (by rw [List.length_take]; omega)
 rw [show numB (s.take 1) = dK s from rfl] at kK
 rw [show numB ((s.drop 1).take 2) = dW s from rfl] at kW
 rw [show numB ((s.drop 3).take 2) = dH s from rfl] at kH
 have hlt := dL_lt s
 rw [show numB ((s.drop 5).take 4) = dL s from rfl] at kb
 have f3 : ((s.length : Int) = 9 + (dL s : Int) + 8) = True := eq_true (by omega)
 have ks := sumOf_ok (s.take (s.length - 8)) (by rw [List.length_take]; omega)
 have hal := cut_all s c1
 have e8 : (s.length : Int) - 8 = ((s.length - 8 : Nat) : Int) := by omega
 have htd : (s.drop (s.length - 8)).take (s.length - (s.length - 8)) = s.drop (s.length - 8) := List.take_of_length_le (by rw [List.length_drop]; exact Nat.le_refl _)
 have hKl := dK_lt s
 have hWl := dW_lt s
 have hHl := dH_lt s
 have hDl := dD_len s c1
 have f4 : (sumB (s.take (s.length - 8)) = s.drop (s.length - 8)) = False := eq_false h3
 generalize dL s = L at *
 refine FnOk.of_vc Tryz.func15 rfl (by decide) (by simp [Tryz.f15]) [.cell 2 24, .tmp 3] rfl fun w0 T0 _ => ?_
 simp only [Tryz.f15, argEnv]
 (repeat' with_reducible first | intro _ | refine rz ?_ | refine ra ?_ ?_ | omega | simp (maxSteps := 9^7) only [go_sem, f1, f2])
 refine VcCall.k kb ?_
 (repeat' with_reducible first | intro _ | refine rz ?_ | refine ra ?_ ?_ | omega | simp (maxSteps := 9^7) only [go_sem, f3, e8])
 refine VcDraw.lex [] [] (by kernel_rfl) (by kernel_rfl) ?_
 (repeat' with_reducible first | intro _ | refine rz ?_ | refine ra ?_ ?_ | omega | simp (maxSteps := 9^7) only [go_sem])
 (refine QV.intro (.int .i64 (dK s)) ?_ ?_; focus ((repeat' with_reducible first | intro _ | refine rz ?_ | refine ra ?_ ?_ | omega | simp (maxSteps := 9^7) only [go_sem]); refine VcCall.k (kK) ?_; (repeat' with_reducible first | intro _ | refine rz ?_ | refine ra ?_ ?_ | omega | simp (maxSteps := 9^7) only [go_sem])))
 (repeat' with_reducible first | intro _ | refine rz ?_ | refine ra ?_ ?_ | omega | simp (maxSteps := 9^7) only [go_sem])
 (refine QV.intro (.int .i64 (dW s)) ?_ ?_; focus ((repeat' with_reducible first | intro _ | refine rz ?_ | refine ra ?_ ?_ | omega | simp (maxSteps := 9^7) only [go_sem]); refine VcCall.k (kW) ?_; (repeat' with_reducible first | intro _ | refine rz ?_ | refine ra ?_ ?_ | omega | simp (maxSteps := 9^7) only [go_sem])))
 (repeat' with_reducible first | intro _ | refine rz ?_ | refine ra ?_ ?_ | omega | simp (maxSteps := 9^7) only [go_sem])
 (refine QV.intro (.int .i64 (dH s)) ?_ ?_; focus ((repeat' with_reducible first | intro _ | refine rz ?_ | refine ra ?_ ?_ | omega | simp (maxSteps := 9^7) only [go_sem]); refine VcCall.k (kH) ?_; (repeat' with_reducible first | intro _ | refine rz ?_ | refine ra ?_ ?_ | omega | simp (maxSteps := 9^7) only [go_sem])))
 (repeat' with_reducible first | intro _ | refine rz ?_ | refine ra ?_ ?_ | omega | simp (maxSteps := 9^7) only [go_sem])
 refine VcDraw.lex [] [] (by kernel_rfl) (by kernel_rfl) ?_
 (repeat' with_reducible first | intro _ | refine rz ?_ | refine ra ?_ ?_ | omega | simp (maxSteps := 9^7) only [go_sem, Nat.sub_zero, hal])
 (refine QV.intro (.str (sumB (s.take (s.length - 8)))) ?_ ?_; focus ((repeat' with_reducible first | intro _ | refine rz ?_ | refine ra ?_ ?_ | omega | simp (maxSteps := 9^7) only [go_sem]); refine VcCall.k (ks) ?_; (repeat' with_reducible first | intro _ | refine rz ?_ | refine ra ?_ ?_ | omega | simp (maxSteps := 9^7) only [go_sem])))
 (repeat' with_reducible first | intro _ | refine rz ?_ | refine ra ?_ ?_ | omega | simp (maxSteps := 9^7) only [go_sem, Nat.sub_zero, hal, htd, f4])
 refine Ret.auto 0 ?_ rfl ?_ <;> simp only [go_sem, Int.natCast_succ, Post]
set_option maxHeartbeats 8000000 in
theorem decode_e4 (s : Bytes) (c : DCut s) (h3 : sumB (s.take (s.length - 8)) = s.drop (s.length - 8)) (h4 : ¬ (1 ≤ dK s ∧ dK s ≤ 4)) : FnOk Tryz.prog 15 [.str s] (.tup [.agg [.int .i64 0, .int .i64 0, .nilS], .int .i64 1]) [] := by
 obtain ⟨c1, c2, c3⟩ := c
 have f1 : ((2097152 : Int) < (s.length : Int)) = False := eq_false (by omega)
 have f2 : ((s.length : Int) < 17) = False := eq_false (by omega)
 have kb := bigAt_ok ((s.drop 5).take 4) (by rw [List.length_take]; omega)
 have kK := bigAt_ok (s.take 1) (by rw [List.length_take]; omega)
 have kW := bigAt_ok ((s.drop 1).take 2) (by rw [List.length_take]; omega)
 have kH := bigAt_ok ((s.drop 3).take 2) (by rw [List.length_take]; omega)
 rw [show numB (s.take 1) = dK s from rfl] at kK
 rw [show numB ((s.drop 1).take 2) = dW s from rfl] at kW
 rw [show numB ((s.drop 3).take 2) = dH s from rfl] at kH
 have hlt := dL_lt s
 rw [show numB ((s.drop 5).take 4) = dL s from rfl] at kb
 have f3 : ((s.length : Int) = 9 + (dL s : Int) + 8) = True := eq_true (by omega)
 have ks := sumOf_ok (s.take (s.length - 8)) (by rw [List.length_take]; omega)
 have hal := cut_all s c1
 have e8 : (s.length : Int) - 8 = ((s.length - 8 : Nat) : Int) := by omega
 have htd : (s.drop (s.length - 8)).take (s.length - (s.length - 8)) = s.drop (s.length - 8) := List.take_of_length_le (by rw [List.length_drop]; exact Nat.le_refl _)
 have hKl := dK_lt s
 have hWl := dW_lt s
 have hHl := dH_lt s
 have hDl := dD_len s c1
 have f4 : (sumB (s.take (s.length - 8)) = s.drop (s.length - 8)) = True := eq_true h3
 have kk := isKind_ok (dK s)
 rw [decide_eq_false (by omega)] at kk
 generalize dL s = L at *
 refine FnOk.of_vc Tryz.func15 rfl (by decide) (by simp [Tryz.f15]) [.cell 2 24, .tmp 3] rfl fun w0 T0 _ => ?_
 simp only [Tryz.f15, argEnv]
 (repeat' with_reducible first | intro _ | refine rz ?_ | refine ra ?_ ?_ | omega | simp (maxSteps := 9^7) only [go_sem, f1, f2])
 refine VcCall.k kb ?_
 (repeat' with_reducible first | intro _ | refine rz ?_ | refine ra ?_ ?_ | omega | simp (maxSteps := 9^7) only [go_sem, f3, e8])
 refine VcDraw.lex [] [] (by kernel_rfl) (by kernel_rfl) ?_
 (repeat' with_reducible first | intro _ | refine rz ?_ | refine ra ?_ ?_ | omega | simp (maxSteps := 9^7) only [go_sem])
 (refine QV.intro (.int .i64 (dK s)) ?_ ?_; focus ((repeat' with_reducible first | intro _ | refine rz ?_ | refine ra ?_ ?_ | omega | simp (maxSteps := 9^7) only [go_sem]); refine VcCall.k (kK) ?_; (repeat' with_reducible first | intro _ | refine rz ?_ | refine ra ?_ ?_ | omega | simp (maxSteps := 9^7) only [go_sem])))
 (repeat' with_reducible first | intro _ | refine rz ?_ | refine ra ?_ ?_ | omega | simp (maxSteps := 9^7) only [go_sem])
 (refine QV.intro (.int .i64 (dW s)) ?_ ?_; focus ((repeat' with_reducible first | intro _ | refine rz ?_ | refine ra ?_ ?_ | omega | simp (maxSteps := 9^7) only [go_sem]); refine VcCall.k (kW) ?_; (repeat' with_reducible first | intro _ | refine rz ?_ | refine ra ?_ ?_ | omega | simp (maxSteps := 9^7) only [go_sem])))
 (repeat' with_reducible first | intro _ | refine rz ?_ | refine ra ?_ ?_ | omega | simp (maxSteps := 9^7) only [go_sem])
 (refine QV.intro (.int .i64 (dH s)) ?_ ?_; focus ((repeat' with_reducible first | intro _ | refine rz ?_ | refine ra ?_ ?_ | omega | simp (maxSteps := 9^7) only [go_sem]); refine VcCall.k (kH) ?_; (repeat' with_reducible first | intro _ | refine rz ?_ | refine ra ?_ ?_ | omega | simp (maxSteps := 9^7) only [go_sem])))
 (repeat' with_reducible first | intro _ | refine rz ?_ | refine ra ?_ ?_ | omega | simp (maxSteps := 9^7) only [go_sem])
 refine VcDraw.lex [] [] (by kernel_rfl) (by kernel_rfl) ?_
 (repeat' with_reducible first | intro _ | refine rz ?_ | refine ra ?_ ?_ | omega | simp (maxSteps := 9^7) only [go_sem, Nat.sub_zero, hal])
 (refine QV.intro (.str (sumB (s.take (s.length - 8)))) ?_ ?_; focus ((repeat' with_reducible first | intro _ | refine rz ?_ | refine ra ?_ ?_ | omega | simp (maxSteps := 9^7) only [go_sem]); refine VcCall.k (ks) ?_; (repeat' with_reducible first | intro _ | refine rz ?_ | refine ra ?_ ?_ | omega | simp (maxSteps := 9^7) only [go_sem])))
 (repeat' with_reducible first | intro _ | refine rz ?_ | refine ra ?_ ?_ | omega | simp (maxSteps := 9^7) only [go_sem, Nat.sub_zero, hal, htd, f4])
 refine VcCall.k kk ?_
 (repeat' with_reducible first | intro _ | refine rz ?_ | refine ra ?_ ?_ | omega | simp (maxSteps := 9^7) only [go_sem])
 refine Ret.auto 0 ?_ rfl ?_ <;> simp only [go_sem, Int.natCast_succ, Post]
set_option maxHeartbeats 8000000 in
theorem decode_e5 (s : Bytes) (c : DCut s) (h3 : sumB (s.take (s.length - 8)) = s.drop (s.length - 8)) (h4 : 1 ≤ dK s ∧ dK s ≤ 4) (h5 : sizeErr (dW s) (dH s) ≠ 0) : FnOk Tryz.prog 15 [.str s] (.tup [.agg [.int .i64 0, .int .i64 0, .nilS], .int .i64 (sizeErr (dW s) (dH s))]) [] := by
 obtain ⟨c1, c2, c3⟩ := c
 have f1 : ((2097152 : Int) < (s.length : Int)) = False := eq_false (by omega)
 have f2 : ((s.length : Int) < 17) = False := eq_false (by omega)
 have kb := bigAt_ok ((s.drop 5).take 4) (by rw [List.length_take]; omega)
 have kK := bigAt_ok (s.take 1) (by rw [List.length_take]; omega)
 have kW := bigAt_ok ((s.drop 1).take 2) (by rw [List.length_take]; omega)
 have kH := bigAt_ok ((s.drop 3).take 2) (by rw [List.length_take]; omega)
 rw [show numB (s.take 1) = dK s from rfl] at kK
 rw [show numB ((s.drop 1).take 2) = dW s from rfl] at kW
 rw [show numB ((s.drop 3).take 2) = dH s from rfl] at kH
 have hlt := dL_lt s
 rw [show numB ((s.drop 5).take 4) = dL s from rfl] at kb
 have f3 : ((s.length : Int) = 9 + (dL s : Int) + 8) = True := eq_true (by omega)
 have ks := sumOf_ok (s.take (s.length - 8)) (by rw [List.length_take]; omega)
 have hal := cut_all s c1
 have e8 : (s.length : Int) - 8 = ((s.length - 8 : Nat) : Int) := by omega
 have htd : (s.drop (s.length - 8)).take (s.length - (s.length - 8)) = s.drop (s.length - 8) := List.take_of_length_le (by rw [List.length_drop]; exact Nat.le_refl _)
 have hKl := dK_lt s
 have hWl := dW_lt s
 have hHl := dH_lt s
 have hDl := dD_len s c1
 have f4 : (sumB (s.take (s.length - 8)) = s.drop (s.length - 8)) = True := eq_true h3
 have kk := isKind_ok (dK s)
 rw [decide_eq_true (by omega)] at kk
 have kz := checkSize_ok (dW s) (dH s)
 generalize sizeErr (dW s) (dH s) = z at *
 have f5 : (z = 0) = False := eq_false h5
 generalize dL s = L at *
 refine FnOk.of_vc Tryz.func15 rfl (by decide) (by simp [Tryz.f15]) [.cell 2 24, .tmp 3] rfl fun w0 T0 _ => ?_
 simp only [Tryz.f15, argEnv]
 (repeat' with_reducible first | intro _ | refine rz ?_ | refine ra ?_ ?_ | omega | simp (maxSteps := 9^7) only [go_sem, f1, f2])
 refine VcCall.k kb ?_
 (repeat' with_reducible first | intro _ | refine rz ?_ | refine ra ?_ ?_ | omega | simp (maxSteps := 9^7) only [go_sem, f3, e8])
 refine VcDraw.lex [] [] (by kernel_rfl) (by kernel_rfl) ?_
 (repeat' with_reducible first | intro _ | refine rz ?_ | refine ra ?_ ?_ | omega | simp (maxSteps := 9^7) only [go_sem])
 (refine QV.intro (.int .i64 (dK s)) ?_ ?_; focus ((repeat' with_reducible first | intro _ | refine rz ?_ | refine ra ?_ ?_ | omega | simp (maxSteps := 9^7) only [go_sem]); refine VcCall.k (kK) ?_; (repeat' with_reducible first | intro _ | refine rz ?_ | refine ra ?_ ?_ | omega | simp (maxSteps := 9^7) only [go_sem])))
 (repeat' with_reducible first | intro _ | refine rz ?_ | refine ra ?_ ?_ | omega | simp (maxSteps := 9^7) only [go_sem])
 (refine QV.intro (.int .i64 (dW s)) ?_ ?_; focus ((repeat' with_reducible first | intro _ | refine rz ?_ | refine ra ?_ ?_ | omega | simp (maxSteps := 9^7) only [go_sem]); refine VcCall.k (kW) ?_; (repeat' with_reducible first | intro _ | refine rz ?_ | refine ra ?_ ?_ | omega | simp (maxSteps := 9^7) only [go_sem])))
 (repeat' with_reducible first | intro _ | refine rz ?_ | refine ra ?_ ?_ | omega | simp (maxSteps := 9^7) only [go_sem])
 (refine QV.intro (.int .i64 (dH s)) ?_ ?_; focus ((repeat' with_reducible first | intro _ | refine rz ?_ | refine ra ?_ ?_ | omega | simp (maxSteps := 9^7) only [go_sem]); refine VcCall.k (kH) ?_; (repeat' with_reducible first | intro _ | refine rz ?_ | refine ra ?_ ?_ | omega | simp (maxSteps := 9^7) only [go_sem])))
 (repeat' with_reducible first | intro _ | refine rz ?_ | refine ra ?_ ?_ | omega | simp (maxSteps := 9^7) only [go_sem])
 refine VcDraw.lex [] [] (by kernel_rfl) (by kernel_rfl) ?_
 (repeat' with_reducible first | intro _ | refine rz ?_ | refine ra ?_ ?_ | omega | simp (maxSteps := 9^7) only [go_sem, Nat.sub_zero, hal])
 (refine QV.intro (.str (sumB (s.take (s.length - 8)))) ?_ ?_; focus ((repeat' with_reducible first | intro _ | refine rz ?_ | refine ra ?_ ?_ | omega | simp (maxSteps := 9^7) only [go_sem]); refine VcCall.k (ks) ?_; (repeat' with_reducible first | intro _ | refine rz ?_ | refine ra ?_ ?_ | omega | simp (maxSteps := 9^7) only [go_sem])))
 (repeat' with_reducible first | intro _ | refine rz ?_ | refine ra ?_ ?_ | omega | simp (maxSteps := 9^7) only [go_sem, Nat.sub_zero, hal, htd, f4])
 refine VcCall.k kk ?_
 (repeat' with_reducible first | intro _ | refine rz ?_ | refine ra ?_ ?_ | omega | simp (maxSteps := 9^7) only [go_sem])
 refine VcCall.k kz ?_
 (repeat' with_reducible first | intro _ | refine rz ?_ | refine ra ?_ ?_ | omega | simp (maxSteps := 9^7) only [go_sem, f5])
 refine Ret.auto 0 ?_ rfl ?_ <;> simp only [go_sem, Int.natCast_succ, Post]
set_option maxHeartbeats 8000000 in
theorem decode_e6 (s : Bytes) (c : DCut s) (h3 : sumB (s.take (s.length - 8)) = s.drop (s.length - 8)) (h4 : 1 ≤ dK s ∧ dK s ≤ 4) (h5 : sizeErr (dW s) (dH s) = 0) (h6 : (dPg s).2 = false) : FnOk Tryz.prog 15 [.str s] (.tup [.agg [.int .i64 0, .int .i64 0, .nilS], .int .i64 8]) [] := by
 obtain ⟨c1, c2, c3⟩ := c
 have f1 : ((2097152 : Int) < (s.length : Int)) = False := eq_false (by omega)
 have f2 : ((s.length : Int) < 17) = False := eq_false (by omega)
 have kb := bigAt_ok ((s.drop 5).take 4) (by rw [List.length_take]; omega)
 have kK := bigAt_ok (s.take 1) (by rw [List.length_take]; omega)
 have kW := bigAt_ok ((s.drop 1).take 2) (by rw [List.length_take]; omega)
 have kH := bigAt_ok ((s.drop 3).take 2) (by rw [List.length_take]; omega)
 rw [show numB (s.take 1) = dK s from rfl] at kK
 rw [show numB ((s.drop 1).take 2) = dW s from rfl] at kW
 rw [show numB ((s.drop 3).take 2) = dH s from rfl] at kH
 have hlt := dL_lt s
 rw [show numB ((s.drop 5).take 4) = dL s from rfl] at kb
 have f3 : ((s.length : Int) = 9 + (dL s : Int) + 8) = True := eq_true (by omega)
 have ks := sumOf_ok (s.take (s.length - 8)) (by rw [List.length_take]; omega)
 have hal := cut_all s c1
 have e8 : (s.length : Int) - 8 = ((s.length - 8 : Nat) : Int) := by omega
 have htd : (s.drop (s.length - 8)).take (s.length - (s.length - 8)) = s.drop (s.length - 8) := List.take_of_length_le (by rw [List.length_drop]; exact Nat.le_refl _)
 have hKl := dK_lt s
 have hWl := dW_lt s
 have hHl := dH_lt s
 have hDl := dD_len s c1
 have f4 : (sumB (s.take (s.length - 8)) = s.drop (s.length - 8)) = True := eq_true h3
 have kk := isKind_ok (dK s)
 rw [decide_eq_true (by omega)] at kk
 have kz := checkSize_ok (dW s) (dH s)
 have hz := sizeErr_zero h5
 have hwh : ((dW s : Int) * (dH s : Int)) = ((dW s * dH s : Nat) : Int) := (Int.natCast_mul _ _).symm
 rw [hwh] at hz
 rw [h5] at kz
 have kp := pageOf_bad (dW s) (dH s) (by omega) (by omega) (by omega) (by omega) (dD s) (by omega) (dK s) (by omega) h6
 have hcut := dD_cut s c1
 have hp : pgOf (dK s) (dW s) (dH s) (dD s) = dPg s := rfl
 rw [hp] at kp
 generalize dPg s = q at *
 generalize dD s = d at *
 generalize dL s = L at *
 refine FnOk.of_vc Tryz.func15 rfl (by decide) (by simp [Tryz.f15]) [.cell 2 24, .tmp 3] rfl fun w0 T0 _ => ?_
 simp only [Tryz.f15, argEnv]
 (repeat' with_reducible first | intro _ | refine rz ?_ | refine ra ?_ ?_ | omega | simp (maxSteps := 9^7) only [go_sem, f1, f2])
 refine VcCall.k kb ?_
 (repeat' with_reducible first | intro _ | refine rz ?_ | refine ra ?_ ?_ | omega | simp (maxSteps := 9^7) only [go_sem, f3, e8])
 refine VcDraw.lex [] [] (by kernel_rfl) (by kernel_rfl) ?_
 (repeat' with_reducible first | intro _ | refine rz ?_ | refine ra ?_ ?_ | omega | simp (maxSteps := 9^7) only [go_sem])
 (refine QV.intro (.int .i64 (dK s)) ?_ ?_; focus ((repeat' with_reducible first | intro _ | refine rz ?_ | refine ra ?_ ?_ | omega | simp (maxSteps := 9^7) only [go_sem]); refine VcCall.k (kK) ?_; (repeat' with_reducible first | intro _ | refine rz ?_ | refine ra ?_ ?_ | omega | simp (maxSteps := 9^7) only [go_sem])))
 (repeat' with_reducible first | intro _ | refine rz ?_ | refine ra ?_ ?_ | omega | simp (maxSteps := 9^7) only [go_sem])
 (refine QV.intro (.int .i64 (dW s)) ?_ ?_; focus ((repeat' with_reducible first | intro _ | refine rz ?_ | refine ra ?_ ?_ | omega | simp (maxSteps := 9^7) only [go_sem]); refine VcCall.k (kW) ?_; (repeat' with_reducible first | intro _ | refine rz ?_ | refine ra ?_ ?_ | omega | simp (maxSteps := 9^7) only [go_sem])))
 (repeat' with_reducible first | intro _ | refine rz ?_ | refine ra ?_ ?_ | omega | simp (maxSteps := 9^7) only [go_sem])
 (refine QV.intro (.int .i64 (dH s)) ?_ ?_; focus ((repeat' with_reducible first | intro _ | refine rz ?_ | refine ra ?_ ?_ | omega | simp (maxSteps := 9^7) only [go_sem]); refine VcCall.k (kH) ?_; (repeat' with_reducible first | intro _ | refine rz ?_ | refine ra ?_ ?_ | omega | simp (maxSteps := 9^7) only [go_sem])))
 (repeat' with_reducible first | intro _ | refine rz ?_ | refine ra ?_ ?_ | omega | simp (maxSteps := 9^7) only [go_sem])
 refine VcDraw.lex [] [] (by kernel_rfl) (by kernel_rfl) ?_
 (repeat' with_reducible first | intro _ | refine rz ?_ | refine ra ?_ ?_ | omega | simp (maxSteps := 9^7) only [go_sem, Nat.sub_zero, hal])
 (refine QV.intro (.str (sumB (s.take (s.length - 8)))) ?_ ?_; focus ((repeat' with_reducible first | intro _ | refine rz ?_ | refine ra ?_ ?_ | omega | simp (maxSteps := 9^7) only [go_sem]); refine VcCall.k (ks) ?_; (repeat' with_reducible first | intro _ | refine rz ?_ | refine ra ?_ ?_ | omega | simp (maxSteps := 9^7) only [go_sem])))
 (repeat' with_reducible first | intro _ | refine rz ?_ | refine ra ?_ ?_ | omega | simp (maxSteps := 9^7) only [go_sem, Nat.sub_zero, hal, htd, f4])
 refine VcCall.k kk ?_
 (repeat' with_reducible first | intro _ | refine rz ?_ | refine ra ?_ ?_ | omega | simp (maxSteps := 9^7) only [go_sem])
 refine VcCall.k kz ?_
 (repeat' with_reducible first | intro _ | refine rz ?_ | refine ra ?_ ?_ | omega | simp (maxSteps := 9^7) only [go_sem, hal, hcut])
 refine VcCall.f kp 0 ?_
 (repeat' with_reducible first | intro _ | refine rz ?_ | refine ra ?_ ?_ | omega | simp (maxSteps := 9^7) only [go_sem])
 refine Ret.auto 0 ?_ rfl ?_ <;> simp only [go_sem, Int.natCast_succ, Post]
set_option maxHeartbeats 8000000 in
theorem decode_e7 (s : Bytes) (c : DCut s) (h3 : sumB (s.take (s.length - 8)) = s.drop (s.length - 8)) (h4 : 1 ≤ dK s ∧ dK s ≤ 4) (h5 : sizeErr (dW s) (dH s) = 0) (h6 : (dPg s).2 = true) (h7 : ¬ encB (dW s) (dH s) (dPg s).1 (dK s) = s) : FnOk Tryz.prog 15 [.str s] (.tup [.agg [.int .i64 0, .int .i64 0, .nilS], .int .i64 8]) [] := by
 obtain ⟨c1, c2, c3⟩ := c
 have f1 : ((2097152 : Int) < (s.length : Int)) = False := eq_false (by omega)
 have f2 : ((s.length : Int) < 17) = False := eq_false (by omega)
 have kb := bigAt_ok ((s.drop 5).take 4) (by rw [List.length_take]; omega)
 have kK := bigAt_ok (s.take 1) (by rw [List.length_take]; omega)
 have kW := bigAt_ok ((s.drop 1).take 2) (by rw [List.length_take]; omega)
 have kH := bigAt_ok ((s.drop 3).take 2) (by rw [List.length_take]; omega)
 rw [show numB (s.take 1) = dK s from rfl] at kK
 rw [show numB ((s.drop 1).take 2) = dW s from rfl] at kW
 rw [show numB ((s.drop 3).take 2) = dH s from rfl] at kH
 have hlt := dL_lt s
 rw [show numB ((s.drop 5).take 4) = dL s from rfl] at kb
 have f3 : ((s.length : Int) = 9 + (dL s : Int) + 8) = True := eq_true (by omega)
 have ks := sumOf_ok (s.take (s.length - 8)) (by rw [List.length_take]; omega)
 have hal := cut_all s c1
 have e8 : (s.length : Int) - 8 = ((s.length - 8 : Nat) : Int) := by omega
 have htd : (s.drop (s.length - 8)).take (s.length - (s.length - 8)) = s.drop (s.length - 8) := List.take_of_length_le (by rw [List.length_drop]; exact Nat.le_refl _)
 have hKl := dK_lt s
 have hWl := dW_lt s
 have hHl := dH_lt s
 have hDl := dD_len s c1
 have f4 : (sumB (s.take (s.length - 8)) = s.drop (s.length - 8)) = True := eq_true h3
 have kk := isKind_ok (dK s)
 rw [decide_eq_true (by omega)] at kk
 have kz := checkSize_ok (dW s) (dH s)
 have hz := sizeErr_zero h5
 have hwh : ((dW s : Int) * (dH s : Int)) = ((dW s * dH s : Nat) : Int) := (Int.natCast_mul _ _).symm
 rw [hwh] at hz
 rw [h5] at kz
 have kp := pageOf_good (dW s) (dH s) (by omega) (by omega) (by omega) (by omega) (dD s) (by omega) (dK s) (by omega) h6
 have hcut := dD_cut s c1
 have hp : pgOf (dK s) (dW s) (dH s) (dD s) = dPg s := rfl
 rw [hp] at kp
 have hpl : (dPg s).1.length = dW s * dH s := pgOf_len h6
 have ke := encode_ok (dW s) (dH s) (by omega) (by omega) (by omega) (by omega) (dPg s).1 hpl (dK s) (by omega)
 have f9 : (encB (dW s) (dH s) (dPg s).1 (dK s) = s) = False := eq_false h7
 generalize encB (dW s) (dH s) (dPg s).1 (dK s) = E at *
 generalize dPg s = q at *
 generalize dD s = d at *
 generalize dL s = L at *
 refine FnOk.of_vc Tryz.func15 rfl (by decide) (by simp [Tryz.f15]) [.cell 2 24, .tmp 3] rfl fun w0 T0 _ => ?_
 simp only [Tryz.f15, argEnv]
 (repeat' with_reducible first | intro _ | refine rz ?_ | refine ra ?_ ?_ | omega | simp (maxSteps := 9^7) only [go_sem, f1, f2])
 refine VcCall.k kb ?_
 (repeat' with_reducible first | intro _ | refine rz ?_ | refine ra ?_ ?_ | omega | simp (maxSteps := 9^7) only [go_sem, f3, e8])
 refine VcDraw.lex [] [] (by kernel_rfl) (by kernel_rfl) ?_
 (repeat' with_reducible first | intro _ | refine rz ?_ | refine ra ?_ ?_ | omega | simp (maxSteps := 9^7) only [go_sem])
 (refine QV.intro (.int .i64 (dK s)) ?_ ?_; focus ((repeat' with_reducible first | intro _ | refine rz ?_ | refine ra ?_ ?_ | omega | simp (maxSteps := 9^7) only [go_sem]); refine VcCall.k (kK) ?_; (repeat' with_reducible first | intro _ | refine rz ?_ | refine ra ?_ ?_ | omega | simp (maxSteps := 9^7) only [go_sem])))
 (repeat' with_reducible first | intro _ | refine rz ?_ | refine ra ?_ ?_ | omega | simp (maxSteps := 9^7) only [go_sem])
 (refine QV.intro (.int .i64 (dW s)) ?_ ?_; focus ((repeat' with_reducible first | intro _ | refine rz ?_ | refine ra ?_ ?_ | omega | simp (maxSteps := 9^7) only [go_sem]); refine VcCall.k (kW) ?_; (repeat' with_reducible first | intro _ | refine rz ?_ | refine ra ?_ ?_ | omega | simp (maxSteps := 9^7) only [go_sem])))
 (repeat' with_reducible first | intro _ | refine rz ?_ | refine ra ?_ ?_ | omega | simp (maxSteps := 9^7) only [go_sem])
 (refine QV.intro (.int .i64 (dH s)) ?_ ?_; focus ((repeat' with_reducible first | intro _ | refine rz ?_ | refine ra ?_ ?_ | omega | simp (maxSteps := 9^7) only [go_sem]); refine VcCall.k (kH) ?_; (repeat' with_reducible first | intro _ | refine rz ?_ | refine ra ?_ ?_ | omega | simp (maxSteps := 9^7) only [go_sem])))
 (repeat' with_reducible first | intro _ | refine rz ?_ | refine ra ?_ ?_ | omega | simp (maxSteps := 9^7) only [go_sem])
 refine VcDraw.lex [] [] (by kernel_rfl) (by kernel_rfl) ?_
 (repeat' with_reducible first | intro _ | refine rz ?_ | refine ra ?_ ?_ | omega | simp (maxSteps := 9^7) only [go_sem, Nat.sub_zero, hal])
 (refine QV.intro (.str (sumB (s.take (s.length - 8)))) ?_ ?_; focus ((repeat' with_reducible first | intro _ | refine rz ?_ | refine ra ?_ ?_ | omega | simp (maxSteps := 9^7) only [go_sem]); refine VcCall.k (ks) ?_; (repeat' with_reducible first | intro _ | refine rz ?_ | refine ra ?_ ?_ | omega | simp (maxSteps := 9^7) only [go_sem])))
 (repeat' with_reducible first | intro _ | refine rz ?_ | refine ra ?_ ?_ | omega | simp (maxSteps := 9^7) only [go_sem, Nat.sub_zero, hal, htd, f4])
 refine VcCall.k kk ?_
 (repeat' with_reducible first | intro _ | refine rz ?_ | refine ra ?_ ?_ | omega | simp (maxSteps := 9^7) only [go_sem])
 refine VcCall.k kz ?_
 (repeat' with_reducible first | intro _ | refine rz ?_ | refine ra ?_ ?_ | omega | simp (maxSteps := 9^7) only [go_sem, hal, hcut])
 refine VcCall.o kp 1 ?_
 (repeat' with_reducible first | intro _ | refine rz ?_ | refine ra ?_ ?_ | omega | simp (maxSteps := 9^7) only [go_sem])
 refine VcCall.k ke ?_
 (repeat' with_reducible first | intro _ | refine rz ?_ | refine ra ?_ ?_ | omega | simp (maxSteps := 9^7) only [go_sem, f9])
 refine Ret.auto 0 ?_ rfl ?_ <;> simp only [go_sem, Int.natCast_succ, Post]
set_option maxHeartbeats 8000000 in
theorem decode_ok (s : Bytes) (c : DCut s) (h3 : sumB (s.take (s.length - 8)) = s.drop (s.length - 8)) (h4 : 1 ≤ dK s ∧ dK s ≤ 4) (h5 : sizeErr (dW s) (dH s) = 0) (h6 : (dPg s).2 = true) (h7 : encB (dW s) (dH s) (dPg s).1 (dK s) = s) : FnOk Tryz.prog 15 [.str s] (.tup [.agg [.int .i64 (dW s), .int .i64 (dH s), .own 0], .int .i64 0]) [(0, .row 4 (.bools (dPg s).1))] := by
 obtain ⟨c1, c2, c3⟩ := c
 have f1 : ((2097152 : Int) < (s.length : Int)) = False := eq_false (by omega)
 have f2 : ((s.length : Int) < 17) = False := eq_false (by omega)
 have kb := bigAt_ok ((s.drop 5).take 4) (by rw [List.length_take]; omega)
 have kK := bigAt_ok (s.take 1) (by rw [List.length_take]; omega)
 have kW := bigAt_ok ((s.drop 1).take 2) (by rw [List.length_take]; omega)
 have kH := bigAt_ok ((s.drop 3).take 2) (by rw [List.length_take]; omega)
 rw [show numB (s.take 1) = dK s from rfl] at kK
 rw [show numB ((s.drop 1).take 2) = dW s from rfl] at kW
 rw [show numB ((s.drop 3).take 2) = dH s from rfl] at kH
 have hlt := dL_lt s
 rw [show numB ((s.drop 5).take 4) = dL s from rfl] at kb
 have f3 : ((s.length : Int) = 9 + (dL s : Int) + 8) = True := eq_true (by omega)
 have ks := sumOf_ok (s.take (s.length - 8)) (by rw [List.length_take]; omega)
 have hal := cut_all s c1
 have e8 : (s.length : Int) - 8 = ((s.length - 8 : Nat) : Int) := by omega
 have htd : (s.drop (s.length - 8)).take (s.length - (s.length - 8)) = s.drop (s.length - 8) := List.take_of_length_le (by rw [List.length_drop]; exact Nat.le_refl _)
 have hKl := dK_lt s
 have hWl := dW_lt s
 have hHl := dH_lt s
 have hDl := dD_len s c1
 have f4 : (sumB (s.take (s.length - 8)) = s.drop (s.length - 8)) = True := eq_true h3
 have kk := isKind_ok (dK s)
 rw [decide_eq_true (by omega)] at kk
 have kz := checkSize_ok (dW s) (dH s)
 have hz := sizeErr_zero h5
 have hwh : ((dW s : Int) * (dH s : Int)) = ((dW s * dH s : Nat) : Int) := (Int.natCast_mul _ _).symm
 rw [hwh] at hz
 rw [h5] at kz
 have kp := pageOf_good (dW s) (dH s) (by omega) (by omega) (by omega) (by omega) (dD s) (by omega) (dK s) (by omega) h6
 have hcut := dD_cut s c1
 have hp : pgOf (dK s) (dW s) (dH s) (dD s) = dPg s := rfl
 rw [hp] at kp
 have hpl : (dPg s).1.length = dW s * dH s := pgOf_len h6
 have ke := encode_ok (dW s) (dH s) (by omega) (by omega) (by omega) (by omega) (dPg s).1 hpl (dK s) (by omega)
 have f9 : (encB (dW s) (dH s) (dPg s).1 (dK s) = s) = True := eq_true h7
 generalize encB (dW s) (dH s) (dPg s).1 (dK s) = E at *
 generalize dPg s = q at *
 generalize dD s = d at *
 generalize dL s = L at *
 refine FnOk.of_vc Tryz.func15 rfl (by decide) (by simp [Tryz.f15]) [.cell 2 24, .tmp 3] rfl fun w0 T0 _ => ?_
 simp only [Tryz.f15, argEnv]
 (repeat' with_reducible first | intro _ | refine rz ?_ | refine ra ?_ ?_ | omega | simp (maxSteps := 9^7) only [go_sem, f1, f2])
 refine VcCall.k kb ?_
 (repeat' with_reducible first | intro _ | refine rz ?_ | refine ra ?_ ?_ | omega | simp (maxSteps := 9^7) only [go_sem, f3, e8])
 refine VcDraw.lex [] [] (by kernel_rfl) (by kernel_rfl) ?_
 (repeat' with_reducible first | intro _ | refine rz ?_ | refine ra ?_ ?_ | omega | simp (maxSteps := 9^7) only [go_sem])
 (refine QV.intro (.int .i64 (dK s)) ?_ ?_; focus ((repeat' with_reducible first | intro _ | refine rz ?_ | refine ra ?_ ?_ | omega | simp (maxSteps := 9^7) only [go_sem]); refine VcCall.k (kK) ?_; (repeat' with_reducible first | intro _ | refine rz ?_ | refine ra ?_ ?_ | omega | simp (maxSteps := 9^7) only [go_sem])))
 (repeat' with_reducible first | intro _ | refine rz ?_ | refine ra ?_ ?_ | omega | simp (maxSteps := 9^7) only [go_sem])
 (refine QV.intro (.int .i64 (dW s)) ?_ ?_; focus ((repeat' with_reducible first | intro _ | refine rz ?_ | refine ra ?_ ?_ | omega | simp (maxSteps := 9^7) only [go_sem]); refine VcCall.k (kW) ?_; (repeat' with_reducible first | intro _ | refine rz ?_ | refine ra ?_ ?_ | omega | simp (maxSteps := 9^7) only [go_sem])))
 (repeat' with_reducible first | intro _ | refine rz ?_ | refine ra ?_ ?_ | omega | simp (maxSteps := 9^7) only [go_sem])
 (refine QV.intro (.int .i64 (dH s)) ?_ ?_; focus ((repeat' with_reducible first | intro _ | refine rz ?_ | refine ra ?_ ?_ | omega | simp (maxSteps := 9^7) only [go_sem]); refine VcCall.k (kH) ?_; (repeat' with_reducible first | intro _ | refine rz ?_ | refine ra ?_ ?_ | omega | simp (maxSteps := 9^7) only [go_sem])))
 (repeat' with_reducible first | intro _ | refine rz ?_ | refine ra ?_ ?_ | omega | simp (maxSteps := 9^7) only [go_sem])
 refine VcDraw.lex [] [] (by kernel_rfl) (by kernel_rfl) ?_
 (repeat' with_reducible first | intro _ | refine rz ?_ | refine ra ?_ ?_ | omega | simp (maxSteps := 9^7) only [go_sem, Nat.sub_zero, hal])
 (refine QV.intro (.str (sumB (s.take (s.length - 8)))) ?_ ?_; focus ((repeat' with_reducible first | intro _ | refine rz ?_ | refine ra ?_ ?_ | omega | simp (maxSteps := 9^7) only [go_sem]); refine VcCall.k (ks) ?_; (repeat' with_reducible first | intro _ | refine rz ?_ | refine ra ?_ ?_ | omega | simp (maxSteps := 9^7) only [go_sem])))
 (repeat' with_reducible first | intro _ | refine rz ?_ | refine ra ?_ ?_ | omega | simp (maxSteps := 9^7) only [go_sem, Nat.sub_zero, hal, htd, f4])
 refine VcCall.k kk ?_
 (repeat' with_reducible first | intro _ | refine rz ?_ | refine ra ?_ ?_ | omega | simp (maxSteps := 9^7) only [go_sem])
 refine VcCall.k kz ?_
 (repeat' with_reducible first | intro _ | refine rz ?_ | refine ra ?_ ?_ | omega | simp (maxSteps := 9^7) only [go_sem, hal, hcut])
 refine VcCall.o kp 1 ?_
 (repeat' with_reducible first | intro _ | refine rz ?_ | refine ra ?_ ?_ | omega | simp (maxSteps := 9^7) only [go_sem])
 refine VcCall.k ke ?_
 (repeat' with_reducible first | intro _ | refine rz ?_ | refine ra ?_ ?_ | omega | simp (maxSteps := 9^7) only [go_sem, f9])
 refine Ret.auto 1 ?_ rfl ?_ <;> simp only [go_sem, Int.natCast_succ, Post]
theorem decode_fr (s : Bytes) (hs : s.length ≤ 200000000000000) : FnFr Tryz.prog 15 [.str s] (dqA (decR s)) [] := by
 unfold decR
 have no : ∀ e, FnOk Tryz.prog 15 [.str s] (.tup [.agg [.int .i64 0, .int .i64 0, .nilS], .int .i64 e]) [] → FnFr Tryz.prog 15 [.str s] (dqA (dNo e)) [] := fun e k =>
  FnFr.toRo (FnFr.of_ok k rfl rfl) (by simp [dqA, dNo, outOk, argOkL, allOk, argOk, argOkN, lk, noIdR_ok, nilRow])
 by_cases h1 : 2097152 < s.length
 ·rw [if_pos h1]; exact no _ (decode_e1 s hs h1)
 rw [if_neg h1]
 by_cases h2 : s.length < 17 ∨ s.length ≠ 17 + dL s
 ·rw [if_pos h2]; exact no _ (decode_e2 s (by omega) h2)
 rw [if_neg h2]
 have c : DCut s := ⟨by omega, by omega, by omega⟩
 by_cases h3 : sumB (s.take (s.length - 8)) = s.drop (s.length - 8)
 rotate_left
 ·rw [if_pos h3]; exact no _ (decode_e3 s c h3)
 rw [if_neg (fun h => h h3)]
 by_cases h4 : 1 ≤ dK s ∧ dK s ≤ 4
 rotate_left
 ·rw [if_pos h4]; exact no _ (decode_e4 s c h3 h4)
 rw [if_neg (fun h => h h4)]
 by_cases h5 : sizeErr (dW s) (dH s) = 0
 rotate_left
 ·rw [if_pos h5]; exact no _ (decode_e5 s c h3 h4 h5)
 rw [if_neg (fun h => h h5)]
 by_cases h6 : (dPg s).2 = true
 rotate_left
 ·rw [if_neg (fun h => h6 h.1)]; exact no _ (decode_e6 s c h3 h4 h5 (by simpa using h6))
 by_cases h7 : encB (dW s) (dH s) (dPg s).1 (dK s) = s
 ·rw [if_pos ⟨h6, h7⟩]
  exact FnFr.toRo (FnFr.of_ok (decode_ok s c h3 h4 h5 h6 h7) rfl rfl) (by simp [dqA, outOk, argOkL, allOk, argOk, argOkN, lk, noIdR_ok])
 ·rw [if_neg (fun h => h7 h.2)]; exact no _ (decode_e7 s c h3 h4 h5 h6 h7)
end Go.Fv.H
/- strings.Builder.WriteByte. -/
namespace Go.Fv.H
open Go Go.Proofs
set_option linter.unusedSimpArgs false
set_option linter.unusedVariables false
set_option linter.unnecessarySimpa false
set_option maxRecDepth 8000
set_option maxHeartbeats 2000000 in
theorem byteFresh_io (c : UInt8) : FnIO Tryz.prog 54 [.ptr 0 0, .int .u8 c.toNat] [(0, .box 89 [.raw (.pointer none), .nilS])] 1 (.raw .nilIface) [(0, .box 89 [.ptr 0 0, .own 1]), (1, .row 5 (.ints .u8 (byteInts [c])))] := by
 have k := copyFresh_io
 refine FnIO.of_vc Tryz.func54 rfl (by decide) (by simp [Tryz.f54]) covB1 [.tmp 4] rfl fun w0 T0 _ => ?_
 simp only [Tryz.f54, argEnv]
 (repeat' with_reducible first | intro _ | refine rz ?_ | refine ra ?_ ?_ | omega | simp (maxSteps := 9^7) only [go_sem])
 refine VcCall.i [0] k 1 ?_
 (repeat' with_reducible first | intro _ | refine rz ?_ | refine ra ?_ ?_ | omega | simp (maxSteps := 9^7) only [go_sem, S.ioS, ioRows, ioN, delL, Item.ren, ren, renL, List.getElem?_cons_zero, List.getElem?_cons_succ, List.getElem?_nil, List.filter])
 refine RetK.of [(1, 3)] 3 (by decide) (by decide) ?_ rfl ?_ <;> simp only [go_sem, Int.natCast_succ, byteInts, List.map_cons, List.map_nil]
set_option maxHeartbeats 2000000 in
theorem byteUsed_io (b : List UInt8) (c : UInt8) (hb : b.length ≤ 100000000000) : FnIO Tryz.prog 54 [.ptr 0 0, .int .u8 c.toNat] [(0, .box 89 [.ptr 0 0, .own 1]), (1, .row 5 (.ints .u8 (byteInts b)))] 2 (.raw .nilIface) [(0, .box 89 [.ptr 0 0, .own 2]), (2, .row 5 (.ints .u8 (byteInts (b ++ [c]))))] := by
 have k := copyUsed_io 5 (byteInts b)
 have hbl := byteInts_len b
 have he : byteInts (b ++ [c]) = byteInts b ++ [(c.toNat : Int)] := by unfold byteInts; rw [List.map_append]; rfl
 generalize byteInts b = B at *
 generalize byteInts (b ++ [c]) = C at *
 refine FnIO.of_vc Tryz.func54 rfl (by decide) (by simp [Tryz.f54]) covB2 [.tmp 4] rfl fun w0 T0 _ => ?_
 simp only [Tryz.f54, argEnv]
 (repeat' with_reducible first | intro _ | refine rz ?_ | refine ra ?_ ?_ | omega | simp (maxSteps := 9^7) only [go_sem])
 refine VcCall.i [0, 1] k 2 ?_
 (repeat' with_reducible first | intro _ | refine rz ?_ | refine ra ?_ ?_ | omega | simp (maxSteps := 9^7) only [go_sem])
 refine RetK.of [(2, 3)] 3 (by decide) (by decide) ?_ rfl ?_ <;> simp only [go_sem, Int.natCast_succ, he]
end Go.Fv.H
/- bedref1.plus: the walk. -/
namespace Go.Fv.H
open Go Go.Proofs
set_option linter.unusedSimpArgs false
set_option linter.unusedVariables false
set_option linter.unnecessarySimpa false
set_option maxRecDepth 8000
def plL (k N m t : Nat) : Bytes := beB (k - t) (N / 256 ^ t) ++ beB t (N + m)
def plX (N m t : Nat) : Nat := (N % 256 ^ t + m) / 256 ^ t
theorem plL_zero (k N m : Nat) : plL k N m 0 = beB k N := by unfold plL; rw [Nat.pow_zero, Nat.div_one, beB_zero, List.append_nil]; rfl
theorem plX_zero (N m : Nat) : plX N m 0 = m := by unfold plX; rw [Nat.pow_zero, Nat.mod_one, Nat.div_one, Nat.zero_add]
theorem plX_le (N m t : Nat) : plX N m t ≤ m + 1 := by
 unfold plX
 have hq : 0 < 256 ^ t := Nat.pow_pos (by decide)
 generalize 256 ^ t = q at *
 have h1 := Nat.mod_lt N hq
 have h2 : (N % q + m) / q ≤ (q + m) / q := Nat.div_le_div_right (by omega)
 rw [Nat.add_comm q, Nat.add_div_right _ hq] at h2
 have := Nat.div_le_self m q
 omega
theorem pl_sum (N m t : Nat) : (N + m) / 256 ^ t = plX N m t + N / 256 ^ t := by
 unfold plX
 have hq : 0 < 256 ^ t := Nat.pow_pos (by decide)
 generalize 256 ^ t = q at *
 have h := Nat.div_add_mod N q
 have e : N + m = (N % q + m) + q * (N / q) := by omega
 rw [e, Nat.add_mul_div_left _ _ hq]
theorem plX_succ (N m t : Nat) : plX N m (t + 1) = (plX N m t + N / 256 ^ t % 256) / 256 := by
 unfold plX
 have hq : 0 < 256 ^ t := Nat.pow_pos (by decide)
 rw [Nat.pow_succ, Nat.mod_mul, ← Nat.div_div_eq_div_mul]
 generalize 256 ^ t = q at *
 have e : N % q + q * (N / q % 256) + m = (N % q + m) + q * (N / q % 256) := by omega
 rw [e, Nat.add_mul_div_left _ _ hq]
theorem plL_done {k N m t : Nat} (ht : t ≤ k) (h : plX N m t = 0 ∨ t = k) : plL k N m t = beB k (N + m) := by
 rcases h with h | h
 ·have h2 := pl_sum N m t
  rw [h, Nat.zero_add] at h2
  unfold plL
  rw [← h2, ← beB_add, Nat.sub_add_cancel ht]
 ·subst h; unfold plL; rw [Nat.sub_self, beB_zero, List.nil_append]
theorem plL_now {k N m t : Nat} (ht : t < k) : plL k N m t = beB (k - t - 1) (N / 256 ^ t / 256) ++ UInt8.ofNat (N / 256 ^ t) :: beB t (N + m) := by
 unfold plL
 have e : k - t = (k - t - 1) + 1 := by omega
 rw [e, beB_succ, List.append_assoc, List.singleton_append]
 rfl
theorem plL_next {k N m t : Nat} (ht : t < k) : plL k N m (t + 1) = beB (k - t - 1) (N / 256 ^ t / 256) ++ UInt8.ofNat ((N + m) / 256 ^ t) :: beB t (N + m) := by
 unfold plL
 have e : k - (t + 1) = k - t - 1 := by omega
 rw [e, Nat.pow_succ, ← Nat.div_div_eq_div_mul, Nat.add_comm t 1, beB_add 1 t]
 have e2 : ∀ n, beB 1 n = [UInt8.ofNat n] := fun n => by
  have := beB_succ 0 n
  rw [beB_zero, List.nil_append] at this
  exact this
 rw [e2, List.singleton_append]
theorem plL_len {k N m t : Nat} (ht : t ≤ k) : (plL k N m t).length = k := by unfold plL; rw [List.length_append, beB_len, beB_len]; omega
set_option maxHeartbeats 4000000 in
theorem plus_io (k N m : Nat) (hk : k ≤ 2000000) (hm : m ≤ 4294967296) :
  FnIO Tryz.prog 102 [.own 0, .int .i64 m] [(0, .row 5 (.ints .u8 (byteInts (beB k N))))] 1 (.tup []) [(0, .row 5 (.ints .u8 (byteInts (beB k (N + m)))))] := by
 have hl0 : (byteInts (beB k N)).length = k := by rw [bytes_len, beB_len]
 refine FnIO.of_vc Tryz.func102 rfl (by decide) (by simp [Tryz.f102]) covB1 [] rfl fun w0 T0 _ => ?_
 simp only [Tryz.f102, argEnv]
 (repeat' with_reducible first | intro _ | refine rz ?_ | refine ra ?_ ?_ | omega | simp (maxSteps := 9^7) only [go_sem, hl0])
 refine VcLoop.intro (fun t : Nat => ⟨30, [(4, .int .i64 ((k : Int) - 1 - (t : Int))), (1, .int .i64 (plX N m t)), (0, .own 0)], [(0, .row 5 (.ints .u8 (byteInts (plL k N m t))))], 1⟩) (fun t => t ≤ k) (fun t => k - t) 0 ?_ (Nat.zero_le _) fun t ht => ?_
 ·refine Ent.autoK 1 rfl (Nat.le_refl 1) ?_ ?_ <;> simp only [go_sem, Int.natCast_succ, fromL, plL_zero, plX_zero]
  all_goals omega
 have hx := plX_le N m t
 by_cases hgo : 0 < plX N m t ∧ t < k
 ·have f1 : (0 < ((plX N m t : Nat) : Int)) = True := eq_true (by omega)
  have f2 : (0 ≤ (k : Int) - 1 - (t : Int)) = True := eq_true (by omega)
  have hnow := plL_now (N := N) (m := m) hgo.2
  have hnext := plL_next (N := N) (m := m) hgo.2
  have hsum := pl_sum N m t
  have hxs := plX_succ N m t
  have hAl := beB_len (k - t - 1) (N / 256 ^ t / 256)
  have hlen : (byteInts (plL k N m t)).length = k := by rw [bytes_len, plL_len (by omega)]
  have hat := bytes_mid (beB (k - t - 1) (N / 256 ^ t / 256)) (UInt8.ofNat (N / 256 ^ t)) (beB t (N + m))
  have hset := bytes_set (beB (k - t - 1) (N / 256 ^ t / 256)) (UInt8.ofNat (N / 256 ^ t)) (UInt8.ofNat ((N + m) / 256 ^ t)) (beB t (N + m))
  rw [← hnow, hAl] at hat hset
  rw [← hnext] at hset
  have hbt : (UInt8.ofNat (N / 256 ^ t)).toNat = N / 256 ^ t % 256 := by simp
  have hbv : (UInt8.ofNat ((N + m) / 256 ^ t)).toNat = (N + m) / 256 ^ t % 256 := by simp
  rw [hbt] at hat
  rw [hbv] at hset
  have hix : ((k : Int) - 1 - (t : Int)).toNat = k - t - 1 := by omega
  have hsh : ∀ a : Nat, shrI .i64 (a : Int) 8 = ((a / 256 : Nat) : Int) := fun a => by
   unfold shrI
   rw [show (2 : Int) ^ (min (8 : Int).toNat IntKind.i64.bits) = 256 by rfl, Int.fdiv_eq_ediv_of_nonneg _ (by decide)]
   rfl
  have hv : ((plX N m t : Nat) : Int) + ((N / 256 ^ t % 256 : Nat) : Int) = ((plX N m t + N / 256 ^ t % 256 : Nat) : Int) := by omega
  have hw8 : IntKind.u8.wrap ((plX N m t + N / 256 ^ t % 256 : Nat) : Int) = (((N + m) / 256 ^ t % 256 : Nat) : Int) := by rw [wrap8, hsum]; omega
  have hq := hsh (plX N m t + N / 256 ^ t % 256)
  rw [← hxs] at hq
  have hb256 : N / 256 ^ t % 256 < 256 := Nat.mod_lt _ (by decide)
  generalize hx2 : plX N m (t + 1) = x2 at *
  generalize plX N m t = x at *
  generalize (N + m) / 256 ^ t % 256 = y at *
  generalize N / 256 ^ t % 256 = z at *
  (repeat' with_reducible first | intro _ | refine rz ?_ | refine ra ?_ ?_ | omega | simp (maxSteps := 9^7) only [go_sem, f1, f2, hix, hlen, hat, hv])
  refine LetW.at _ hw8 ?_
  (repeat' with_reducible first | intro _ | refine rz ?_ | refine ra ?_ ?_ | omega | simp (maxSteps := 9^7) only [go_sem, hix, hlen, hset, hq])
  refine ⟨t + 1, Ent.autoK 1 rfl (Nat.le_refl 1) ?_ ?_, by omega, by omega⟩ <;> simp only [go_sem, Int.natCast_succ, fromL, hx2]
  all_goals omega
 ·have hd := plL_done (N := N) (m := m) ht (by omega)
  by_cases f : 0 < plX N m t
  ·have f1 : (0 < ((plX N m t : Nat) : Int)) = True := eq_true (by omega)
   have f2 : (0 ≤ (k : Int) - 1 - (t : Int)) = False := eq_false (by omega)
   (repeat' with_reducible first | intro _ | refine rz ?_ | refine ra ?_ ?_ | omega | simp (maxSteps := 9^7) only [go_sem, f1, f2])
   refine RetK.auto 1 (Nat.le_refl 1) ?_ rfl ?_ <;> simp only [go_sem, Int.natCast_succ, fromL, hd]
  ·have f1 : (0 < ((plX N m t : Nat) : Int)) = False := eq_false (by omega)
   (repeat' with_reducible first | intro _ | refine rz ?_ | refine ra ?_ ?_ | omega | simp (maxSteps := 9^7) only [go_sem, f1])
   refine RetK.auto 1 (Nat.le_refl 1) ?_ rfl ?_ <;> simp only [go_sem, Int.natCast_succ, fromL, hd]
end Go.Fv.H
/- bedref1.adaptive: the walk. -/
namespace Go.Fv.H
open Go Go.Proofs
set_option linter.unusedSimpArgs false
set_option linter.unusedVariables false
set_option linter.unnecessarySimpa false
set_option maxRecDepth 8000
set_option maxHeartbeats 16000000 in
theorem refAdaptive_ok (w h : Nat) (hw0 : 0 < w) (hw : w ≤ 4000) (hh : h ≤ 4000) (hwh : w * h ≤ 1048576) (p : List Bool) (hp : p.length = w * h) :
  FnOk Tryz.prog 63 [.agg [.int .i64 w, .int .i64 h, .ro (.bools p)]] (.str (adB w h p)) [] := by
 refine FnOk.of_vc Tryz.func63 rfl (by decide) (by simp [Tryz.f63]) [.tmp 2] rfl fun w0 T0 _ => ?_
 simp only [Tryz.f63, argEnv]
 (repeat' with_reducible first | intro _ | refine rz ?_ | refine ra ?_ ?_ | omega | simp (maxSteps := 9^7) only [go_sem])
 have hT := tab0_len
 have hg0 := @tab0_at
 have ht0 : natI (aeAt w h p 0).tab = natI tab0 := rfl
 refine VcLoop.intro (fun i : Nat => ⟨88, [(14, .int .i64 i), (13, .int .i64 1024), (3, .own 1), (1, .ptr 0 0)], [(0, .box 24 [.int .i64 w, .int .i64 h, .ro (.bools p)]), (1, .row 3 (.ints .i64 ((natI tab0).take i ++ List.replicate (1024 - i) 0)))], 2⟩) (fun i => i ≤ 1024) (fun i => 1024 - i) 0 ?_ (Nat.zero_le _) fun i hi => ?_
 ·refine Ent.auto0 rfl ?_ ?_ <;> simp only [go_sem, Int.natCast_succ]
  all_goals rfl
 have htl : ((natI tab0).take i).length = i := by rw [List.length_take, hT]; omega
 by_cases hlt : i < 1024
 ·have f1 : ((i : Int) < 1024) = True := eq_true (by omega)
  have hg : (natI tab0).getD i 0 = 2048 := hg0 hlt
  have hs := fill_set (z := 0) (d := 0) hT hlt
  rw [hg] at hs
  (repeat' with_reducible first | intro _ | refine rz ?_ | refine ra ?_ ?_ | omega | simp (maxSteps := 9^7) only [go_sem, f1, htl])
  rw [hs]
  refine ⟨i + 1, Ent.auto0 rfl ?_ ?_, by omega, by omega⟩ <;> simp only [go_sem, Int.natCast_succ]
 have f1 : ((i : Int) < 1024) = False := eq_false (by omega)
 have e : i = 1024 := by omega
 subst e
 have hfull : (natI tab0).take 1024 = natI tab0 := List.take_of_length_le (by rw [hT]; exact Nat.le_refl _)
 rw [hfull, Nat.sub_self, List.replicate_zero, List.append_nil]
 (repeat' with_reducible first | intro _ | refine rz ?_ | refine ra ?_ ?_ | omega | simp (maxSteps := 9^7) only [go_sem, f1])
 refine VcLoop.intro (fun y : Nat => ⟨88, [(24, .int .i64 y), (23, .int .i64 h), (6, .int .i64 (aeAt w h p (y * w)).span), (5, .own 2), (3, .own 1), (1, .ptr 0 0)], [(0, .box 24 [.int .i64 w, .int .i64 h, .ro (.bools p)]), (1, .row 3 (.ints .i64 (natI (aeAt w h p (y * w)).tab))), (2, .row 5 (.ints .u8 (byteInts (beB (4 + (aeAt w h p (y * w)).sh) (aeAt w h p (y * w)).big))))], 3⟩) (fun y => y ≤ h) (fun y => h - y) 0 ?_ (Nat.zero_le _) fun y hy => ?_
 ·rw [Nat.zero_mul, ht0]
  refine Ent.auto0 rfl ?_ ?_ <;> simp only [go_sem, Int.natCast_succ]
  all_goals first | rfl | (show [0, 0, 0, 0] = byteInts (beB 4 0); rw [be4]; rfl)
 by_cases hylt : y < h
 rotate_left
 ·have f1 : ((y : Int) < (h : Int)) = False := eq_false (by omega)
  have e : y = h := by omega
  subst e
  have hbk := bytes_back (adB w y p)
  have hall : adB w y p = beB (4 + (aeAt w y p (y * w)).sh) (aeAt w y p (y * w)).big := by unfold adB; rw [hp, Nat.mul_comm]
  rw [← hall]
  (repeat' with_reducible first | intro _ | refine rz ?_ | refine ra ?_ ?_ | omega | simp (maxSteps := 9^7) only [go_sem, f1])
  refine Ret.auto 0 ?_ rfl ?_ <;> simp only [go_sem, Int.natCast_succ, Post, hbk]
 have fy : ((y : Int) < (h : Int)) = True := eq_true (by omega)
 (repeat' with_reducible first | intro _ | refine rz ?_ | refine ra ?_ ?_ | omega | simp (maxSteps := 9^7) only [go_sem, fy])
 refine VcLoop.intro (fun x : Nat => ⟨88, [(29, .int .i64 x), (28, .int .i64 w), (7, .int .i64 y), (24, .int .i64 y), (23, .int .i64 h), (6, .int .i64 (aeAt w h p (y * w + x)).span), (5, .own 2), (3, .own 1), (1, .ptr 0 0)], [(0, .box 24 [.int .i64 w, .int .i64 h, .ro (.bools p)]), (1, .row 3 (.ints .i64 (natI (aeAt w h p (y * w + x)).tab))), (2, .row 5 (.ints .u8 (byteInts (beB (4 + (aeAt w h p (y * w + x)).sh) (aeAt w h p (y * w + x)).big))))], 3⟩) (fun x => x ≤ w) (fun x => w - x) 0 ?_ (Nat.zero_le _) fun x hx => ?_
 ·rw [Nat.add_zero]
  refine Ent.auto0 rfl ?_ ?_ <;> simp only [go_sem, Int.natCast_succ]
 by_cases hxlt : x < w
 rotate_left
 ·have f1 : ((x : Int) < (w : Int)) = False := eq_false (by omega)
  have e : x = w := by omega
  subst e
  rw [← Nat.succ_mul]
  (repeat' with_reducible first | intro _ | refine rz ?_ | refine ra ?_ ?_ | omega | simp (maxSteps := 9^7) only [go_sem, f1])
  refine ⟨y + 1, Ent.auto0 rfl ?_ ?_, by omega, by omega⟩ <;> simp only [go_sem, Int.natCast_succ]
 have fx : ((x : Int) < (w : Int)) = True := eq_true (by omega)
 have hsh := sh_le w h p (y * w + x)
 have hlt : y * w + x < w * h := by
  have h1 : y * w + w ≤ h * w := by rw [← Nat.succ_mul]; exact Nat.mul_le_mul_right _ hylt
  rw [Nat.mul_comm w h]; omega
 have hm1 : (y * w + x) % w = x := by rw [Nat.mul_add_mod', Nat.mod_eq_of_lt hxlt]
 have hm2 : (y * w + x) / w = y := by
  rw [Nat.mul_comm, Nat.mul_add_div hw0, Nat.div_eq_of_lt hxlt, Nat.add_zero]
 have hnext : aeAt w h p (y * w + (x + 1)) = ((aeAt w h p (y * w + x)).mid (ctxP w h p (x : Int) (y : Int)) (p.getD (y * w + x) false)).norm := by
  have e : aeAt w h p (y * w + x + 1) = ((aeAt w h p (y * w + x)).mid (ctxP w h p (((y * w + x) % w : Nat) : Int) (((y * w + x) / w : Nat) : Int)) (p.getD (y * w + x) false)).norm := rfl
  rw [hm1, hm2] at e
  exact e
 have kc := contextOf_ok w h hw hh p hp (x : Int) (y : Int) (by omega) (by omega)
 have ka := refAt_ok w h hw hh p hp (x : Int) (y : Int)
 rw [atB_in p hxlt hylt] at ka
 have hc := ctxP_lt w h p (x : Int) (y : Int)
 have hok := aeAt_ok w h p (y * w + x)
 generalize ctxP w h p (x : Int) (y : Int) = c at *
 generalize p.getD (y * w + x) false = ink at *
 generalize aeAt w h p (y * w + x) = s at *
 obtain ⟨ht1, ht2⟩ := AE.tab_at hok hc
 obtain ⟨hm1, hm2⟩ := AE.m_ok hok hc
 have hlo := hok.lo
 have hhi := hok.hi
 have hlen := hok.len
 have hg := natI_at (l := s.tab) (i := c) (by rw [hlen]; exact hc)
 have hgl := natI_len s.tab
 have q1 : ((s.span : Nat) : Int).tdiv 4096 = ((s.span / 4096 : Nat) : Int) := by rw [Int.tdiv_eq_ediv_of_nonneg (Int.natCast_nonneg _)]; rfl
 have q2 : ((s.span / 4096 : Nat) : Int) * ((s.tab.getD c 0 : Nat) : Int) = ((s.m c : Nat) : Int) := (Int.natCast_mul _ _).symm
 have hnlo := (AE.step_ok hok hc ink).lo
 unfold AE.step at hnlo
 obtain ⟨M, hM⟩ : ∃ M, s.mid c ink = M := ⟨_, rfl⟩
 have hMt : M.tab = s.tab.set c (lrn (s.tab.getD c 0) ink) := by rw [← hM]; rfl
 have hMh : M.sh = s.sh := by rw [← hM]; rfl
 have hMs0 : M.span = if ink = true then s.span - s.m c else s.m c := by rw [← hM]; rfl
 have hMb0 : M.big = if ink = true then s.big + s.m c else s.big := by rw [← hM]; rfl
 rw [hM] at hnext hnlo
 have hset := natI_set s.tab c (lrn (s.tab.getD c 0) ink)
 have hlrn := lrn_ok ⟨ht1, ht2⟩ ink
 (repeat' with_reducible first | intro _ | refine rz ?_ | refine ra ?_ ?_ | omega | simp (maxSteps := 9^7) only [go_sem, fx])
 refine VcCall.k kc ?_
 (repeat' with_reducible first | intro _ | refine rz ?_ | refine ra ?_ ?_ | omega | simp (maxSteps := 9^7) only [go_sem, q1, q2, hg, hgl, hlen])
 refine VcCall.k ka ?_
 cases ink with
 | true =>
  rw [if_pos rfl] at hMs0 hMb0
  have hspI : (s.span : Int) - (s.m c : Int) = ((s.span - s.m c : Nat) : Int) := by omega
  have kp := plus_io (4 + s.sh) s.big (s.m c) (by omega) (by omega)
  have d1 : ((s.tab.getD c 0 : Nat) : Int).tdiv 32 = ((s.tab.getD c 0 / 32 : Nat) : Int) := by rw [Int.tdiv_eq_ediv_of_nonneg (Int.natCast_nonneg _)]; rfl
  have d2 : ((s.tab.getD c 0 : Nat) : Int) - ((s.tab.getD c 0 / 32 : Nat) : Int) = ((lrn (s.tab.getD c 0) true : Nat) : Int) := by
   have : lrn (s.tab.getD c 0) true = s.tab.getD c 0 - s.tab.getD c 0 / 32 := rfl
   omega
  (repeat' with_reducible first | intro _ | refine rz ?_ | refine ra ?_ ?_ | omega | simp (maxSteps := 9^7) only [go_sem])
  refine VcCall.i [2] kp 1 ?_
  (repeat' with_reducible first | intro _ | refine rz ?_ | refine ra ?_ ?_ | omega | simp (maxSteps := 9^7) only [go_sem, hspI])
  refine VcDraw.lex [11] [] (by kernel_rfl) (by kernel_rfl) ?_
  (repeat' with_reducible first | intro _ | refine rz ?_ | refine ra ?_ ?_ | omega | simp (maxSteps := 9^7) only [go_sem, hg, hgl, hlen, d1, d2, hset])
  refine VcLoop.intro (fun r : AE => ⟨88, [(29, .int .i64 x), (28, .int .i64 w), (7, .int .i64 y), (24, .int .i64 y), (23, .int .i64 h), (6, .int .i64 r.span), (5, .own 2), (3, .own 1), (1, .ptr 0 0)], [(0, .box 24 [.int .i64 w, .int .i64 h, .ro (.bools p)]), (1, .row 3 (.ints .i64 (natI r.tab))), (2, .row 5 (.ints .u8 (byteInts (beB (4 + r.sh) r.big))))], 3⟩) (fun r => r = M ∨ r = M.norm) (fun r => if r.span < 16777216 then 1 else 0) M ?_ (.inl rfl) fun r hr => ?_
  ·refine Ent.auto0 rfl ?_ ?_ <;> simp only [go_sem, Int.natCast_succ, hMs0, hMt, hMh, hMb0]
  by_cases hs2 : r.span < 16777216
  ·have hrM : r = M := hr.resolve_right fun e => by rw [e] at hs2; omega
   subst hrM
   have hnm : r.norm = ⟨r.big * 256, r.span * 256, r.sh + 1, r.tab⟩ := by unfold AE.norm; rw [if_pos hs2]
   have f5 : ((r.span : Int) < 16777216) = True := eq_true (by omega)
   have hol : (byteInts (beB (4 + r.sh) r.big)).length = 4 + r.sh := by rw [bytes_len, beB_len]
   have hss : (r.span : Int) * 256 = ((r.span * 256 : Nat) : Int) := by omega
   have hout2 : byteInts (beB (4 + r.sh) r.big) ++ [0] = byteInts (beB (4 + (r.sh + 1)) (r.big * 256)) := by
    rw [← Nat.add_assoc, beB_succ, bytes_app, Nat.mul_div_cancel _ (by decide)]
    congr 1
    have : UInt8.ofNat (r.big * 256) = 0 := UInt8.toNat_inj.1 (by simp)
    rw [this]; rfl
   (repeat' with_reducible first | intro _ | refine rz ?_ | refine ra ?_ ?_ | omega | simp (maxSteps := 9^7) only [go_sem, f5, hol, hss])
   refine ⟨r.norm, Ent.auto0 rfl ?_ ?_, .inr rfl, ?_⟩
   ·simp only [go_sem, Int.natCast_succ, hnm]
    all_goals first | rfl | omega
   ·simp only [go_sem, Int.natCast_succ, hnm, hout2]
   ·rw [if_pos hs2, if_neg (by omega)]; omega
  ·have hrn : r = M.norm := by
    rcases hr with e | e
    ·rw [e] at hs2 ⊢; unfold AE.norm; rw [if_neg hs2]
    ·exact e
   have f5 : ((r.span : Int) < 16777216) = False := eq_false (by omega)
   rw [← hrn] at hnext
   (repeat' with_reducible first | intro _ | refine rz ?_ | refine ra ?_ ?_ | omega | simp (maxSteps := 9^7) only [go_sem, f5])
   refine ⟨x + 1, Ent.auto0 rfl ?_ ?_, by omega, by omega⟩ <;> simp only [go_sem, Int.natCast_succ, hnext]
 | false =>
  rw [if_neg (by decide)] at hMs0 hMb0
  have d1 : (4096 - ((s.tab.getD c 0 : Nat) : Int)).tdiv 32 = (((4096 - s.tab.getD c 0) / 32 : Nat) : Int) := by rw [Int.tdiv_eq_ediv_of_nonneg (by omega)]; omega
  have d2 : ((s.tab.getD c 0 : Nat) : Int) + (((4096 - s.tab.getD c 0) / 32 : Nat) : Int) = ((lrn (s.tab.getD c 0) false : Nat) : Int) := by
   have : lrn (s.tab.getD c 0) false = s.tab.getD c 0 + (4096 - s.tab.getD c 0) / 32 := rfl
   omega
  (repeat' with_reducible first | intro _ | refine rz ?_ | refine ra ?_ ?_ | omega | simp (maxSteps := 9^7) only [go_sem])
  refine VcDraw.lex [12] [] (by kernel_rfl) (by kernel_rfl) ?_
  (repeat' with_reducible first | intro _ | refine rz ?_ | refine ra ?_ ?_ | omega | simp (maxSteps := 9^7) only [go_sem, hg, hgl, hlen, d1, d2, hset])
  refine VcLoop.intro (fun r : AE => ⟨88, [(29, .int .i64 x), (28, .int .i64 w), (7, .int .i64 y), (24, .int .i64 y), (23, .int .i64 h), (6, .int .i64 r.span), (5, .own 2), (3, .own 1), (1, .ptr 0 0)], [(0, .box 24 [.int .i64 w, .int .i64 h, .ro (.bools p)]), (1, .row 3 (.ints .i64 (natI r.tab))), (2, .row 5 (.ints .u8 (byteInts (beB (4 + r.sh) r.big))))], 3⟩) (fun r => r = M ∨ r = M.norm) (fun r => if r.span < 16777216 then 1 else 0) M ?_ (.inl rfl) fun r hr => ?_
  ·refine Ent.auto0 rfl ?_ ?_ <;> simp only [go_sem, Int.natCast_succ, hMs0, hMt, hMh, hMb0]
  by_cases hs2 : r.span < 16777216
  ·have hrM : r = M := hr.resolve_right fun e => by rw [e] at hs2; omega
   subst hrM
   have hnm : r.norm = ⟨r.big * 256, r.span * 256, r.sh + 1, r.tab⟩ := by unfold AE.norm; rw [if_pos hs2]
   have f5 : ((r.span : Int) < 16777216) = True := eq_true (by omega)
   have hol : (byteInts (beB (4 + r.sh) r.big)).length = 4 + r.sh := by rw [bytes_len, beB_len]
   have hss : (r.span : Int) * 256 = ((r.span * 256 : Nat) : Int) := by omega
   have hout2 : byteInts (beB (4 + r.sh) r.big) ++ [0] = byteInts (beB (4 + (r.sh + 1)) (r.big * 256)) := by
    rw [← Nat.add_assoc, beB_succ, bytes_app, Nat.mul_div_cancel _ (by decide)]
    congr 1
    have : UInt8.ofNat (r.big * 256) = 0 := UInt8.toNat_inj.1 (by simp)
    rw [this]; rfl
   (repeat' with_reducible first | intro _ | refine rz ?_ | refine ra ?_ ?_ | omega | simp (maxSteps := 9^7) only [go_sem, f5, hol, hss])
   refine ⟨r.norm, Ent.auto0 rfl ?_ ?_, .inr rfl, ?_⟩
   ·simp only [go_sem, Int.natCast_succ, hnm]
    all_goals first | rfl | omega
   ·simp only [go_sem, Int.natCast_succ, hnm, hout2]
   ·rw [if_pos hs2, if_neg (by omega)]; omega
  ·have hrn : r = M.norm := by
    rcases hr with e | e
    ·rw [e] at hs2 ⊢; unfold AE.norm; rw [if_neg hs2]
    ·exact e
   have f5 : ((r.span : Int) < 16777216) = False := eq_false (by omega)
   rw [← hrn] at hnext
   (repeat' with_reducible first | intro _ | refine rz ?_ | refine ra ?_ ?_ | omega | simp (maxSteps := 9^7) only [go_sem, f5])
   refine ⟨x + 1, Ent.auto0 rfl ?_ ?_, by omega, by omega⟩ <;> simp only [go_sem, Int.natCast_succ, hnext]
end Go.Fv.H
