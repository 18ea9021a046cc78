/-
  A part of the proof of the claim: walks over the program's functions and the plain laws that these need. No condition of its own.
-/
import Derived.Test.YtodlgmmbfbiilaaGreatDoorHChkCardPart8
import Derived.Test.YtodlgmmbfbiilaaGreatDoorHChkCardPart1
import Derived.Test.YtodlgmmbfbiilaaGreatDoorFvPart11
import Derived.Test.YtodlgmmbfbiilaaGreatDoorFvPart10
import Derived.Test.YtodlgmmbfbiilaaGreatDoorHChkCardPart7
import Derived.Test.YtodlgmmbfbiilaaGreatDoorHChkCardPart6
import Derived.Test.YtodlgmmbfbiilaaGreatDoorHChkCardPart5
import Derived.Test.YtodlgmmbfbiilaaGreatDoorHChkCardPart3
/- shrink.pageOf at runs: the walk. -/
namespace Go.Fv.H
open Go Go.Proofs
set_option linter.unusedSimpArgs false
set_option linter.unusedVariables false
set_option linter.unnecessarySimpa false
set_option maxRecDepth 8000
structure RnSt where
 (y : Nat) (s : Bytes) (acc : List Bool)
structure RnIn where
 (n : Nat) (ink : Bool) (s : Bytes) (acc : List Bool)
set_option maxHeartbeats 16000000 in
theorem pageOf2_ok (w h : Nat) (hw0 : 0 < w) (hw : w ≤ 4000) (hh : h ≤ 4000) (hwh : w * h ≤ 1048576) (d : Bytes) (hd : d.length ≤ 100000000) :
  FnOk Tryz.prog 68 [.str d, .int .i64 2, .int .i64 w, .int .i64 h] (.tup [.agg [.int .i64 w, .int .i64 h, .own 0], .bool (rnPage w h (upB d)).2]) [(0, .row 4 (.bools (rnPage w h (upB d)).1))] := by
 have k := unpacked_ok d (by omega)
 have hl := upB_len d
 generalize upB d = s at *
 obtain ⟨R, hR⟩ : ∃ R, rnPage w h s = R := ⟨_, rfl⟩
 rw [hR]
 refine FnOk.of_vc Tryz.func68 rfl (by decide) (by simp [Tryz.f68]) [.cell 8 24, .tmp 9] rfl fun w0 T0 _ => ?_
 simp only [Tryz.f68, argEnv]
 (repeat' with_reducible first | intro _ | refine rz ?_ | refine ra ?_ ?_ | omega | simp (maxSteps := 9^7) only [go_sem])
 refine VcCall.k k ?_
 (repeat' with_reducible first | intro _ | refine rz ?_ | refine ra ?_ ?_ | omega | simp (maxSteps := 9^7) only [go_sem])
 refine VcLoop.intro (fun x : RnSt => ⟨135, [(87, .int .i64 x.y), (86, .int .i64 h), (11, .str x.s), (10, .ptr 1 0), (8, .ptr 0 0), (2, .int .i64 w), (3, .int .i64 h)], [(0, .box 24 [.int .i64 0, .int .i64 0, .nilS]), (1, .box 24 [.int .i64 w, .int .i64 h, .own 2]), (2, .row 4 (.bools x.acc))], 3⟩) (fun x => x.y ≤ h ∧ x.s.length ≤ s.length ∧ x.acc.length = x.y * w ∧ R = (x.acc ++ (rnPage w (h - x.y) x.s).1, (rnPage w (h - x.y) x.s).2)) (fun x => h - x.y) ⟨0, s, []⟩ ?_ ⟨Nat.zero_le _, Nat.le_refl _, (Nat.zero_mul w).symm, hR.symm⟩ fun x hx => ?_
 ·refine Ent.trans (Ent.nilBox (P := Tryz.prog) 1 2 4 e4 rfl rfl) (Ent.auto0 rfl ?_ ?_) <;> simp only [go_sem, Int.natCast_succ, put]
 obtain ⟨y, t, acc⟩ := x
 obtain ⟨hy, ht, hacc, hRx⟩ := hx
 dsimp only at hy ht hacc hRx ⊢
 by_cases hlt : y < h
 rotate_left
 ·have f1 : ((y : Int) < (h : Int)) = False := eq_false (by omega)
  have e : y = h := by omega
  subst e
  rw [Nat.sub_self] at hRx
  have hR2 : R = (acc, true) := by rw [hRx]; show (acc ++ [], true) = _; rw [List.append_nil]
  rw [hR2]
  (repeat' with_reducible first | intro _ | refine rz ?_ | refine ra ?_ ?_ | omega | simp (maxSteps := 9^7) only [go_sem, f1])
  refine Ret.of [(0, 2)] 1 ?_ (by rfl) ?_ <;> simp only [go_sem, Int.natCast_succ, Post]
 have f1 : ((y : Int) < (h : Int)) = True := eq_true (by omega)
 have hk : h - y = (h - (y + 1)) + 1 := by omega
 rw [hk] at hRx
 have hRq : R = (acc ++ (rnCont (rnPage w (h - (y + 1))) (rnRow w 0 false t)).1, (rnCont (rnPage w (h - (y + 1))) (rnRow w 0 false t)).2) := hRx
 clear hRx
 obtain ⟨F, hF⟩ : ∃ F, rnPage w (h - (y + 1)) = F := ⟨_, rfl⟩
 rw [hF] at hRq
 have hyw : y * w + w ≤ 1048576 := by
  have h1 : y * w + w ≤ h * w := by rw [← Nat.succ_mul]; exact Nat.mul_le_mul_right _ hlt
  have h2 : h * w = w * h := Nat.mul_comm _ _
  omega
 generalize hyv : y * w = yw at *
 (repeat' with_reducible first | intro _ | refine rz ?_ | refine ra ?_ ?_ | omega | simp (maxSteps := 9^7) only [go_sem, f1])
 refine VcLoop.intro (fun x : RnIn => ⟨135, [(13, .int .i64 x.n), (14, .bool x.ink), (87, .int .i64 y), (86, .int .i64 h), (11, .str x.s), (10, .ptr 1 0), (8, .ptr 0 0), (2, .int .i64 w), (3, .int .i64 h)], [(0, .box 24 [.int .i64 0, .int .i64 0, .nilS]), (1, .box 24 [.int .i64 w, .int .i64 h, .own 2]), (2, .row 4 (.bools x.acc))], 3⟩) (fun x => x.n ≤ w ∧ x.s.length ≤ s.length ∧ x.acc.length = yw + x.n ∧ R = (x.acc ++ (rnCont F (rnRow w x.n x.ink x.s)).1, (rnCont F (rnRow w x.n x.ink x.s)).2)) (fun x => x.s.length) ⟨0, false, t, acc⟩ ?_ ⟨Nat.zero_le _, ht, by dsimp only; omega, hRq⟩ fun x hx => ?_
 ·refine Ent.auto0 rfl ?_ ?_ <;> simp only [go_sem, Int.natCast_succ]
  all_goals first | rfl | exact ⟨rfl, rfl⟩ | trace_state
 clear hRq
 obtain ⟨n, ink, u, ac⟩ := x
 obtain ⟨hn, hu, hac, hRu⟩ := hx
 dsimp only at hn hu hac hRu ⊢
 by_cases hnw : n < w
 rotate_left
 ·have f2 : ((n : Int) < (w : Int)) = False := eq_false (by omega)
  have e : n = w := by omega
  rw [rnRow_end hnw] at hRu
  have hR3 : R = (ac ++ (F u).1, (F u).2) := hRu
  (repeat' with_reducible first | intro _ | refine rz ?_ | refine ra ?_ ?_ | omega | simp (maxSteps := 9^7) only [go_sem, f2])
  refine ⟨⟨y + 1, u, ac⟩, Ent.auto0 rfl ?_ ?_, ⟨by dsimp only; omega, hu, by dsimp only; rw [Nat.succ_mul]; omega, by dsimp only; rw [hF]; exact hR3⟩, by dsimp only; omega⟩ <;> simp only [go_sem, Int.natCast_succ]
  all_goals first | rfl | omega | trace_state
 have f2 : ((n : Int) < (w : Int)) = True := eq_true (by omega)
 have hg : rdG (u.take 64) = rdG u := rdG_take u 64 (Nat.le_refl _)
 have g1 : rdN (u.take 64) = rdN u := by unfold rdN; rw [hg]
 have g2 : rdL (u.take 64) = rdL u := by unfold rdL; rw [hg]
 have g3 : rdE 8 (u.take 64) = rdE 8 u := by unfold rdE; rw [hg]
 have kg := readG_ok (u.take 64) (by rw [List.length_take]; omega)
 rw [g1, g2, g3] at kg
 have hm : min (u.length : Int) 64 = ((min u.length 64 : Nat) : Int) := by omega
 have htk : u.take (min u.length 64) = u.take 64 := by rw [List.take_eq_take_iff]; omega
 have hml : min u.length 64 ≤ u.length := by omega
 generalize min u.length 64 = mm at *
 cases hrd : rdG u with
 | none =>
  obtain ⟨r1, r2, r3⟩ := rdE_none hrd
  rw [r1, r2, r3] at kg
  rw [rnRow_none hnw ink hrd] at hRu
  have hR3 : R = (ac, false) := by rw [hRu]; show (ac ++ [], false) = _; rw [List.append_nil]
  rw [hR3]
  (repeat' with_reducible first | intro _ | refine rz ?_ | refine ra ?_ ?_ | omega | simp (maxSteps := 9^7) only [go_sem, f2, hm, Nat.sub_zero, htk])
  refine VcCall.k kg ?_
  (repeat' with_reducible first | intro _ | refine rz ?_ | refine ra ?_ ?_ | omega | simp (maxSteps := 9^7) only [go_sem])
  refine Ret.of [(0, 2)] 1 ?_ (by rfl) ?_ <;> simp only [go_sem, Int.natCast_succ, Post]
 | some z =>
  obtain ⟨m, l⟩ := z
  obtain ⟨r1, r2, r3⟩ := rdE_some hrd
  rw [r1, r2, r3] at kg
  obtain ⟨q1, q2⟩ := rdG_pos hrd
  obtain ⟨q3, q4, q5⟩ := rdG_len hrd
  have hmI : (m : Int) - 1 = ((m - 1 : Nat) : Int) := by omega
  by_cases hov : w - n < m - 1
  ·rw [rnRow_over hnw ink hrd hov] at hRu
   have hR3 : R = (ac, false) := by rw [hRu]; show (ac ++ [], false) = _; rw [List.append_nil]
   rw [hR3]
   have f3 : ((w : Int) - (n : Int) < ((m - 1 : Nat) : Int)) = True := eq_true (by omega)
   (repeat' with_reducible first | intro _ | refine rz ?_ | refine ra ?_ ?_ | omega | simp (maxSteps := 9^7) only [go_sem, f2, hm, Nat.sub_zero, htk])
   refine VcCall.k kg ?_
   (repeat' with_reducible first | intro _ | refine rz ?_ | refine ra ?_ ?_ | omega | simp (maxSteps := 9^7) only [go_sem, hmI, f3])
   refine Ret.of [(0, 2)] 1 ?_ (by rfl) ?_ <;> simp only [go_sem, Int.natCast_succ, Post]
  rw [rnRow_some hnw ink hrd hov] at hRu
  have hR3 : R = (ac ++ List.replicate (m - 1) ink ++ (rnCont F (rnRow w (n + (m - 1)) (!ink) (u.drop l))).1, (rnCont F (rnRow w (n + (m - 1)) (!ink) (u.drop l))).2) := by
   rw [hRu]
   generalize rnRow w (n + (m - 1)) (!ink) (u.drop l) = q
   obtain ⟨q1, q2⟩ := q
   cases q2 with
   | none => show (ac ++ (List.replicate (m - 1) ink ++ q1), false) = (ac ++ List.replicate (m - 1) ink ++ q1, false); rw [List.append_assoc]
   | some v => show (ac ++ (List.replicate (m - 1) ink ++ q1 ++ (F v).1), (F v).2) = (ac ++ List.replicate (m - 1) ink ++ (q1 ++ (F v).1), (F v).2); rw [List.append_assoc, List.append_assoc]
  have f3 : ((w : Int) - (n : Int) < ((m - 1 : Nat) : Int)) = False := eq_false (by omega)
  have htl : (u.drop l).take (u.length - l) = u.drop l := List.take_of_length_le (by rw [List.length_drop]; exact Nat.le_refl _)
  have hdl : (u.drop l).length = u.length - l := List.length_drop
  obtain ⟨u2, hu2⟩ : ∃ u2, u.drop l = u2 := ⟨_, rfl⟩
  rw [hu2] at hR3 hdl
  rw [hu2] at htl
  have htl2 : (u.drop l).take (u.length - l) = u2 := by rw [hu2]; exact htl
  (repeat' with_reducible first | intro _ | refine rz ?_ | refine ra ?_ ?_ | omega | simp (maxSteps := 9^7) only [go_sem, f2, hm, Nat.sub_zero, htk])
  refine VcCall.k kg ?_
  (repeat' with_reducible first | intro _ | refine rz ?_ | refine ra ?_ ?_ | omega | simp (maxSteps := 9^7) only [go_sem, hmI, f3, htl2])
  refine VcLoop.intro (fun j : Nat => ⟨135, [(118, .int .i64 j), (117, .int .i64 (m - 1 : Nat)), (15, .int .i64 m), (13, .int .i64 n), (14, .bool ink), (87, .int .i64 y), (86, .int .i64 h), (11, .str u2), (10, .ptr 1 0), (8, .ptr 0 0), (2, .int .i64 w), (3, .int .i64 h)], [(0, .box 24 [.int .i64 0, .int .i64 0, .nilS]), (1, .box 24 [.int .i64 w, .int .i64 h, .own 2]), (2, .row 4 (.bools (ac ++ List.replicate j ink)))], 3⟩) (fun j => j ≤ m - 1) (fun j => m - 1 - j) 0 ?_ (Nat.zero_le _) fun j hj => ?_
  ·refine Ent.auto0 rfl ?_ ?_ <;> simp only [go_sem, Int.natCast_succ]
   all_goals first | rfl | exact ⟨rfl, rfl⟩ | trace_state
  by_cases hjl : j < m - 1
  ·have f4 : ((j : Int) < ((m - 1 : Nat) : Int)) = True := eq_true (by omega)
   have hrs : ac ++ List.replicate j ink ++ [ink] = ac ++ List.replicate (j + 1) ink := by rw [List.append_assoc, List.replicate_succ']
   have hrl : (ac ++ List.replicate j ink).length = ac.length + j := by rw [List.length_append, List.length_replicate]
   (repeat' with_reducible first | intro _ | refine rz ?_ | refine ra ?_ ?_ | omega | simp (maxSteps := 9^7) only [go_sem, f4, hrl])
   refine ⟨j + 1, Ent.auto0 rfl ?_ ?_, by omega, by omega⟩ <;> simp only [go_sem, Int.natCast_succ, hrs]
   all_goals first | rfl | trace_state
  ·have f4 : ((j : Int) < ((m - 1 : Nat) : Int)) = False := eq_false (by omega)
   have e : j = m - 1 := by omega
   subst e
   have hnn : (n : Int) + ((m - 1 : Nat) : Int) = ((n + (m - 1) : Nat) : Int) := by omega
   (repeat' with_reducible first | intro _ | refine rz ?_ | refine ra ?_ ?_ | omega | simp (maxSteps := 9^7) only [go_sem, f4, hmI, hnn])
   refine ⟨⟨n + (m - 1), !ink, u2, ac ++ List.replicate (m - 1) ink⟩, Ent.auto0 rfl ?_ ?_, ⟨by dsimp only; omega, by dsimp only; omega, by dsimp only; rw [List.length_append, List.length_replicate]; omega, hR3⟩, by dsimp only; omega⟩ <;> simp only [go_sem, Int.natCast_succ]
   all_goals first | rfl | omega | exact ⟨rfl, rfl⟩ | trace_state
end Go.Fv.H
/- shrink.pageOf at lines: the walk. -/
namespace Go.Fv.H
open Go Go.Proofs
set_option linter.unusedSimpArgs false
set_option linter.unusedVariables false
set_option linter.unnecessarySimpa false
set_option maxRecDepth 8000
structure LnSt where
 (y : Nat) (ab : List Bool) (s : Bytes) (acc : List Bool)
theorem lnPage_none {k : Nat} {ab : List Bool} {s : Bytes} (h : rdLine true ab s = none) : lnPage (k + 1) ab s = ([], false) := by
 show (match rdLine true ab s with | none => _ | some (r, n) => _) = _
 rw [h]
theorem lnPage_some {k : Nat} {ab r : List Bool} {s : Bytes} {n : Nat} (h : rdLine true ab s = some (r, n)) : lnPage (k + 1) ab s = (r ++ (lnPage k r (s.drop n)).1, (lnPage k r (s.drop n)).2) := by
 show (match rdLine true ab s with | none => _ | some (r, n) => _) = _
 rw [h]
theorem rdLine_all {ab : List Bool} {s : Bytes} : rdLine true ab s = match rdAll true ab s with | none => none | some (l, n) => if lineB l ab = s.take n then some (l, n) else none := rfl
set_option maxHeartbeats 16000000 in
theorem pageOf3_ok (w h : Nat) (hw0 : 0 < w) (hw : w ≤ 4000) (hh : h ≤ 4000) (hwh : w * h ≤ 1048576) (d : Bytes) (hd : d.length ≤ 100000000) :
  FnOk Tryz.prog 68 [.str d, .int .i64 3, .int .i64 w, .int .i64 h] (.tup [.agg [.int .i64 w, .int .i64 h, .own 0], .bool (lnPage h (List.replicate w false) (upB d)).2]) [(0, .row 4 (.bools (lnPage h (List.replicate w false) (upB d)).1))] := by
 have k := unpacked_ok d (by omega)
 have hl := upB_len d
 generalize upB d = s at *
 obtain ⟨R, hR⟩ : ∃ R, lnPage h (List.replicate w false) s = R := ⟨_, rfl⟩
 rw [hR]
 refine FnOk.of_vc Tryz.func68 rfl (by decide) (by simp [Tryz.f68]) [.cell 8 24, .tmp 9] rfl fun w0 T0 _ => ?_
 simp only [Tryz.f68, argEnv]
 (repeat' with_reducible first | intro _ | refine rz ?_ | refine ra ?_ ?_ | omega | simp (maxSteps := 9^7) only [go_sem])
 refine VcCall.k k ?_
 (repeat' with_reducible first | intro _ | refine rz ?_ | refine ra ?_ ?_ | omega | simp (maxSteps := 9^7) only [go_sem])
 refine VcLoop.intro (fun x : LnSt => ⟨135, [(37, .int .i64 x.y), (36, .int .i64 h), (18, .own 2), (11, .str x.s), (10, .ptr 1 0), (8, .ptr 0 0), (2, .int .i64 w), (3, .int .i64 h)], [(0, .box 24 [.int .i64 0, .int .i64 0, .nilS]), (1, .box 24 [.int .i64 w, .int .i64 h, .own 3]), (2, .row 4 (.bools x.ab)), (3, .row 4 (.bools x.acc))], 4⟩) (fun x => x.y ≤ h ∧ x.s.length ≤ s.length ∧ x.ab.length = w ∧ x.acc.length = x.y * w ∧ R = (x.acc ++ (lnPage (h - x.y) x.ab x.s).1, (lnPage (h - x.y) x.ab x.s).2)) (fun x => h - x.y) ⟨0, List.replicate w false, s, []⟩ ?_ ⟨Nat.zero_le _, Nat.le_refl _, List.length_replicate, (Nat.zero_mul w).symm, hR.symm⟩ fun x hx => ?_
 ·refine Ent.trans (Ent.nilBox (P := Tryz.prog) 1 2 4 e4 rfl rfl) (Ent.auto0 rfl ?_ ?_) <;> simp only [go_sem, Int.natCast_succ, put]
  all_goals first | rfl | exact ⟨rfl, rfl⟩ | trace_state
 obtain ⟨y, ab, t, acc⟩ := x
 obtain ⟨hy, ht, hab, hacc, hRx⟩ := hx
 dsimp only at hy ht hab hacc hRx ⊢
 by_cases hlt : y < h
 rotate_left
 ·have f1 : ((y : Int) < (h : Int)) = False := eq_false (by omega)
  have e : y = h := by omega
  subst e
  rw [Nat.sub_self] at hRx
  have hR2 : R = (acc, true) := by rw [hRx]; show (acc ++ [], true) = _; rw [List.append_nil]
  rw [hR2]
  (repeat' with_reducible first | intro _ | refine rz ?_ | refine ra ?_ ?_ | omega | simp (maxSteps := 9^7) only [go_sem, f1])
  refine Ret.of [(0, 3)] 1 ?_ (by rfl) ?_ <;> simp only [go_sem, Int.natCast_succ, Post]
 have f1 : ((y : Int) < (h : Int)) = True := eq_true (by omega)
 have hk : h - y = (h - (y + 1)) + 1 := by omega
 rw [hk] at hRx
 have hyw : y * w + w ≤ 1048576 := by
  have h1 : y * w + w ≤ h * w := by rw [← Nat.succ_mul]; exact Nat.mul_le_mul_right _ hlt
  have h2 : h * w = w * h := Nat.mul_comm _ _
  omega
 have hyw1 : (y + 1) * w = y * w + w := Nat.succ_mul y w
 generalize hyv : y * w = yw at *
 have kr := readLine_ok t ab (by omega) (by omega)
 have hrl := @rdLine_all ab t
 cases hrd : rdAll true ab t with
 | none =>
  rw [hrd] at hrl kr
  rw [rlOut_none, rlRows_none] at kr
  rw [lnPage_none hrl] at hRx
  have hR3 : R = (acc, false) := by rw [hRx]; show (acc ++ [], false) = _; rw [List.append_nil]
  rw [hR3]
  (repeat' with_reducible first | intro _ | refine rz ?_ | refine ra ?_ ?_ | omega | simp (maxSteps := 9^7) only [go_sem, f1])
  refine VcCall.k kr ?_
  (repeat' with_reducible first | intro _ | refine rz ?_ | refine ra ?_ ?_ | omega | simp (maxSteps := 9^7) only [go_sem])
  refine Ret.of [(0, 3)] 1 ?_ (by rfl) ?_ <;> simp only [go_sem, Int.natCast_succ, Post]
 | some z =>
  obtain ⟨r, n⟩ := z
  rw [hrd] at hrl kr
  rw [rlOut_some, rlRows_some] at kr
  obtain ⟨hr1, hr2⟩ := rdAll_len hrd
  by_cases hcode : lineB r ab = t.take n
  ·have hrl2 : rdLine true ab t = some (r, n) := by rw [hrl]; exact if_pos hcode
   rw [decide_eq_true hcode] at kr
   rw [lnPage_some hrl2] at hRx
   have htl : (t.drop n).take (t.length - n) = t.drop n := List.take_of_length_le (by rw [List.length_drop]; exact Nat.le_refl _)
   have hdl : (t.drop n).length = t.length - n := List.length_drop
   have hR3 : R = (acc ++ r ++ (lnPage (h - (y + 1)) r (t.drop n)).1, (lnPage (h - (y + 1)) r (t.drop n)).2) := by rw [hRx, List.append_assoc]
   have hrw : r.length = w := by omega
   (repeat' with_reducible first | intro _ | refine rz ?_ | refine ra ?_ ?_ | omega | simp (maxSteps := 9^7) only [go_sem, f1])
   refine VcCall.o kr 1 ?_
   (repeat' with_reducible first | intro _ | refine rz ?_ | refine ra ?_ ?_ | omega | simp (maxSteps := 9^7) only [go_sem, htl])
   refine ⟨⟨y + 1, r, t.drop n, acc ++ r⟩, Ent.auto0 rfl ?_ ?_, ⟨by dsimp only; omega, by dsimp only; omega, hrw, by dsimp only; rw [List.length_append]; omega, hR3⟩, by dsimp only; omega⟩ <;> simp only [go_sem, Int.natCast_succ]
   all_goals first | rfl | omega | exact ⟨rfl, rfl⟩ | trace_state
  ·have hrl2 : rdLine true ab t = none := by rw [hrl]; exact if_neg hcode
   rw [decide_eq_false hcode] at kr
   rw [lnPage_none hrl2] at hRx
   have hR3 : R = (acc, false) := by rw [hRx]; show (acc ++ [], false) = _; rw [List.append_nil]
   rw [hR3]
   (repeat' with_reducible first | intro _ | refine rz ?_ | refine ra ?_ ?_ | omega | simp (maxSteps := 9^7) only [go_sem, f1])
   refine VcCall.o kr 1 ?_
   (repeat' with_reducible first | intro _ | refine rz ?_ | refine ra ?_ ?_ | omega | simp (maxSteps := 9^7) only [go_sem])
   refine Ret.of [(0, 3)] 1 ?_ (by rfl) ?_ <;> simp only [go_sem, Int.natCast_succ, Post]
end Go.Fv.H
/- A result that is owned becomes data; a nil slice in a result box becomes an owned row without elements. -/
namespace Go.Fv.H
open Go Go.Proofs
set_option linter.unusedVariables false
theorem FnFr.toRo {P : Program} {f : Nat} {args : List AV} {out out' : AV} {rows : List (Nat × Item)} (h : FnFr P f args out rows) (ho : outOk rows out out') : FnFr P f args out' [] :=
 ⟨h.1, fun w T vals hgl hv => (h.2 w T vals hgl hv).mono fun e w' ⟨v, he, hb, hq⟩ => ⟨v, he, hb, hq.ro ho⟩⟩
end Go.Fv.H
/- shrink.Decode: the walk. -/
namespace Go.Fv.H
open Go Go.Proofs
set_option linter.unusedSimpArgs false
set_option linter.unusedVariables false
set_option linter.unnecessarySimpa false
set_option maxRecDepth 8000
def dqA (q : DQ) : AV := .tup [.agg [.int .i64 q.w, .int .i64 q.h, .ro (.bools q.p)], .int .i64 q.e]
theorem pageOf_good (w h : Nat) (hw0 : 0 < w) (hw : w ≤ 4000) (hh : h ≤ 4000) (hwh : w * h ≤ 1048576) (d : Bytes) (hd : d.length ≤ 100000000) (kind : Int) (hk : 1 ≤ kind ∧ kind ≤ 4) (hq : (pgOf kind w h d).2 = true) :
  FnOk Tryz.prog 68 [.str d, .int .i64 kind, .int .i64 w, .int .i64 h] (.tup [.agg [.int .i64 w, .int .i64 h, .own 0], .bool true]) [(0, .row 4 (.bools (pgOf kind w h d).1))] := by
 have hc : kind = 4 ∨ kind = 1 ∨ kind = 2 ∨ kind = 3 := by omega
 rcases hc with rfl | rfl | rfl | rfl
 ·exact pageOf4_ok w h hw0 hw hh hwh d hd
 ·have e : pgOf 1 w h d = plPage (w * h) (upB d) := rfl
  rw [e] at hq ⊢
  unfold plPage at hq ⊢
  split at hq
  ·cases hq
  ·rename_i hs
   rw [if_neg hs]
   exact pageOf1_ok w h hw0 hw hh hwh d hd (by omega)
 ·have e : pgOf 2 w h d = rnPage w h (upB d) := rfl
  rw [e] at hq ⊢
  have k := pageOf2_ok w h hw0 hw hh hwh d hd
  rw [hq] at k
  exact k
 ·have e : pgOf 3 w h d = lnPage h (List.replicate w false) (upB d) := rfl
  rw [e] at hq ⊢
  have k := pageOf3_ok w h hw0 hw hh hwh d hd
  rw [hq] at k
  exact k
theorem pageOf_bad (w h : Nat) (hw0 : 0 < w) (hw : w ≤ 4000) (hh : h ≤ 4000) (hwh : w * h ≤ 1048576) (d : Bytes) (hd : d.length ≤ 100000000) (kind : Int) (hk : 1 ≤ kind ∧ kind ≤ 4) (hq : (pgOf kind w h d).2 = false) :
  FnFr Tryz.prog 68 [.str d, .int .i64 kind, .int .i64 w, .int .i64 h] (.tup [.agg [.int .i64 w, .int .i64 h, .ro (.bools (pgOf kind w h d).1)], .bool false]) [] := by
 have hc : kind = 4 ∨ kind = 1 ∨ kind = 2 ∨ kind = 3 := by omega
 rcases hc with rfl | rfl | rfl | rfl
 ·cases hq
 ·have e : pgOf 1 w h d = plPage (w * h) (upB d) := rfl
  rw [e] at hq ⊢
  unfold plPage at hq ⊢
  split at hq
  ·rename_i hs
   rw [if_pos hs]
   exact FnFr.toRo (FnFr.of_ok (pageOf1_no w h hw0 hw hh hwh d hd hs) rfl rfl) (by simp [outOk, argOkL, allOk, argOk, argOkN, lk, noIdR_ok, nilRow])
  ·cases hq
 ·have e : pgOf 2 w h d = rnPage w h (upB d) := rfl
  rw [e] at hq ⊢
  have k := pageOf2_ok w h hw0 hw hh hwh d hd
  rw [hq] at k
  exact FnFr.toRo (FnFr.of_ok k rfl rfl) (by simp [outOk, argOkL, allOk, argOk, argOkN, lk, noIdR_ok, nilRow])
 ·have e : pgOf 3 w h d = lnPage h (List.replicate w false) (upB d) := rfl
  rw [e] at hq ⊢
  have k := pageOf3_ok w h hw0 hw hh hwh d hd
  rw [hq] at k
  exact FnFr.toRo (FnFr.of_ok k rfl rfl) (by simp [outOk, argOkL, allOk, argOk, argOkN, lk, noIdR_ok, nilRow])
theorem dK_lt (s : Bytes) : dK s < 256 := by
 have h1 := numB_lt (s.take 1)
 have h2 : 256 ^ (s.take 1).length ≤ 256 ^ 1 := Nat.pow_le_pow_right (by decide) (by rw [List.length_take]; omega)
 unfold dK; omega
theorem dW_lt (s : Bytes) : dW s < 65536 := by
 have h1 := numB_lt ((s.drop 1).take 2)
 have h2 : 256 ^ ((s.drop 1).take 2).length ≤ 256 ^ 2 := Nat.pow_le_pow_right (by decide) (by rw [List.length_take]; omega)
 rw [show (256 : Nat) ^ 2 = 65536 from rfl] at h2
 unfold dW; omega
theorem dH_lt (s : Bytes) : dH s < 65536 := by
 have h1 := numB_lt ((s.drop 3).take 2)
 have h2 : 256 ^ ((s.drop 3).take 2).length ≤ 256 ^ 2 := Nat.pow_le_pow_right (by decide) (by rw [List.length_take]; omega)
 rw [show (256 : Nat) ^ 2 = 65536 from rfl] at h2
 unfold dH; omega
theorem dL_lt (s : Bytes) : dL s < 4294967296 := by
 have h1 := numB_lt ((s.drop 5).take 4)
 have h2 : 256 ^ ((s.drop 5).take 4).length ≤ 256 ^ 4 := Nat.pow_le_pow_right (by decide) (by rw [List.length_take]; omega)
 rw [show (256 : Nat) ^ 4 = 4294967296 from rfl] at h2
 unfold dL; omega
set_option maxHeartbeats 8000000 in
theorem decode_e1 (s : Bytes) (hs : s.length ≤ 200000000000000) (h1 : 2097152 < s.length) : FnOk Tryz.prog 15 [.str s] (.tup [.agg [.int .i64 0, .int .i64 0, .nilS], .int .i64 4]) [] := by
 refine FnOk.of_vc Tryz.func15 rfl (by decide) (by simp [Tryz.f15]) [.cell 2 24, .tmp 3] rfl fun w0 T0 _ => ?_
 simp only [Tryz.f15, argEnv]
 have f1 : ((2097152 : Int) < (s.length : Int)) = True := eq_true (by omega)
 (repeat' with_reducible first | intro _ | refine rz ?_ | refine ra ?_ ?_ | omega | simp (maxSteps := 9^7) only [go_sem, f1])
 refine Ret.auto 0 ?_ rfl ?_ <;> simp only [go_sem, Int.natCast_succ, Post]
set_option maxHeartbeats 8000000 in
theorem decode_e2 (s : Bytes) (h1 : s.length ≤ 2097152) (h2 : s.length < 17 ∨ s.length ≠ 17 + dL s) : FnOk Tryz.prog 15 [.str s] (.tup [.agg [.int .i64 0, .int .i64 0, .nilS], .int .i64 8]) [] := by
 refine FnOk.of_vc Tryz.func15 rfl (by decide) (by simp [Tryz.f15]) [.cell 2 24, .tmp 3] rfl fun w0 T0 _ => ?_
 simp only [Tryz.f15, argEnv]
 have f1 : ((2097152 : Int) < (s.length : Int)) = False := eq_false (by omega)
 by_cases h17 : s.length < 17
 ·have f2 : ((s.length : Int) < 17) = True := eq_true (by omega)
  (repeat' with_reducible first | intro _ | refine rz ?_ | refine ra ?_ ?_ | omega | simp (maxSteps := 9^7) only [go_sem, f1, f2])
  refine Ret.auto 0 ?_ rfl ?_ <;> simp only [go_sem, Int.natCast_succ, Post]
 ·have f2 : ((s.length : Int) < 17) = False := eq_false (by omega)
  have kb := bigAt_ok ((s.drop 5).take 4) (by rw [List.length_take]; omega)
  have hlt := dL_lt s
  have hdl : numB ((s.drop 5).take 4) = dL s := rfl
  rw [hdl] at kb
  have f3 : ((s.length : Int) = 9 + (dL s : Int) + 8) = False := eq_false (by omega)
  generalize dL s = L at *
  (repeat' with_reducible first | intro _ | refine rz ?_ | refine ra ?_ ?_ | omega | simp (maxSteps := 9^7) only [go_sem, f1, f2])
  refine VcCall.k kb ?_
  (repeat' with_reducible first | intro _ | refine rz ?_ | refine ra ?_ ?_ | omega | simp (maxSteps := 9^7) only [go_sem, f3])
  refine Ret.auto 0 ?_ rfl ?_ <;> simp only [go_sem, Int.natCast_succ, Post]
structure DCut (s : Bytes) : Prop where
 n17 : 17 ≤ s.length
 long : s.length = 17 + dL s
 most : s.length ≤ 2097152
theorem cut_all (s : Bytes) (h : 17 ≤ s.length) : (s.take (s.length - 8)).length = s.length - 8 := by rw [List.length_take]; omega
end Go.Fv.H
/- shrink.Decode: the walk behind the first parts. -/
namespace Go.Fv.H
open Go Go.Proofs
set_option linter.unusedSimpArgs false
set_option linter.unusedVariables false
set_option linter.unnecessarySimpa false
set_option maxRecDepth 8000
theorem dD_len (s : Bytes) (h : 17 ≤ s.length) : (dD s).length = s.length - 17 := by
 unfold dD; rw [List.length_take, List.length_drop]; omega
theorem dD_cut (s : Bytes) (h : 17 ≤ s.length) : ((s.take (s.length - 8)).drop 9).take (s.length - 8 - 9) = dD s := by
 unfold dD
 rw [List.drop_take, List.take_take, show s.length - 8 - 9 = s.length - 17 by omega, Nat.min_self]
set_option maxHeartbeats 8000000 in
theorem decode_e3 (s : Bytes) (c : DCut s) (h3 : sumB (s.take (s.length - 8)) ≠ s.drop (s.length - 8)) : FnOk Tryz.prog 15 [.str s] (.tup [.agg [.int .i64 0, .int .i64 0, .nilS], .int .i64 14]) [] := by
 obtain ⟨c1, c2, c3⟩ := c
 have f1 : ((2097152 : Int) < (s.length : Int)) = False := eq_false (by omega)
 have f2 : ((s.length : Int) < 17) = False := eq_false (by omega)
 have kb := bigAt_ok ((s.drop 5).take 4) (by rw [List.length_take]; omega)
 have kK := bigAt_ok (s.take 1) (by rw [List.length_take]; omega)
 have kW := bigAt_ok ((s.drop 1).take 2) (by rw [List.length_take]; omega)
 have kH := bigAt_ok ((s.drop 3).take 2) (by rw [List.length_take]; omega)
 rw [show numB (s.take 1) = dK s from rfl] at kK
 rw [show numB ((s.drop 1).take 2) = dW s from rfl] at kW
 rw [show numB ((s.drop 3).take 2) = dH s from rfl] at kH
 have hlt := dL_lt s
 rw [show numB ((s.drop 5).take 4) = dL s from rfl] at kb
 have f3 : ((s.length : Int) = 9 + (dL s : Int) + 8) = True := eq_true (by omega)
 have ks := sumOf_ok (s.take (s.length - 8)) (by rw [List.length_take]; omega)
 have hal := cut_all s c1
 have e8 : (s.length : Int) - 8 = ((s.length - 8 : Nat) : Int) := by omega
 have htd : (s.drop (s.length - 8)).take (s.length - (s.length - 8)) = s.drop (s.length - 8) := List.take_of_length_le (by rw [List.length_drop]; exact Nat.le_refl _)
 have hKl := dK_lt s
 have hWl := dW_lt s
 have hHl := dH_lt s
 have hDl := dD_len s c1
 have f4 : (sumB (s.take (s.length - 8)) = s.drop (s.length - 8)) = False := eq_false h3
 generalize dL s = L at *
 refine FnOk.of_vc Tryz.func15 rfl (by decide) (by simp [Tryz.f15]) [.cell 2 24, .tmp 3] rfl fun w0 T0 _ => ?_
 simp only [Tryz.f15, argEnv]
 (repeat' with_reducible first | intro _ | refine rz ?_ | refine ra ?_ ?_ | omega | simp (maxSteps := 9^7) only [go_sem, f1, f2])
 refine VcCall.k kb ?_
 (repeat' with_reducible first | intro _ | refine rz ?_ | refine ra ?_ ?_ | omega | simp (maxSteps := 9^7) only [go_sem, f3, e8])
 refine VcDraw.lex [] [] (by kernel_rfl) (by kernel_rfl) ?_
 (repeat' with_reducible first | intro _ | refine rz ?_ | refine ra ?_ ?_ | omega | simp (maxSteps := 9^7) only [go_sem])
 (refine QV.intro (.int .i64 (dK s)) ?_ ?_; focus ((repeat' with_reducible first | intro _ | refine rz ?_ | refine ra ?_ ?_ | omega | simp (maxSteps := 9^7) only [go_sem]); refine VcCall.k (kK) ?_; (repeat' with_reducible first | intro _ | refine rz ?_ | refine ra ?_ ?_ | omega | simp (maxSteps := 9^7) only [go_sem])))
 (repeat' with_reducible first | intro _ | refine rz ?_ | refine ra ?_ ?_ | omega | simp (maxSteps := 9^7) only [go_sem])
 (refine QV.intro (.int .i64 (dW s)) ?_ ?_; focus ((repeat' with_reducible first | intro _ | refine rz ?_ | refine ra ?_ ?_ | omega | simp (maxSteps := 9^7) only [go_sem]); refine VcCall.k (kW) ?_; (repeat' with_reducible first | intro _ | refine rz ?_ | refine ra ?_ ?_ | omega | simp (maxSteps := 9^7) only [go_sem])))
 (repeat' with_reducible first | intro _ | refine rz ?_ | refine ra ?_ ?_ | omega | simp (maxSteps := 9^7) only [go_sem])
 (refine QV.intro (.int .i64 (dH s)) ?_ ?_; focus ((repeat' with_reducible first | intro _ | refine rz ?_ | refine ra ?_ ?_ | omega | simp (maxSteps := 9^7) only [go_sem]); refine VcCall.k (kH) ?_; (repeat' with_reducible first | intro _ | refine rz ?_ | refine ra ?_ ?_ | omega | simp (maxSteps := 9^7) only [go_sem])))
 (repeat' with_reducible first | intro _ | refine rz ?_ | refine ra ?_ ?_ | omega | simp (maxSteps := 9^7) only [go_sem])
 refine VcDraw.lex [] [] (by kernel_rfl) (by kernel_rfl) ?_
 (repeat' with_reducible first | intro _ | refine rz ?_ | refine ra ?_ ?_ | omega | simp (maxSteps := 9^7) only [go_sem, Nat.sub_zero, hal])
 (refine QV.intro (.str (sumB (s.take (s.length - 8)))) ?_ ?_; focus ((repeat' with_reducible first | intro _ | refine rz ?_ | refine ra ?_ ?_ | omega | simp (maxSteps := 9^7) only [go_sem]); refine VcCall.k (ks) ?_; (repeat' with_reducible first | intro _ | refine rz ?_ | refine ra ?_ ?_ | omega | simp (maxSteps := 9^7) only [go_sem])))
 (repeat' with_reducible first | intro _ | refine rz ?_ | refine ra ?_ ?_ | omega | simp (maxSteps := 9^7) only [go_sem, Nat.sub_zero, hal, htd, f4])
 refine Ret.auto 0 ?_ rfl ?_ <;> simp only [go_sem, Int.natCast_succ, Post]
set_option maxHeartbeats 8000000 in
theorem decode_e4 (s : Bytes) (c : DCut s) (h3 : sumB (s.take (s.length - 8)) = s.drop (s.length - 8)) (h4 : ¬ (1 ≤ dK s ∧ dK s ≤ 4)) : FnOk Tryz.prog 15 [.str s] (.tup [.agg [.int .i64 0, .int .i64 0, .nilS], .int .i64 1]) [] := by
 obtain ⟨c1, c2, c3⟩ := c
 have f1 : ((2097152 : Int) < (s.length : Int)) = False := eq_false (by omega)
 have f2 : ((s.length : Int) < 17) = False := eq_false (by omega)
 have kb := bigAt_ok ((s.drop 5).take 4) (by rw [List.length_take]; omega)
 have kK := bigAt_ok (s.take 1) (by rw [List.length_take]; omega)
 have kW := bigAt_ok ((s.drop 1).take 2) (by rw [List.length_take]; omega)
 have kH := bigAt_ok ((s.drop 3).take 2) (by rw [List.length_take]; omega)
 rw [show numB (s.take 1) = dK s from rfl] at kK
 rw [show numB ((s.drop 1).take 2) = dW s from rfl] at kW
 rw [show numB ((s.drop 3).take 2) = dH s from rfl] at kH
 have hlt := dL_lt s
 rw [show numB ((s.drop 5).take 4) = dL s from rfl] at kb
 have f3 : ((s.length : Int) = 9 + (dL s : Int) + 8) = True := eq_true (by omega)
 have ks := sumOf_ok (s.take (s.length - 8)) (by rw [List.length_take]; omega)
 have hal := cut_all s c1
 have e8 : (s.length : Int) - 8 = ((s.length - 8 : Nat) : Int) := by omega
 have htd : (s.drop (s.length - 8)).take (s.length - (s.length - 8)) = s.drop (s.length - 8) := List.take_of_length_le (by rw [List.length_drop]; exact Nat.le_refl _)
 have hKl := dK_lt s
 have hWl := dW_lt s
 have hHl := dH_lt s
 have hDl := dD_len s c1
 have f4 : (sumB (s.take (s.length - 8)) = s.drop (s.length - 8)) = True := eq_true h3
 have kk := isKind_ok (dK s)
 rw [decide_eq_false (by omega)] at kk
 generalize dL s = L at *
 refine FnOk.of_vc Tryz.func15 rfl (by decide) (by simp [Tryz.f15]) [.cell 2 24, .tmp 3] rfl fun w0 T0 _ => ?_
 simp only [Tryz.f15, argEnv]
 (repeat' with_reducible first | intro _ | refine rz ?_ | refine ra ?_ ?_ | omega | simp (maxSteps := 9^7) only [go_sem, f1, f2])
 refine VcCall.k kb ?_
 (repeat' with_reducible first | intro _ | refine rz ?_ | refine ra ?_ ?_ | omega | simp (maxSteps := 9^7) only [go_sem, f3, e8])
 refine VcDraw.lex [] [] (by kernel_rfl) (by kernel_rfl) ?_
 (repeat' with_reducible first | intro _ | refine rz ?_ | refine ra ?_ ?_ | omega | simp (maxSteps := 9^7) only [go_sem])
 (refine QV.intro (.int .i64 (dK s)) ?_ ?_; focus ((repeat' with_reducible first | intro _ | refine rz ?_ | refine ra ?_ ?_ | omega | simp (maxSteps := 9^7) only [go_sem]); refine VcCall.k (kK) ?_; (repeat' with_reducible first | intro _ | refine rz ?_ | refine ra ?_ ?_ | omega | simp (maxSteps := 9^7) only [go_sem])))
 (repeat' with_reducible first | intro _ | refine rz ?_ | refine ra ?_ ?_ | omega | simp (maxSteps := 9^7) only [go_sem])
 (refine QV.intro (.int .i64 (dW s)) ?_ ?_; focus ((repeat' with_reducible first | intro _ | refine rz ?_ | refine ra ?_ ?_ | omega | simp (maxSteps := 9^7) only [go_sem]); refine VcCall.k (kW) ?_; (repeat' with_reducible first | intro _ | refine rz ?_ | refine ra ?_ ?_ | omega | simp (maxSteps := 9^7) only [go_sem])))
 (repeat' with_reducible first | intro _ | refine rz ?_ | refine ra ?_ ?_ | omega | simp (maxSteps := 9^7) only [go_sem])
 (refine QV.intro (.int .i64 (dH s)) ?_ ?_; focus ((repeat' with_reducible first | intro _ | refine rz ?_ | refine ra ?_ ?_ | omega | simp (maxSteps := 9^7) only [go_sem]); refine VcCall.k (kH) ?_; (repeat' with_reducible first | intro _ | refine rz ?_ | refine ra ?_ ?_ | omega | simp (maxSteps := 9^7) only [go_sem])))
 (repeat' with_reducible first | intro _ | refine rz ?_ | refine ra ?_ ?_ | omega | simp (maxSteps := 9^7) only [go_sem])
 refine VcDraw.lex [] [] (by kernel_rfl) (by kernel_rfl) ?_
 (repeat' with_reducible first | intro _ | refine rz ?_ | refine ra ?_ ?_ | omega | simp (maxSteps := 9^7) only [go_sem, Nat.sub_zero, hal])
 (refine QV.intro (.str (sumB (s.take (s.length - 8)))) ?_ ?_; focus ((repeat' with_reducible first | intro _ | refine rz ?_ | refine ra ?_ ?_ | omega | simp (maxSteps := 9^7) only [go_sem]); refine VcCall.k (ks) ?_; (repeat' with_reducible first | intro _ | refine rz ?_ | refine ra ?_ ?_ | omega | simp (maxSteps := 9^7) only [go_sem])))
 (repeat' with_reducible first | intro _ | refine rz ?_ | refine ra ?_ ?_ | omega | simp (maxSteps := 9^7) only [go_sem, Nat.sub_zero, hal, htd, f4])
 refine VcCall.k kk ?_
 (repeat' with_reducible first | intro _ | refine rz ?_ | refine ra ?_ ?_ | omega | simp (maxSteps := 9^7) only [go_sem])
 refine Ret.auto 0 ?_ rfl ?_ <;> simp only [go_sem, Int.natCast_succ, Post]
set_option maxHeartbeats 8000000 in
theorem decode_e5 (s : Bytes) (c : DCut s) (h3 : sumB (s.take (s.length - 8)) = s.drop (s.length - 8)) (h4 : 1 ≤ dK s ∧ dK s ≤ 4) (h5 : sizeErr (dW s) (dH s) ≠ 0) : FnOk Tryz.prog 15 [.str s] (.tup [.agg [.int .i64 0, .int .i64 0, .nilS], .int .i64 (sizeErr (dW s) (dH s))]) [] := by
 obtain ⟨c1, c2, c3⟩ := c
 have f1 : ((2097152 : Int) < (s.length : Int)) = False := eq_false (by omega)
 have f2 : ((s.length : Int) < 17) = False := eq_false (by omega)
 have kb := bigAt_ok ((s.drop 5).take 4) (by rw [List.length_take]; omega)
 have kK := bigAt_ok (s.take 1) (by rw [List.length_take]; omega)
 have kW := bigAt_ok ((s.drop 1).take 2) (by rw [List.length_take]; omega)
 have kH := bigAt_ok ((s.drop 3).take 2) (by rw [List.length_take]; omega)
 rw [show numB (s.take 1) = dK s from rfl] at kK
 rw [show numB ((s.drop 1).take 2) = dW s from rfl] at kW
 rw [show numB ((s.drop 3).take 2) = dH s from rfl] at kH
 have hlt := dL_lt s
 rw [show numB ((s.drop 5).take 4) = dL s from rfl] at kb
 have f3 : ((s.length : Int) = 9 + (dL s : Int) + 8) = True := eq_true (by omega)
 have ks := sumOf_ok (s.take (s.length - 8)) (by rw [List.length_take]; omega)
 have hal := cut_all s c1
 have e8 : (s.length : Int) - 8 = ((s.length - 8 : Nat) : Int) := by omega
 have htd : (s.drop (s.length - 8)).take (s.length - (s.length - 8)) = s.drop (s.length - 8) := List.take_of_length_le (by rw [List.length_drop]; exact Nat.le_refl _)
 have hKl := dK_lt s
 have hWl := dW_lt s
 have hHl := dH_lt s
 have hDl := dD_len s c1
 have f4 : (sumB (s.take (s.length - 8)) = s.drop (s.length - 8)) = True := eq_true h3
 have kk := isKind_ok (dK s)
 rw [decide_eq_true (by omega)] at kk
 have kz := checkSize_ok (dW s) (dH s)
 generalize sizeErr (dW s) (dH s) = z at *
 have f5 : (z = 0) = False := eq_false h5
 generalize dL s = L at *
 refine FnOk.of_vc Tryz.func15 rfl (by decide) (by simp [Tryz.f15]) [.cell 2 24, .tmp 3] rfl fun w0 T0 _ => ?_
 simp only [Tryz.f15, argEnv]
 (repeat' with_reducible first | intro _ | refine rz ?_ | refine ra ?_ ?_ | omega | simp (maxSteps := 9^7) only [go_sem, f1, f2])
 refine VcCall.k kb ?_
 (repeat' with_reducible first | intro _ | refine rz ?_ | refine ra ?_ ?_ | omega | simp (maxSteps := 9^7) only [go_sem, f3, e8])
 refine VcDraw.lex [] [] (by kernel_rfl) (by kernel_rfl) ?_
 (repeat' with_reducible first | intro _ | refine rz ?_ | refine ra ?_ ?_ | omega | simp (maxSteps := 9^7) only [go_sem])
 (refine QV.intro (.int .i64 (dK s)) ?_ ?_; focus ((repeat' with_reducible first | intro _ | refine rz ?_ | refine ra ?_ ?_ | omega | simp (maxSteps := 9^7) only [go_sem]); refine VcCall.k (kK) ?_; (repeat' with_reducible first | intro _ | refine rz ?_ | refine ra ?_ ?_ | omega | simp (maxSteps := 9^7) only [go_sem])))
 (repeat' with_reducible first | intro _ | refine rz ?_ | refine ra ?_ ?_ | omega | simp (maxSteps := 9^7) only [go_sem])
 (refine QV.intro (.int .i64 (dW s)) ?_ ?_; focus ((repeat' with_reducible first | intro _ | refine rz ?_ | refine ra ?_ ?_ | omega | simp (maxSteps := 9^7) only [go_sem]); refine VcCall.k (kW) ?_; (repeat' with_reducible first | intro _ | refine rz ?_ | refine ra ?_ ?_ | omega | simp (maxSteps := 9^7) only [go_sem])))
 (repeat' with_reducible first | intro _ | refine rz ?_ | refine ra ?_ ?_ | omega | simp (maxSteps := 9^7) only [go_sem])
 (refine QV.intro (.int .i64 (dH s)) ?_ ?_; focus ((repeat' with_reducible first | intro _ | refine rz ?_ | refine ra ?_ ?_ | omega | simp (maxSteps := 9^7) only [go_sem]); refine VcCall.k (kH) ?_; (repeat' with_reducible first | intro _ | refine rz ?_ | refine ra ?_ ?_ | omega | simp (maxSteps := 9^7) only [go_sem])))
 (repeat' with_reducible first | intro _ | refine rz ?_ | refine ra ?_ ?_ | omega | simp (maxSteps := 9^7) only [go_sem])
 refine VcDraw.lex [] [] (by kernel_rfl) (by kernel_rfl) ?_
 (repeat' with_reducible first | intro _ | refine rz ?_ | refine ra ?_ ?_ | omega | simp (maxSteps := 9^7) only [go_sem, Nat.sub_zero, hal])
 (refine QV.intro (.str (sumB (s.take (s.length - 8)))) ?_ ?_; focus ((repeat' with_reducible first | intro _ | refine rz ?_ | refine ra ?_ ?_ | omega | simp (maxSteps := 9^7) only [go_sem]); refine VcCall.k (ks) ?_; (repeat' with_reducible first | intro _ | refine rz ?_ | refine ra ?_ ?_ | omega | simp (maxSteps := 9^7) only [go_sem])))
 (repeat' with_reducible first | intro _ | refine rz ?_ | refine ra ?_ ?_ | omega | simp (maxSteps := 9^7) only [go_sem, Nat.sub_zero, hal, htd, f4])
 refine VcCall.k kk ?_
 (repeat' with_reducible first | intro _ | refine rz ?_ | refine ra ?_ ?_ | omega | simp (maxSteps := 9^7) only [go_sem])
 refine VcCall.k kz ?_
 (repeat' with_reducible first | intro _ | refine rz ?_ | refine ra ?_ ?_ | omega | simp (maxSteps := 9^7) only [go_sem, f5])
 refine Ret.auto 0 ?_ rfl ?_ <;> simp only [go_sem, Int.natCast_succ, Post]
set_option maxHeartbeats 8000000 in
theorem decode_e6 (s : Bytes) (c : DCut s) (h3 : sumB (s.take (s.length - 8)) = s.drop (s.length - 8)) (h4 : 1 ≤ dK s ∧ dK s ≤ 4) (h5 : sizeErr (dW s) (dH s) = 0) (h6 : (dPg s).2 = false) : FnOk Tryz.prog 15 [.str s] (.tup [.agg [.int .i64 0, .int .i64 0, .nilS], .int .i64 8]) [] := by
 obtain ⟨c1, c2, c3⟩ := c
 have f1 : ((2097152 : Int) < (s.length : Int)) = False := eq_false (by omega)
 have f2 : ((s.length : Int) < 17) = False := eq_false (by omega)
 have kb := bigAt_ok ((s.drop 5).take 4) (by rw [List.length_take]; omega)
 have kK := bigAt_ok (s.take 1) (by rw [List.length_take]; omega)
 have kW := bigAt_ok ((s.drop 1).take 2) (by rw [List.length_take]; omega)
 have kH := bigAt_ok ((s.drop 3).take 2) (by rw [List.length_take]; omega)
 rw [show numB (s.take 1) = dK s from rfl] at kK
 rw [show numB ((s.drop 1).take 2) = dW s from rfl] at kW
 rw [show numB ((s.drop 3).take 2) = dH s from rfl] at kH
 have hlt := dL_lt s
 rw [show numB ((s.drop 5).take 4) = dL s from rfl] at kb
 have f3 : ((s.length : Int) = 9 + (dL s : Int) + 8) = True := eq_true (by omega)
 have ks := sumOf_ok (s.take (s.length - 8)) (by rw [List.length_take]; omega)
 have hal := cut_all s c1
 have e8 : (s.length : Int) - 8 = ((s.length - 8 : Nat) : Int) := by omega
 have htd : (s.drop (s.length - 8)).take (s.length - (s.length - 8)) = s.drop (s.length - 8) := List.take_of_length_le (by rw [List.length_drop]; exact Nat.le_refl _)
 have hKl := dK_lt s
 have hWl := dW_lt s
 have hHl := dH_lt s
 have hDl := dD_len s c1
 have f4 : (sumB (s.take (s.length - 8)) = s.drop (s.length - 8)) = True := eq_true h3
 have kk := isKind_ok (dK s)
 rw [decide_eq_true (by omega)] at kk
 have kz := checkSize_ok (dW s) (dH s)
 have hz := sizeErr_zero h5
 have hwh : ((dW s : Int) * (dH s : Int)) = ((dW s * dH s : Nat) : Int) := (Int.natCast_mul _ _).symm
 rw [hwh] at hz
 rw [h5] at kz
 have kp := pageOf_bad (dW s) (dH s) (by omega) (by omega) (by omega) (by omega) (dD s) (by omega) (dK s) (by omega) h6
 have hcut := dD_cut s c1
 have hp : pgOf (dK s) (dW s) (dH s) (dD s) = dPg s := rfl
 rw [hp] at kp
 generalize dPg s = q at *
 generalize dD s = d at *
 generalize dL s = L at *
 refine FnOk.of_vc Tryz.func15 rfl (by decide) (by simp [Tryz.f15]) [.cell 2 24, .tmp 3] rfl fun w0 T0 _ => ?_
 simp only [Tryz.f15, argEnv]
 (repeat' with_reducible first | intro _ | refine rz ?_ | refine ra ?_ ?_ | omega | simp (maxSteps := 9^7) only [go_sem, f1, f2])
 refine VcCall.k kb ?_
 (repeat' with_reducible first | intro _ | refine rz ?_ | refine ra ?_ ?_ | omega | simp (maxSteps := 9^7) only [go_sem, f3, e8])
 refine VcDraw.lex [] [] (by kernel_rfl) (by kernel_rfl) ?_
 (repeat' with_reducible first | intro _ | refine rz ?_ | refine ra ?_ ?_ | omega | simp (maxSteps := 9^7) only [go_sem])
 (refine QV.intro (.int .i64 (dK s)) ?_ ?_; focus ((repeat' with_reducible first | intro _ | refine rz ?_ | refine ra ?_ ?_ | omega | simp (maxSteps := 9^7) only [go_sem]); refine VcCall.k (kK) ?_; (repeat' with_reducible first | intro _ | refine rz ?_ | refine ra ?_ ?_ | omega | simp (maxSteps := 9^7) only [go_sem])))
 (repeat' with_reducible first | intro _ | refine rz ?_ | refine ra ?_ ?_ | omega | simp (maxSteps := 9^7) only [go_sem])
 (refine QV.intro (.int .i64 (dW s)) ?_ ?_; focus ((repeat' with_reducible first | intro _ | refine rz ?_ | refine ra ?_ ?_ | omega | simp (maxSteps := 9^7) only [go_sem]); refine VcCall.k (kW) ?_; (repeat' with_reducible first | intro _ | refine rz ?_ | refine ra ?_ ?_ | omega | simp (maxSteps := 9^7) only [go_sem])))
 (repeat' with_reducible first | intro _ | refine rz ?_ | refine ra ?_ ?_ | omega | simp (maxSteps := 9^7) only [go_sem])
 (refine QV.intro (.int .i64 (dH s)) ?_ ?_; focus ((repeat' with_reducible first | intro _ | refine rz ?_ | refine ra ?_ ?_ | omega | simp (maxSteps := 9^7) only [go_sem]); refine VcCall.k (kH) ?_; (repeat' with_reducible first | intro _ | refine rz ?_ | refine ra ?_ ?_ | omega | simp (maxSteps := 9^7) only [go_sem])))
 (repeat' with_reducible first | intro _ | refine rz ?_ | refine ra ?_ ?_ | omega | simp (maxSteps := 9^7) only [go_sem])
 refine VcDraw.lex [] [] (by kernel_rfl) (by kernel_rfl) ?_
 (repeat' with_reducible first | intro _ | refine rz ?_ | refine ra ?_ ?_ | omega | simp (maxSteps := 9^7) only [go_sem, Nat.sub_zero, hal])
 (refine QV.intro (.str (sumB (s.take (s.length - 8)))) ?_ ?_; focus ((repeat' with_reducible first | intro _ | refine rz ?_ | refine ra ?_ ?_ | omega | simp (maxSteps := 9^7) only [go_sem]); refine VcCall.k (ks) ?_; (repeat' with_reducible first | intro _ | refine rz ?_ | refine ra ?_ ?_ | omega | simp (maxSteps := 9^7) only [go_sem])))
 (repeat' with_reducible first | intro _ | refine rz ?_ | refine ra ?_ ?_ | omega | simp (maxSteps := 9^7) only [go_sem, Nat.sub_zero, hal, htd, f4])
 refine VcCall.k kk ?_
 (repeat' with_reducible first | intro _ | refine rz ?_ | refine ra ?_ ?_ | omega | simp (maxSteps := 9^7) only [go_sem])
 refine VcCall.k kz ?_
 (repeat' with_reducible first | intro _ | refine rz ?_ | refine ra ?_ ?_ | omega | simp (maxSteps := 9^7) only [go_sem, hal, hcut])
 refine VcCall.f kp 0 ?_
 (repeat' with_reducible first | intro _ | refine rz ?_ | refine ra ?_ ?_ | omega | simp (maxSteps := 9^7) only [go_sem])
 refine Ret.auto 0 ?_ rfl ?_ <;> simp only [go_sem, Int.natCast_succ, Post]
set_option maxHeartbeats 8000000 in
theorem decode_e7 (s : Bytes) (c : DCut s) (h3 : sumB (s.take (s.length - 8)) = s.drop (s.length - 8)) (h4 : 1 ≤ dK s ∧ dK s ≤ 4) (h5 : sizeErr (dW s) (dH s) = 0) (h6 : (dPg s).2 = true) (h7 : ¬ encB (dW s) (dH s) (dPg s).1 (dK s) = s) : FnOk Tryz.prog 15 [.str s] (.tup [.agg [.int .i64 0, .int .i64 0, .nilS], .int .i64 8]) [] := by
 obtain ⟨c1, c2, c3⟩ := c
 have f1 : ((2097152 : Int) < (s.length : Int)) = False := eq_false (by omega)
 have f2 : ((s.length : Int) < 17) = False := eq_false (by omega)
 have kb := bigAt_ok ((s.drop 5).take 4) (by rw [List.length_take]; omega)
 have kK := bigAt_ok (s.take 1) (by rw [List.length_take]; omega)
 have kW := bigAt_ok ((s.drop 1).take 2) (by rw [List.length_take]; omega)
 have kH := bigAt_ok ((s.drop 3).take 2) (by rw [List.length_take]; omega)
 rw [show numB (s.take 1) = dK s from rfl] at kK
 rw [show numB ((s.drop 1).take 2) = dW s from rfl] at kW
 rw [show numB ((s.drop 3).take 2) = dH s from rfl] at kH
 have hlt := dL_lt s
 rw [show numB ((s.drop 5).take 4) = dL s from rfl] at kb
 have f3 : ((s.length : Int) = 9 + (dL s : Int) + 8) = True := eq_true (by omega)
 have ks := sumOf_ok (s.take (s.length - 8)) (by rw [List.length_take]; omega)
 have hal := cut_all s c1
 have e8 : (s.length : Int) - 8 = ((s.length - 8 : Nat) : Int) := by omega
 have htd : (s.drop (s.length - 8)).take (s.length - (s.length - 8)) = s.drop (s.length - 8) := List.take_of_length_le (by rw [List.length_drop]; exact Nat.le_refl _)
 have hKl := dK_lt s
 have hWl := dW_lt s
 have hHl := dH_lt s
 have hDl := dD_len s c1
 have f4 : (sumB (s.take (s.length - 8)) = s.drop (s.length - 8)) = True := eq_true h3
 have kk := isKind_ok (dK s)
 rw [decide_eq_true (by omega)] at kk
 have kz := checkSize_ok (dW s) (dH s)
 have hz := sizeErr_zero h5
 have hwh : ((dW s : Int) * (dH s : Int)) = ((dW s * dH s : Nat) : Int) := (Int.natCast_mul _ _).symm
 rw [hwh] at hz
 rw [h5] at kz
 have kp := pageOf_good (dW s) (dH s) (by omega) (by omega) (by omega) (by omega) (dD s) (by omega) (dK s) (by omega) h6
 have hcut := dD_cut s c1
 have hp : pgOf (dK s) (dW s) (dH s) (dD s) = dPg s := rfl
 rw [hp] at kp
 have hpl : (dPg s).1.length = dW s * dH s := pgOf_len h6
 have ke := encode_ok (dW s) (dH s) (by omega) (by omega) (by omega) (by omega) (dPg s).1 hpl (dK s) (by omega)
 have f9 : (encB (dW s) (dH s) (dPg s).1 (dK s) = s) = False := eq_false h7
 generalize encB (dW s) (dH s) (dPg s).1 (dK s) = E at *
 generalize dPg s = q at *
 generalize dD s = d at *
 generalize dL s = L at *
 refine FnOk.of_vc Tryz.func15 rfl (by decide) (by simp [Tryz.f15]) [.cell 2 24, .tmp 3] rfl fun w0 T0 _ => ?_
 simp only [Tryz.f15, argEnv]
 (repeat' with_reducible first | intro _ | refine rz ?_ | refine ra ?_ ?_ | omega | simp (maxSteps := 9^7) only [go_sem, f1, f2])
 refine VcCall.k kb ?_
 (repeat' with_reducible first | intro _ | refine rz ?_ | refine ra ?_ ?_ | omega | simp (maxSteps := 9^7) only [go_sem, f3, e8])
 refine VcDraw.lex [] [] (by kernel_rfl) (by kernel_rfl) ?_
 (repeat' with_reducible first | intro _ | refine rz ?_ | refine ra ?_ ?_ | omega | simp (maxSteps := 9^7) only [go_sem])
 (refine QV.intro (.int .i64 (dK s)) ?_ ?_; focus ((repeat' with_reducible first | intro _ | refine rz ?_ | refine ra ?_ ?_ | omega | simp (maxSteps := 9^7) only [go_sem]); refine VcCall.k (kK) ?_; (repeat' with_reducible first | intro _ | refine rz ?_ | refine ra ?_ ?_ | omega | simp (maxSteps := 9^7) only [go_sem])))
 (repeat' with_reducible first | intro _ | refine rz ?_ | refine ra ?_ ?_ | omega | simp (maxSteps := 9^7) only [go_sem])
 (refine QV.intro (.int .i64 (dW s)) ?_ ?_; focus ((repeat' with_reducible first | intro _ | refine rz ?_ | refine ra ?_ ?_ | omega | simp (maxSteps := 9^7) only [go_sem]); refine VcCall.k (kW) ?_; (repeat' with_reducible first | intro _ | refine rz ?_ | refine ra ?_ ?_ | omega | simp (maxSteps := 9^7) only [go_sem])))
 (repeat' with_reducible first | intro _ | refine rz ?_ | refine ra ?_ ?_ | omega | simp (maxSteps := 9^7) only [go_sem])
 (refine QV.intro (.int .i64 (dH s)) ?_ ?_; focus ((repeat' with_reducible first | intro _ | refine rz ?_ | refine ra ?_ ?_ | omega | simp (maxSteps := 9^7) only [go_sem]); refine VcCall.k (kH) ?_; (repeat' with_reducible first | intro _ | refine rz ?_ | refine ra ?_ ?_ | omega | simp (maxSteps := 9^7) only [go_sem])))
 (repeat' with_reducible first | intro _ | refine rz ?_ | refine ra ?_ ?_ | omega | simp (maxSteps := 9^7) only [go_sem])
 refine VcDraw.lex [] [] (by kernel_rfl) (by kernel_rfl) ?_
 (repeat' with_reducible first | intro _ | refine rz ?_ | refine ra ?_ ?_ | omega | simp (maxSteps := 9^7) only [go_sem, Nat.sub_zero, hal])
 (refine QV.intro (.str (sumB (s.take (s.length - 8)))) ?_ ?_; focus ((repeat' with_reducible first | intro _ | refine rz ?_ | refine ra ?_ ?_ | omega | simp (maxSteps := 9^7) only [go_sem]); refine VcCall.k (ks) ?_; (repeat' with_reducible first | intro _ | refine rz ?_ | refine ra ?_ ?_ | omega | simp (maxSteps := 9^7) only [go_sem])))
 (repeat' with_reducible first | intro _ | refine rz ?_ | refine ra ?_ ?_ | omega | simp (maxSteps := 9^7) only [go_sem, Nat.sub_zero, hal, htd, f4])
 refine VcCall.k kk ?_
 (repeat' with_reducible first | intro _ | refine rz ?_ | refine ra ?_ ?_ | omega | simp (maxSteps := 9^7) only [go_sem])
 refine VcCall.k kz ?_
 (repeat' with_reducible first | intro _ | refine rz ?_ | refine ra ?_ ?_ | omega | simp (maxSteps := 9^7) only [go_sem, hal, hcut])
 refine VcCall.o kp 1 ?_
 (repeat' with_reducible first | intro _ | refine rz ?_ | refine ra ?_ ?_ | omega | simp (maxSteps := 9^7) only [go_sem])
 refine VcCall.k ke ?_
 (repeat' with_reducible first | intro _ | refine rz ?_ | refine ra ?_ ?_ | omega | simp (maxSteps := 9^7) only [go_sem, f9])
 refine Ret.auto 0 ?_ rfl ?_ <;> simp only [go_sem, Int.natCast_succ, Post]
set_option maxHeartbeats 8000000 in
theorem decode_ok (s : Bytes) (c : DCut s) (h3 : sumB (s.take (s.length - 8)) = s.drop (s.length - 8)) (h4 : 1 ≤ dK s ∧ dK s ≤ 4) (h5 : sizeErr (dW s) (dH s) = 0) (h6 : (dPg s).2 = true) (h7 : encB (dW s) (dH s) (dPg s).1 (dK s) = s) : FnOk Tryz.prog 15 [.str s] (.tup [.agg [.int .i64 (dW s), .int .i64 (dH s), .own 0], .int .i64 0]) [(0, .row 4 (.bools (dPg s).1))] := by
 obtain ⟨c1, c2, c3⟩ := c
 have f1 : ((2097152 : Int) < (s.length : Int)) = False := eq_false (by omega)
 have f2 : ((s.length : Int) < 17) = False := eq_false (by omega)
 have kb := bigAt_ok ((s.drop 5).take 4) (by rw [List.length_take]; omega)
 have kK := bigAt_ok (s.take 1) (by rw [List.length_take]; omega)
 have kW := bigAt_ok ((s.drop 1).take 2) (by rw [List.length_take]; omega)
 have kH := bigAt_ok ((s.drop 3).take 2) (by rw [List.length_take]; omega)
 rw [show numB (s.take 1) = dK s from rfl] at kK
 rw [show numB ((s.drop 1).take 2) = dW s from rfl] at kW
 rw [show numB ((s.drop 3).take 2) = dH s from rfl] at kH
 have hlt := dL_lt s
 rw [show numB ((s.drop 5).take 4) = dL s from rfl] at kb
 have f3 : ((s.length : Int) = 9 + (dL s : Int) + 8) = True := eq_true (by omega)
 have ks := sumOf_ok (s.take (s.length - 8)) (by rw [List.length_take]; omega)
 have hal := cut_all s c1
 have e8 : (s.length : Int) - 8 = ((s.length - 8 : Nat) : Int) := by omega
 have htd : (s.drop (s.length - 8)).take (s.length - (s.length - 8)) = s.drop (s.length - 8) := List.take_of_length_le (by rw [List.length_drop]; exact Nat.le_refl _)
 have hKl := dK_lt s
 have hWl := dW_lt s
 have hHl := dH_lt s
 have hDl := dD_len s c1
 have f4 : (sumB (s.take (s.length - 8)) = s.drop (s.length - 8)) = True := eq_true h3
 have kk := isKind_ok (dK s)
 rw [decide_eq_true (by omega)] at kk
 have kz := checkSize_ok (dW s) (dH s)
 have hz := sizeErr_zero h5
 have hwh : ((dW s : Int) * (dH s : Int)) = ((dW s * dH s : Nat) : Int) := (Int.natCast_mul _ _).symm
 rw [hwh] at hz
 rw [h5] at kz
 have kp := pageOf_good (dW s) (dH s) (by omega) (by omega) (by omega) (by omega) (dD s) (by omega) (dK s) (by omega) h6
 have hcut := dD_cut s c1
 have hp : pgOf (dK s) (dW s) (dH s) (dD s) = dPg s := rfl
 rw [hp] at kp
 have hpl : (dPg s).1.length = dW s * dH s := pgOf_len h6
 have ke := encode_ok (dW s) (dH s) (by omega) (by omega) (by omega) (by omega) (dPg s).1 hpl (dK s) (by omega)
 have f9 : (encB (dW s) (dH s) (dPg s).1 (dK s) = s) = True := eq_true h7
 generalize encB (dW s) (dH s) (dPg s).1 (dK s) = E at *
 generalize dPg s = q at *
 generalize dD s = d at *
 generalize dL s = L at *
 refine FnOk.of_vc Tryz.func15 rfl (by decide) (by simp [Tryz.f15]) [.cell 2 24, .tmp 3] rfl fun w0 T0 _ => ?_
 simp only [Tryz.f15, argEnv]
 (repeat' with_reducible first | intro _ | refine rz ?_ | refine ra ?_ ?_ | omega | simp (maxSteps := 9^7) only [go_sem, f1, f2])
 refine VcCall.k kb ?_
 (repeat' with_reducible first | intro _ | refine rz ?_ | refine ra ?_ ?_ | omega | simp (maxSteps := 9^7) only [go_sem, f3, e8])
 refine VcDraw.lex [] [] (by kernel_rfl) (by kernel_rfl) ?_
 (repeat' with_reducible first | intro _ | refine rz ?_ | refine ra ?_ ?_ | omega | simp (maxSteps := 9^7) only [go_sem])
 (refine QV.intro (.int .i64 (dK s)) ?_ ?_; focus ((repeat' with_reducible first | intro _ | refine rz ?_ | refine ra ?_ ?_ | omega | simp (maxSteps := 9^7) only [go_sem]); refine VcCall.k (kK) ?_; (repeat' with_reducible first | intro _ | refine rz ?_ | refine ra ?_ ?_ | omega | simp (maxSteps := 9^7) only [go_sem])))
 (repeat' with_reducible first | intro _ | refine rz ?_ | refine ra ?_ ?_ | omega | simp (maxSteps := 9^7) only [go_sem])
 (refine QV.intro (.int .i64 (dW s)) ?_ ?_; focus ((repeat' with_reducible first | intro _ | refine rz ?_ | refine ra ?_ ?_ | omega | simp (maxSteps := 9^7) only [go_sem]); refine VcCall.k (kW) ?_; (repeat' with_reducible first | intro _ | refine rz ?_ | refine ra ?_ ?_ | omega | simp (maxSteps := 9^7) only [go_sem])))
 (repeat' with_reducible first | intro _ | refine rz ?_ | refine ra ?_ ?_ | omega | simp (maxSteps := 9^7) only [go_sem])
 (refine QV.intro (.int .i64 (dH s)) ?_ ?_; focus ((repeat' with_reducible first | intro _ | refine rz ?_ | refine ra ?_ ?_ | omega | simp (maxSteps := 9^7) only [go_sem]); refine VcCall.k (kH) ?_; (repeat' with_reducible first | intro _ | refine rz ?_ | refine ra ?_ ?_ | omega | simp (maxSteps := 9^7) only [go_sem])))
 (repeat' with_reducible first | intro _ | refine rz ?_ | refine ra ?_ ?_ | omega | simp (maxSteps := 9^7) only [go_sem])
 refine VcDraw.lex [] [] (by kernel_rfl) (by kernel_rfl) ?_
 (repeat' with_reducible first | intro _ | refine rz ?_ | refine ra ?_ ?_ | omega | simp (maxSteps := 9^7) only [go_sem, Nat.sub_zero, hal])
 (refine QV.intro (.str (sumB (s.take (s.length - 8)))) ?_ ?_; focus ((repeat' with_reducible first | intro _ | refine rz ?_ | refine ra ?_ ?_ | omega | simp (maxSteps := 9^7) only [go_sem]); refine VcCall.k (ks) ?_; (repeat' with_reducible first | intro _ | refine rz ?_ | refine ra ?_ ?_ | omega | simp (maxSteps := 9^7) only [go_sem])))
 (repeat' with_reducible first | intro _ | refine rz ?_ | refine ra ?_ ?_ | omega | simp (maxSteps := 9^7) only [go_sem, Nat.sub_zero, hal, htd, f4])
 refine VcCall.k kk ?_
 (repeat' with_reducible first | intro _ | refine rz ?_ | refine ra ?_ ?_ | omega | simp (maxSteps := 9^7) only [go_sem])
 refine VcCall.k kz ?_
 (repeat' with_reducible first | intro _ | refine rz ?_ | refine ra ?_ ?_ | omega | simp (maxSteps := 9^7) only [go_sem, hal, hcut])
 refine VcCall.o kp 1 ?_
 (repeat' with_reducible first | intro _ | refine rz ?_ | refine ra ?_ ?_ | omega | simp (maxSteps := 9^7) only [go_sem])
 refine VcCall.k ke ?_
 (repeat' with_reducible first | intro _ | refine rz ?_ | refine ra ?_ ?_ | omega | simp (maxSteps := 9^7) only [go_sem, f9])
 refine Ret.auto 1 ?_ rfl ?_ <;> simp only [go_sem, Int.natCast_succ, Post]
theorem decode_fr (s : Bytes) (hs : s.length ≤ 200000000000000) : FnFr Tryz.prog 15 [.str s] (dqA (decR s)) [] := by
 unfold decR
 have no : ∀ e, FnOk Tryz.prog 15 [.str s] (.tup [.agg [.int .i64 0, .int .i64 0, .nilS], .int .i64 e]) [] → FnFr Tryz.prog 15 [.str s] (dqA (dNo e)) [] := fun e k =>
  FnFr.toRo (FnFr.of_ok k rfl rfl) (by simp [dqA, dNo, outOk, argOkL, allOk, argOk, argOkN, lk, noIdR_ok, nilRow])
 by_cases h1 : 2097152 < s.length
 ·rw [if_pos h1]; exact no _ (decode_e1 s hs h1)
 rw [if_neg h1]
 by_cases h2 : s.length < 17 ∨ s.length ≠ 17 + dL s
 ·rw [if_pos h2]; exact no _ (decode_e2 s (by omega) h2)
 rw [if_neg h2]
 have c : DCut s := ⟨by omega, by omega, by omega⟩
 by_cases h3 : sumB (s.take (s.length - 8)) = s.drop (s.length - 8)
 rotate_left
 ·rw [if_pos h3]; exact no _ (decode_e3 s c h3)
 rw [if_neg (fun h => h h3)]
 by_cases h4 : 1 ≤ dK s ∧ dK s ≤ 4
 rotate_left
 ·rw [if_pos h4]; exact no _ (decode_e4 s c h3 h4)
 rw [if_neg (fun h => h h4)]
 by_cases h5 : sizeErr (dW s) (dH s) = 0
 rotate_left
 ·rw [if_pos h5]; exact no _ (decode_e5 s c h3 h4 h5)
 rw [if_neg (fun h => h h5)]
 by_cases h6 : (dPg s).2 = true
 rotate_left
 ·rw [if_neg (fun h => h6 h.1)]; exact no _ (decode_e6 s c h3 h4 h5 (by simpa using h6))
 by_cases h7 : encB (dW s) (dH s) (dPg s).1 (dK s) = s
 ·rw [if_pos ⟨h6, h7⟩]
  exact FnFr.toRo (FnFr.of_ok (decode_ok s c h3 h4 h5 h6 h7) rfl rfl) (by simp [dqA, outOk, argOkL, allOk, argOk, argOkN, lk, noIdR_ok])
 ·rw [if_neg (fun h => h7 h.2)]; exact no _ (decode_e7 s c h3 h4 h5 h6 h7)
end Go.Fv.H
/- strings.Builder.WriteByte. -/
namespace Go.Fv.H
open Go Go.Proofs
set_option linter.unusedSimpArgs false
set_option linter.unusedVariables false
set_option linter.unnecessarySimpa false
set_option maxRecDepth 8000
set_option maxHeartbeats 2000000 in
theorem byteFresh_io (c : UInt8) : FnIO Tryz.prog 54 [.ptr 0 0, .int .u8 c.toNat] [(0, .box 89 [.raw (.pointer none), .nilS])] 1 (.raw .nilIface) [(0, .box 89 [.ptr 0 0, .own 1]), (1, .row 5 (.ints .u8 (byteInts [c])))] := by
 have k := copyFresh_io
 refine FnIO.of_vc Tryz.func54 rfl (by decide) (by simp [Tryz.f54]) covB1 [.tmp 4] rfl fun w0 T0 _ => ?_
 simp only [Tryz.f54, argEnv]
 (repeat' with_reducible first | intro _ | refine rz ?_ | refine ra ?_ ?_ | omega | simp (maxSteps := 9^7) only [go_sem])
 refine VcCall.i [0] k 1 ?_
 (repeat' with_reducible first | intro _ | refine rz ?_ | refine ra ?_ ?_ | omega | simp (maxSteps := 9^7) only [go_sem, S.ioS, ioRows, ioN, delL, Item.ren, ren, renL, List.getElem?_cons_zero, List.getElem?_cons_succ, List.getElem?_nil, List.filter])
 refine RetK.of [(1, 3)] 3 (by decide) (by decide) ?_ rfl ?_ <;> simp only [go_sem, Int.natCast_succ, byteInts, List.map_cons, List.map_nil]
set_option maxHeartbeats 2000000 in
theorem byteUsed_io (b : List UInt8) (c : UInt8) (hb : b.length ≤ 100000000000) : FnIO Tryz.prog 54 [.ptr 0 0, .int .u8 c.toNat] [(0, .box 89 [.ptr 0 0, .own 1]), (1, .row 5 (.ints .u8 (byteInts b)))] 2 (.raw .nilIface) [(0, .box 89 [.ptr 0 0, .own 2]), (2, .row 5 (.ints .u8 (byteInts (b ++ [c]))))] := by
 have k := copyUsed_io 5 (byteInts b)
 have hbl := byteInts_len b
 have he : byteInts (b ++ [c]) = byteInts b ++ [(c.toNat : Int)] := by unfold byteInts; rw [List.map_append]; rfl
 generalize byteInts b = B at *
 generalize byteInts (b ++ [c]) = C at *
 refine FnIO.of_vc Tryz.func54 rfl (by decide) (by simp [Tryz.f54]) covB2 [.tmp 4] rfl fun w0 T0 _ => ?_
 simp only [Tryz.f54, argEnv]
 (repeat' with_reducible first | intro _ | refine rz ?_ | refine ra ?_ ?_ | omega | simp (maxSteps := 9^7) only [go_sem])
 refine VcCall.i [0, 1] k 2 ?_
 (repeat' with_reducible first | intro _ | refine rz ?_ | refine ra ?_ ?_ | omega | simp (maxSteps := 9^7) only [go_sem])
 refine RetK.of [(2, 3)] 3 (by decide) (by decide) ?_ rfl ?_ <;> simp only [go_sem, Int.natCast_succ, he]
end Go.Fv.H
/- bedref1.plus: the walk. -/
namespace Go.Fv.H
open Go Go.Proofs
set_option linter.unusedSimpArgs false
set_option linter.unusedVariables false
set_option linter.unnecessarySimpa false
set_option maxRecDepth 8000
def plL (k N m t : Nat) : Bytes := beB (k - t) (N / 256 ^ t) ++ beB t (N + m)
def plX (N m t : Nat) : Nat := (N % 256 ^ t + m) / 256 ^ t
theorem plL_zero (k N m : Nat) : plL k N m 0 = beB k N := by unfold plL; rw [Nat.pow_zero, Nat.div_one, beB_zero, List.append_nil]; rfl
theorem plX_zero (N m : Nat) : plX N m 0 = m := by unfold plX; rw [Nat.pow_zero, Nat.mod_one, Nat.div_one, Nat.zero_add]
theorem plX_le (N m t : Nat) : plX N m t ≤ m + 1 := by
 unfold plX
 have hq : 0 < 256 ^ t := Nat.pow_pos (by decide)
 generalize 256 ^ t = q at *
 have h1 := Nat.mod_lt N hq
 have h2 : (N % q + m) / q ≤ (q + m) / q := Nat.div_le_div_right (by omega)
 rw [Nat.add_comm q, Nat.add_div_right _ hq] at h2
 have := Nat.div_le_self m q
 omega
theorem pl_sum (N m t : Nat) : (N + m) / 256 ^ t = plX N m t + N / 256 ^ t := by
 unfold plX
 have hq : 0 < 256 ^ t := Nat.pow_pos (by decide)
 generalize 256 ^ t = q at *
 have h := Nat.div_add_mod N q
 have e : N + m = (N % q + m) + q * (N / q) := by omega
 rw [e, Nat.add_mul_div_left _ _ hq]
theorem plX_succ (N m t : Nat) : plX N m (t + 1) = (plX N m t + N / 256 ^ t % 256) / 256 := by
 unfold plX
 have hq : 0 < 256 ^ t := Nat.pow_pos (by decide)
 rw [Nat.pow_succ, Nat.mod_mul, ← Nat.div_div_eq_div_mul]
 generalize 256 ^ t = q at *
 have e : N % q + q * (N / q % 256) + m = (N % q + m) + q * (N / q % 256) := by omega
 rw [e, Nat.add_mul_div_left _ _ hq]
theorem plL_done {k N m t : Nat} (ht : t ≤ k) (h : plX N m t = 0 ∨ t = k) : plL k N m t = beB k (N + m) := by
 rcases h with h | h
 ·have h2 := pl_sum N m t
  rw [h, Nat.zero_add] at h2
  unfold plL
  rw [← h2, ← beB_add, Nat.sub_add_cancel ht]
 ·subst h; unfold plL; rw [Nat.sub_self, beB_zero, List.nil_append]
theorem plL_now {k N m t : Nat} (ht : t < k) : plL k N m t = beB (k - t - 1) (N / 256 ^ t / 256) ++ UInt8.ofNat (N / 256 ^ t) :: beB t (N + m) := by
 unfold plL
 have e : k - t = (k - t - 1) + 1 := by omega
 rw [e, beB_succ, List.append_assoc, List.singleton_append]
 rfl
theorem plL_next {k N m t : Nat} (ht : t < k) : plL k N m (t + 1) = beB (k - t - 1) (N / 256 ^ t / 256) ++ UInt8.ofNat ((N + m) / 256 ^ t) :: beB t (N + m) := by
 unfold plL
 have e : k - (t + 1) = k - t - 1 := by omega
 rw [e, Nat.pow_succ, ← Nat.div_div_eq_div_mul, Nat.add_comm t 1, beB_add 1 t]
 have e2 : ∀ n, beB 1 n = [UInt8.ofNat n] := fun n => by
  have := beB_succ 0 n
  rw [beB_zero, List.nil_append] at this
  exact this
 rw [e2, List.singleton_append]
theorem plL_len {k N m t : Nat} (ht : t ≤ k) : (plL k N m t).length = k := by unfold plL; rw [List.length_append, beB_len, beB_len]; omega
set_option maxHeartbeats 4000000 in
theorem plus_io (k N m : Nat) (hk : k ≤ 2000000) (hm : m ≤ 4294967296) :
  FnIO Tryz.prog 102 [.own 0, .int .i64 m] [(0, .row 5 (.ints .u8 (byteInts (beB k N))))] 1 (.tup []) [(0, .row 5 (.ints .u8 (byteInts (beB k (N + m)))))] := by
 have hl0 : (byteInts (beB k N)).length = k := by rw [bytes_len, beB_len]
 refine FnIO.of_vc Tryz.func102 rfl (by decide) (by simp [Tryz.f102]) covB1 [] rfl fun w0 T0 _ => ?_
 simp only [Tryz.f102, argEnv]
 (repeat' with_reducible first | intro _ | refine rz ?_ | refine ra ?_ ?_ | omega | simp (maxSteps := 9^7) only [go_sem, hl0])
 refine VcLoop.intro (fun t : Nat => ⟨30, [(4, .int .i64 ((k : Int) - 1 - (t : Int))), (1, .int .i64 (plX N m t)), (0, .own 0)], [(0, .row 5 (.ints .u8 (byteInts (plL k N m t))))], 1⟩) (fun t => t ≤ k) (fun t => k - t) 0 ?_ (Nat.zero_le _) fun t ht => ?_
 ·refine Ent.autoK 1 rfl (Nat.le_refl 1) ?_ ?_ <;> simp only [go_sem, Int.natCast_succ, fromL, plL_zero, plX_zero]
  all_goals omega
 have hx := plX_le N m t
 by_cases hgo : 0 < plX N m t ∧ t < k
 ·have f1 : (0 < ((plX N m t : Nat) : Int)) = True := eq_true (by omega)
  have f2 : (0 ≤ (k : Int) - 1 - (t : Int)) = True := eq_true (by omega)
  have hnow := plL_now (N := N) (m := m) hgo.2
  have hnext := plL_next (N := N) (m := m) hgo.2
  have hsum := pl_sum N m t
  have hxs := plX_succ N m t
  have hAl := beB_len (k - t - 1) (N / 256 ^ t / 256)
  have hlen : (byteInts (plL k N m t)).length = k := by rw [bytes_len, plL_len (by omega)]
  have hat := bytes_mid (beB (k - t - 1) (N / 256 ^ t / 256)) (UInt8.ofNat (N / 256 ^ t)) (beB t (N + m))
  have hset := bytes_set (beB (k - t - 1) (N / 256 ^ t / 256)) (UInt8.ofNat (N / 256 ^ t)) (UInt8.ofNat ((N + m) / 256 ^ t)) (beB t (N + m))
  rw [← hnow, hAl] at hat hset
  rw [← hnext] at hset
  have hbt : (UInt8.ofNat (N / 256 ^ t)).toNat = N / 256 ^ t % 256 := by simp
  have hbv : (UInt8.ofNat ((N + m) / 256 ^ t)).toNat = (N + m) / 256 ^ t % 256 := by simp
  rw [hbt] at hat
  rw [hbv] at hset
  have hix : ((k : Int) - 1 - (t : Int)).toNat = k - t - 1 := by omega
  have hsh : ∀ a : Nat, shrI .i64 (a : Int) 8 = ((a / 256 : Nat) : Int) := fun a => by
   unfold shrI
   rw [show (2 : Int) ^ (min (8 : Int).toNat IntKind.i64.bits) = 256 by rfl, Int.fdiv_eq_ediv_of_nonneg _ (by decide)]
   rfl
  have hv : ((plX N m t : Nat) : Int) + ((N / 256 ^ t % 256 : Nat) : Int) = ((plX N m t + N / 256 ^ t % 256 : Nat) : Int) := by omega
  have hw8 : IntKind.u8.wrap ((plX N m t + N / 256 ^ t % 256 : Nat) : Int) = (((N + m) / 256 ^ t % 256 : Nat) : Int) := by rw [wrap8, hsum]; omega
  have hq := hsh (plX N m t + N / 256 ^ t % 256)
  rw [← hxs] at hq
  have hb256 : N / 256 ^ t % 256 < 256 := Nat.mod_lt _ (by decide)
  generalize hx2 : plX N m (t + 1) = x2 at *
  generalize plX N m t = x at *
  generalize (N + m) / 256 ^ t % 256 = y at *
  generalize N / 256 ^ t % 256 = z at *
  (repeat' with_reducible first | intro _ | refine rz ?_ | refine ra ?_ ?_ | omega | simp (maxSteps := 9^7) only [go_sem, f1, f2, hix, hlen, hat, hv])
  refine LetW.at _ hw8 ?_
  (repeat' with_reducible first | intro _ | refine rz ?_ | refine ra ?_ ?_ | omega | simp (maxSteps := 9^7) only [go_sem, hix, hlen, hset, hq])
  refine ⟨t + 1, Ent.autoK 1 rfl (Nat.le_refl 1) ?_ ?_, by omega, by omega⟩ <;> simp only [go_sem, Int.natCast_succ, fromL, hx2]
  all_goals omega
 ·have hd := plL_done (N := N) (m := m) ht (by omega)
  by_cases f : 0 < plX N m t
  ·have f1 : (0 < ((plX N m t : Nat) : Int)) = True := eq_true (by omega)
   have f2 : (0 ≤ (k : Int) - 1 - (t : Int)) = False := eq_false (by omega)
   (repeat' with_reducible first | intro _ | refine rz ?_ | refine ra ?_ ?_ | omega | simp (maxSteps := 9^7) only [go_sem, f1, f2])
   refine RetK.auto 1 (Nat.le_refl 1) ?_ rfl ?_ <;> simp only [go_sem, Int.natCast_succ, fromL, hd]
  ·have f1 : (0 < ((plX N m t : Nat) : Int)) = False := eq_false (by omega)
   (repeat' with_reducible first | intro _ | refine rz ?_ | refine ra ?_ ?_ | omega | simp (maxSteps := 9^7) only [go_sem, f1])
   refine RetK.auto 1 (Nat.le_refl 1) ?_ rfl ?_ <;> simp only [go_sem, Int.natCast_succ, fromL, hd]
end Go.Fv.H
