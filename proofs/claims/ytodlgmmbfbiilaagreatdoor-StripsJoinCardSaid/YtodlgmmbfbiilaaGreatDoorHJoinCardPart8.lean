/-
  A part of the proof of the claim: walks over the program's functions and the plain laws that these need. No condition of its own.
-/
import Derived.Test.YtodlgmmbfbiilaaGreatDoorHJoinCardPart6
import Derived.Test.YtodlgmmbfbiilaaGreatDoorHJoinCardPart7
import Derived.Test.YtodlgmmbfbiilaaGreatDoorHJoinCardPart4
import Derived.Test.YtodlgmmbfbiilaaGreatDoorHJoinCardPart5
import Derived.Test.YtodlgmmbfbiilaaGreatDoorHJoinCardPart1
import Derived.Test.YtodlgmmbfbiilaaGreatDoorFvPart11
import Derived.Test.YtodlgmmbfbiilaaGreatDoorFvPart10
/- Reading a number: the walk of ReadGamma. -/
namespace Go.Fv.H
open Go Go.Proofs
set_option linter.unusedSimpArgs false
set_option linter.unusedVariables false
set_option linter.unnecessarySimpa false
set_option maxRecDepth 8000
theorem inCut01 : inCut [48, 49] = is01 := funext fun c => by
 unfold inCut is01
 simp
theorem trim01 (l : Bytes) : ((endOff (inCut [48, 49]) l).dropWhile (inCut [48, 49]) = []) ↔ l.all is01 = true := by rw [inCut01]; exact trim_nil is01 l
set_option maxHeartbeats 4000000 in
theorem readG_ok (s : Bytes) (hs : s.length ≤ 300000000000000) : FnOk Tryz.prog 105 [.str s] (.tup [.int .i64 (rdN s), .int .i64 (rdL s), .int .i64 (rdE 8 s)]) [] := by
 have hle := lead_le s
 have hat := lead_at s
 have hst := lead_stop s
 refine FnOk.of_vc Tryz.func105 rfl (by decide) (by simp [Tryz.f105]) [.tmp 2, .tmp 3, .tmp 4] rfl fun w0 T0 _ => ?_
 simp only [Tryz.f105, argEnv]
 (repeat' with_reducible first | intro _ | refine rz ?_ | refine ra ?_ ?_ | omega | simp (maxSteps := 9^7) only [go_sem])
 refine VcLoop.intro (fun z : Nat => ⟨62, [(5, .int .i64 z), (0, .str s)], [], 0⟩) (fun z => z ≤ leadB s) (fun z => s.length - z) 0 ?_ (Nat.zero_le _) fun z hz => ?_
 ·refine Ent.auto0 rfl ?_ ?_ <;> simp only [go_sem, Int.natCast_succ]
 by_cases hlt : z < leadB s
 ·have e := hat z hlt
  have f1 : ((z : Int) < (s.length : Int)) = True := eq_true (by omega)
  have f2 : (((s.getD z 0).toNat : Int) = 48) = True := eq_true (by rw [e]; rfl)
  (repeat' with_reducible first | intro _ | refine rz ?_ | refine ra ?_ ?_ | omega | simp (maxSteps := 9^7) only [go_sem, f1, f2])
  refine ⟨z + 1, Ent.auto0 rfl ?_ ?_, by omega, by omega⟩ <;> simp only [go_sem, Int.natCast_succ]
 have hz : z = leadB s := by omega
 subst hz
 have hno : ∀ h : rdG s = none, rdN s = 0 ∧ rdL s = 0 ∧ rdE 8 s = 8 := fun h => by unfold rdN rdL rdE; rw [h]; exact ⟨rfl, rfl, rfl⟩
 have fin : leadB s < s.length → (((s.getD (leadB s) 0).toNat : Int) = 48) = False := fun c0 => eq_false fun h => hst c0 (UInt8.toNat_inj.1 (by show _ = 48; omega))
 by_cases c1 : 20 < leadB s
 ·obtain ⟨r1, r2, r3⟩ := hno (rdG_none fun h => by omega)
  have f3 : (20 < (leadB s : Int)) = True := eq_true (by omega)
  by_cases c0 : leadB s < s.length
  ·have f1 : ((leadB s : Int) < (s.length : Int)) = True := eq_true (by omega)
   have f2 := fin c0
   (repeat' with_reducible first | intro _ | refine rz ?_ | refine ra ?_ ?_ | omega | simp (maxSteps := 9^7) only [go_sem, f1, f2, f3])
   refine Ret.auto 0 ?_ rfl ?_ <;> simp only [go_sem, Int.natCast_succ, Post, r1, r2, r3]
  ·have f1 : ((leadB s : Int) < (s.length : Int)) = False := eq_false (by omega)
   (repeat' with_reducible first | intro _ | refine rz ?_ | refine ra ?_ ?_ | omega | simp (maxSteps := 9^7) only [go_sem, f1, f3])
   refine Ret.auto 0 ?_ rfl ?_ <;> simp only [go_sem, Int.natCast_succ, Post, r1, r2, r3]
 have f3 : (20 < (leadB s : Int)) = False := eq_false (by omega)
 by_cases c2 : s.length < 2 * leadB s + 1
 ·obtain ⟨r1, r2, r3⟩ := hno (rdG_none fun h => by omega)
  have f4 : ((s.length : Int) < 2 * (leadB s : Int) + 1) = True := eq_true (by omega)
  by_cases c0 : leadB s < s.length
  ·have f1 : ((leadB s : Int) < (s.length : Int)) = True := eq_true (by omega)
   have f2 := fin c0
   (repeat' with_reducible first | intro _ | refine rz ?_ | refine ra ?_ ?_ | omega | simp (maxSteps := 9^7) only [go_sem, f1, f2, f3, f4])
   refine Ret.auto 0 ?_ rfl ?_ <;> simp only [go_sem, Int.natCast_succ, Post, r1, r2, r3]
  ·have f1 : ((leadB s : Int) < (s.length : Int)) = False := eq_false (by omega)
   (repeat' with_reducible first | intro _ | refine rz ?_ | refine ra ?_ ?_ | omega | simp (maxSteps := 9^7) only [go_sem, f1, f3, f4])
   refine Ret.auto 0 ?_ rfl ?_ <;> simp only [go_sem, Int.natCast_succ, Post, r1, r2, r3]
 have f4 : ((s.length : Int) < 2 * (leadB s : Int) + 1) = False := eq_false (by omega)
 have c0 : leadB s < s.length := by omega
 have f1 : ((leadB s : Int) < (s.length : Int)) = True := eq_true (by omega)
 have f2 := fin c0
 obtain ⟨m1, m2⟩ := lead_mem (s := s) (by omega)
 have hcut : (2 * (leadB s : Int) + 1).toNat - leadB s = leadB s + 1 := by omega
 by_cases c3 : s.getD (leadB s) 0 = 49
 rotate_left
 ·obtain ⟨r1, r2, r3⟩ := hno (rdG_none fun h => by
   have := all_at (l := (s.drop (leadB s)).take (leadB s + 1)) (p := 0) (by omega) h.2.2.1
   rw [m2] at this
   exact this.elim (hst c0) c3)
  have f5 : (((s.getD (leadB s) 0).toNat : Int) = 49) = False := eq_false fun h => c3 (UInt8.toNat_inj.1 (by show _ = 49; omega))
  (repeat' with_reducible first | intro _ | refine rz ?_ | refine ra ?_ ?_ | omega | simp (maxSteps := 9^7) only [go_sem, f1, f2, f3, f4, f5, Bool.false_or, Bool.or_false])
  ·rename_i h; simp at h
  ·refine Ret.auto 0 ?_ rfl ?_ <;> simp only [go_sem, Int.natCast_succ, Post, r1, r2, r3]
 have f5 : (((s.getD (leadB s) 0).toNat : Int) = 49) = True := eq_true (by rw [c3]; rfl)
 have kt := trimA_ok ((s.drop (leadB s)).take (leadB s + 1)) [48, 49] (by intro i hi; have : i = 0 ∨ i = 1 := (by simp at hi; omega); rcases this with rfl | rfl <;> decide) (by decide)
 have ht := trim01 ((s.drop (leadB s)).take (leadB s + 1))
 have hsome := @rdG_some s
 have hnone := @rdG_none s
 generalize (endOff (inCut [48, 49]) ((s.drop (leadB s)).take (leadB s + 1))).dropWhile (inCut [48, 49]) = tr at *
 by_cases c4 : ((s.drop (leadB s)).take (leadB s + 1)).all is01 = true
 rotate_left
 ·obtain ⟨r1, r2, r3⟩ := hno (hnone fun h => c4 h.2.2.1)
  have f6 : (tr = []) = False := eq_false fun h => c4 (ht.1 h)
  (repeat' with_reducible first | intro _ | refine rz ?_ | refine ra ?_ ?_ | omega | simp (maxSteps := 9^7) only [go_sem, f1, f2, f3, f4, f5, hcut, Bool.false_or, Bool.or_false])
  refine VcCall.k kt ?_
  (repeat' with_reducible first | intro _ | refine rz ?_ | refine ra ?_ ?_ | omega | simp (maxSteps := 9^7) only [go_sem, f6])
  refine Ret.auto 0 ?_ rfl ?_ <;> simp only [go_sem, Int.natCast_succ, Post, r1, r2, r3]
 have f6 : (tr = []) = True := eq_true (ht.2 c4)
 have kp := parseI_ok ((s.drop (leadB s)).take (leadB s + 1)) c4 (fun e => by rw [e] at m1; simp at m1) (by omega)
 by_cases c5 : valB ((s.drop (leadB s)).take (leadB s + 1)) ≤ 1048576
 ·have hr := hsome ⟨by omega, by omega, c4, c5⟩
  have r1 : rdN s = (valB ((s.drop (leadB s)).take (leadB s + 1)) : Int) := by unfold rdN; rw [hr]
  have r2 : rdL s = 2 * (leadB s : Int) + 1 := by unfold rdL; rw [hr]; rfl
  have r3 : rdE 8 s = 0 := by unfold rdE; rw [hr]
  generalize valB ((s.drop (leadB s)).take (leadB s + 1)) = v at *
  have f7 : (1048576 < (v : Int)) = False := eq_false (by omega)
  (repeat' with_reducible first | intro _ | refine rz ?_ | refine ra ?_ ?_ | omega | simp (maxSteps := 9^7) only [go_sem, f1, f2, f3, f4, f5, hcut, Bool.false_or, Bool.or_false])
  refine VcCall.k kt ?_
  (repeat' with_reducible first | intro _ | refine rz ?_ | refine ra ?_ ?_ | omega | simp (maxSteps := 9^7) only [go_sem, f6, hcut])
  refine VcCall.k kp ?_
  (repeat' with_reducible first | intro _ | refine rz ?_ | refine ra ?_ ?_ | omega | simp (maxSteps := 9^7) only [go_sem, f7])
  refine Ret.auto 0 ?_ rfl ?_ <;> simp only [go_sem, Int.natCast_succ, Post, r1, r2, r3]
 ·obtain ⟨r1, r2, r3⟩ := hno (hnone fun h => c5 h.2.2.2)
  generalize valB ((s.drop (leadB s)).take (leadB s + 1)) = v at *
  have f7 : (1048576 < (v : Int)) = True := eq_true (by omega)
  (repeat' with_reducible first | intro _ | refine rz ?_ | refine ra ?_ ?_ | omega | simp (maxSteps := 9^7) only [go_sem, f1, f2, f3, f4, f5, hcut, Bool.false_or, Bool.or_false])
  refine VcCall.k kt ?_
  (repeat' with_reducible first | intro _ | refine rz ?_ | refine ra ?_ ?_ | omega | simp (maxSteps := 9^7) only [go_sem, f6, hcut])
  refine VcCall.k kp ?_
  (repeat' with_reducible first | intro _ | refine rz ?_ | refine ra ?_ ?_ | omega | simp (maxSteps := 9^7) only [go_sem, f7])
  refine Ret.auto 0 ?_ rfl ?_ <;> simp only [go_sem, Int.natCast_succ, Post, r1, r2, r3]
end Go.Fv.H
/- The closures of shrink.readLine. -/
namespace Go.Fv.H
open Go Go.Proofs
set_option linter.unusedSimpArgs false
set_option linter.unusedVariables false
set_option linter.unnecessarySimpa false
set_option maxRecDepth 8000
theorem takeY_io (s : Bytes) (n : Nat) (code : Bytes) (hs : s.length ≤ 300000000000000) (hn : n ≤ s.length) (hc : code.length ≤ 100) (hp : code.isPrefixOf (s.drop n) = true) :
  FnIO Tryz.prog 145 [.str code, .ptr 0 0, .ptr 1 0] [(0, .box 9 [.str s]), (1, .box 3 [.int .i64 n])] 2 (.bool true) [(0, .box 9 [.str s]), (1, .box 3 [.int .i64 (n + code.length : Nat)])] := by
 have k := hasPrefix_ok (s.drop n) code
 rw [hp] at k
 refine FnIO.of_vc Tryz.func145 rfl (by decide) (by simp [Tryz.f145]) covB2 [.tmp 4] rfl fun w0 T0 _ => ?_
 simp only [Tryz.f145, argEnv]
 have htk : (s.drop n).take (s.length - n) = s.drop n := List.take_of_length_le (by rw [List.length_drop]; exact Nat.le_refl _)
 (repeat' with_reducible first | intro _ | refine rz ?_ | refine ra ?_ ?_ | omega | simp (maxSteps := 9^7) only [go_sem, htk])
 refine VcCall.k k ?_
 (repeat' with_reducible first | intro _ | refine rz ?_ | refine ra ?_ ?_ | omega | simp (maxSteps := 9^7) only [go_sem])
 refine RetK.auto 2 (Nat.le_refl 2) ?_ rfl ?_ <;> simp only [go_sem, Int.natCast_succ, fromL]
 omega
theorem takeN_io (s : Bytes) (n : Nat) (code : Bytes) (hs : s.length ≤ 300000000000000) (hn : n ≤ s.length) (hp : code.isPrefixOf (s.drop n) = false) :
  FnIO Tryz.prog 145 [.str code, .ptr 0 0, .ptr 1 0] [(0, .box 9 [.str s]), (1, .box 3 [.int .i64 n])] 2 (.bool false) [(0, .box 9 [.str s]), (1, .box 3 [.int .i64 n])] := by
 have k := hasPrefix_ok (s.drop n) code
 rw [hp] at k
 refine FnIO.of_vc Tryz.func145 rfl (by decide) (by simp [Tryz.f145]) covB2 [.tmp 4] rfl fun w0 T0 _ => ?_
 simp only [Tryz.f145, argEnv]
 have htk : (s.drop n).take (s.length - n) = s.drop n := List.take_of_length_le (by rw [List.length_drop]; exact Nat.le_refl _)
 (repeat' with_reducible first | intro _ | refine rz ?_ | refine ra ?_ ?_ | omega | simp (maxSteps := 9^7) only [go_sem, htk])
 refine VcCall.k k ?_
 (repeat' with_reducible first | intro _ | refine rz ?_ | refine ra ?_ ?_ | omega | simp (maxSteps := 9^7) only [go_sem])
 refine RetK.auto 2 (Nat.le_refl 2) ?_ rfl ?_ <;> simp only [go_sem, Int.natCast_succ, fromL]
theorem cut64 (s : Bytes) (n : Nat) (hn : n ≤ s.length) : (s.drop n).take (min s.length (n + 64) - n) = (s.drop n).take 64 := by
 rw [List.take_eq_take_iff, List.length_drop]; omega
theorem number_io (s : Bytes) (n : Nat) (hs : s.length ≤ 300000000000000) (hn : n ≤ s.length) :
  FnIO Tryz.prog 146 [.ptr 0 0, .ptr 1 0] [(0, .box 9 [.str s]), (1, .box 3 [.int .i64 n])] 2 (.tup [.int .i64 (rdN (s.drop n) - 1), .bool (decide (rdE 8 (s.drop n) = 0))]) [(0, .box 9 [.str s]), (1, .box 3 [.int .i64 (n + rdL (s.drop n))])] := by
 have hg : rdG ((s.drop n).take 64) = rdG (s.drop n) := rdG_take _ 64 (Nat.le_refl _)
 have e1 : rdN ((s.drop n).take 64) = rdN (s.drop n) := by unfold rdN; rw [hg]
 have e2 : rdL ((s.drop n).take 64) = rdL (s.drop n) := by unfold rdL; rw [hg]
 have e3 : rdE 8 ((s.drop n).take 64) = rdE 8 (s.drop n) := by unfold rdE; rw [hg]
 have k := readG_ok ((s.drop n).take 64) (by rw [List.length_take]; omega)
 rw [e1, e2, e3] at k
 have hb : 0 ≤ rdN (s.drop n) ∧ rdN (s.drop n) ≤ 1048576 ∧ 0 ≤ rdL (s.drop n) ∧ rdL (s.drop n) ≤ 41 := by
  unfold rdN rdL
  cases hr : rdG (s.drop n) with
  | none => dsimp only; omega
  | some x =>
   obtain ⟨m, l⟩ := x
   have h := rdG_len hr
   have h2 : m ≤ 1048576 := by
    unfold rdG at hr
    split at hr
    ·rename_i hc; cases hr; exact hc.2.2.2
    ·cases hr
   dsimp only; omega
 generalize rdN (s.drop n) = a at *
 generalize rdL (s.drop n) = b at *
 generalize rdE 8 (s.drop n) = c at *
 have hm : min (s.length : Int) ((n : Int) + 64) = ((min s.length (n + 64) : Nat) : Int) := by omega
 have hc := cut64 s n hn
 have hm1 : n ≤ min s.length (n + 64) := by omega
 have hm2 : min s.length (n + 64) ≤ s.length := by omega
 generalize min s.length (n + 64) = mm at *
 refine FnIO.of_vc Tryz.func146 rfl (by decide) (by simp [Tryz.f146]) covB2 [.tmp 2, .tmp 3] rfl fun w0 T0 _ => ?_
 simp only [Tryz.f146, argEnv]
 (repeat' with_reducible first | intro _ | refine rz ?_ | refine ra ?_ ?_ | omega | simp (maxSteps := 9^7) only [go_sem, hm, hc])
 refine VcCall.k k ?_
 (repeat' with_reducible first | intro _ | refine rz ?_ | refine ra ?_ ?_ | omega | simp (maxSteps := 9^7) only [go_sem])
 refine RetK.auto 2 (Nat.le_refl 2) ?_ rfl ?_ <;> simp only [go_sem, Int.natCast_succ, fromL]
def IdxIO (s : Bytes) (n : Nat) (j : Int) (m : Nat) : Prop :=
 FnIO Tryz.prog 149 [.ro (.strs nearCs), .fn 145 [.ptr 0 0, .ptr 1 0]] [(0, .box 9 [.str s]), (1, .box 3 [.int .i64 n])] 2 (.int .i64 j) [(0, .box 9 [.str s]), (1, .box 3 [.int .i64 m])]
set_option maxHeartbeats 2000000 in
theorem idx_io (s : Bytes) (n : Nat) (hs : s.length ≤ 300000000000000) (hn : n ≤ s.length) (j : Nat) (hj : j ≤ 7) (hno : ∀ i, i < j → (nearCs.getD i []).isPrefixOf (s.drop n) = false) (hy : j < 7 → (nearCs.getD j []).isPrefixOf (s.drop n) = true) :
  IdxIO s n (if j < 7 then j else -1) (n + if j < 7 then (nearCs.getD j []).length else 0) := by
 unfold IdxIO
 have hnl : nearCs.length = 7 := rfl
 refine FnIO.of_vc Tryz.func149 rfl (by decide) (by simp [Tryz.f149]) covB2 [.tmp 4] rfl fun w0 T0 _ => ?_
 simp only [Tryz.f149, argEnv]
 (repeat' with_reducible first | intro _ | refine rz ?_ | refine ra ?_ ?_ | omega | simp (maxSteps := 9^7) only [go_sem, hnl])
 refine VcLoop.intro (fun i : Nat => ⟨19, [(8, .int .i64 i), (7, .int .i64 7), (1, .fn 145 [.ptr 0 0, .ptr 1 0]), (0, .ro (.strs nearCs))], [(0, .box 9 [.str s]), (1, .box 3 [.int .i64 n])], 2⟩) (fun i => i ≤ j) (fun i => 8 - i) 0 ?_ (Nat.zero_le _) fun i hi => ?_
 ·refine Ent.autoK 2 rfl (Nat.le_refl 2) ?_ ?_ <;> simp only [go_sem, Int.natCast_succ, fromL]
 by_cases hlt : i < j
 ·have kt := takeN_io s n (nearCs.getD i []) hs hn (hno i hlt)
  have f1 : ((i : Int) < 7) = True := eq_true (by omega)
  (repeat' with_reducible first | intro _ | refine rz ?_ | refine ra ?_ ?_ | omega | simp (maxSteps := 9^7) only [go_sem, f1, hnl])
  refine VcCall.i [0, 1] kt 2 ?_
  (repeat' with_reducible first | intro _ | refine rz ?_ | refine ra ?_ ?_ | omega | simp (maxSteps := 9^7) only [go_sem])
  refine ⟨i + 1, Ent.autoK 2 rfl (Nat.le_refl 2) ?_ ?_, by omega, by omega⟩ <;> simp only [go_sem, Int.natCast_succ, fromL]
 have e : i = j := by omega
 subst e
 by_cases h7 : i < 7
 ·rw [if_pos h7, if_pos h7]
  have hlen : (nearCs.getD i []).length ≤ 7 := by
   have : i = 0 ∨ i = 1 ∨ i = 2 ∨ i = 3 ∨ i = 4 ∨ i = 5 ∨ i = 6 := by omega
   rcases this with rfl | rfl | rfl | rfl | rfl | rfl | rfl <;> decide
  have kt := takeY_io s n (nearCs.getD i []) hs hn (by omega) (hy h7)
  have f1 : ((i : Int) < 7) = True := eq_true (by omega)
  (repeat' with_reducible first | intro _ | refine rz ?_ | refine ra ?_ ?_ | omega | simp (maxSteps := 9^7) only [go_sem, f1, hnl])
  refine VcCall.i [0, 1] kt 2 ?_
  (repeat' with_reducible first | intro _ | refine rz ?_ | refine ra ?_ ?_ | omega | simp (maxSteps := 9^7) only [go_sem])
  refine RetK.auto 2 (Nat.le_refl 2) ?_ rfl ?_ <;> simp only [go_sem, Int.natCast_succ, fromL]
 ·rw [if_neg h7, if_neg h7, Nat.add_zero]
  have f1 : ((i : Int) < 7) = False := eq_false (by omega)
  (repeat' with_reducible first | intro _ | refine rz ?_ | refine ra ?_ ?_ | omega | simp (maxSteps := 9^7) only [go_sem, f1, hnl])
  refine RetK.auto 2 (Nat.le_refl 2) ?_ rfl ?_ <;> simp only [go_sem, Int.natCast_succ, fromL]
def fillB (l : List Bool) (a t : Nat) (c : Bool) : List Bool := l.take a ++ (List.replicate (t - a) c ++ l.drop t)
theorem fillB_len {l : List Bool} {a t : Nat} {c : Bool} (h1 : a ≤ t) (h2 : t ≤ l.length) : (fillB l a t c).length = l.length := by
 unfold fillB
 rw [List.length_append, List.length_append, List.length_take, List.length_replicate, List.length_drop]; omega
theorem fillB_set {l : List Bool} {a t : Nat} {c : Bool} (h1 : a ≤ t) (h2 : t < l.length) : (fillB l a t c).set t c = fillB l a (t + 1) c := by
 apply List.ext_getElem?
 intro i
 have hl := fillB_len (l := l) (c := c) h1 (by omega)
 unfold fillB at *
 rw [List.getElem?_set]
 by_cases hi : t = i
 ·subst hi
  rw [if_pos rfl, if_pos (by rw [hl]; exact h2), List.getElem?_append_right (by rw [List.length_take]; omega), List.getElem?_append_left (by rw [List.length_take, List.length_replicate]; omega), List.getElem?_replicate, if_pos (by rw [List.length_take]; omega)]
 ·rw [if_neg hi]
  simp only [List.getElem?_append, List.length_take, List.length_replicate, List.getElem?_take, List.getElem?_drop, List.getElem?_replicate]
  by_cases ha : i < min a l.length
  ·rw [if_pos ha, if_pos ha]
  ·rw [if_neg ha, if_neg ha]
   by_cases hb : i - min a l.length < t - a
   ·rw [if_pos hb, if_pos hb, if_pos (by omega), if_pos (by omega)]
   ·rw [if_neg hb, if_neg (by omega)]
    congr 1; omega
set_option maxHeartbeats 2000000 in
theorem fill_io (l : List Bool) (a : Nat) (v : Int) (t : Nat) (c : Bool) (hv : max v 0 = (a : Int)) (hvb : -1 ≤ v ∧ v ≤ 5000) (h1 : a ≤ t) (h2 : t ≤ l.length) (hl : l.length ≤ 4000) :
  FnIO Tryz.prog 144 [.int .i64 v, .int .i64 t, .bool c, .ptr 0 0] [(0, .box 22 [.own 1]), (1, .row 4 (.bools l))] 2 (.tup []) [(0, .box 22 [.own 1]), (1, .row 4 (.bools (fillB l a t c)))] := by
 refine FnIO.of_vc Tryz.func144 rfl (by decide) (by simp [Tryz.f144]) covB2 [] rfl fun w0 T0 _ => ?_
 simp only [Tryz.f144, argEnv]
 (repeat' with_reducible first | intro _ | refine rz ?_ | refine ra ?_ ?_ | omega | simp (maxSteps := 9^7) only [go_sem, hv])
 refine VcLoop.intro (fun i : Nat => ⟨19, [(7, .int .i64 i), (3, .ptr 0 0), (2, .bool c), (1, .int .i64 t)], [(0, .box 22 [.own 1]), (1, .row 4 (.bools (fillB l a i c)))], 2⟩) (fun i => a ≤ i ∧ i ≤ t) (fun i => t - i) a ?_ ⟨Nat.le_refl _, h1⟩ fun i hi => ?_
 ·have e0 : fillB l a a c = l := by unfold fillB; rw [Nat.sub_self, List.replicate_zero, List.nil_append, List.take_append_drop]
  refine Ent.autoK 2 rfl (Nat.le_refl 2) ?_ ?_ <;> simp only [go_sem, Int.natCast_succ, fromL, e0]
  all_goals first | rfl | omega
 obtain ⟨hi1, hi2⟩ := hi
 have hfl := fillB_len (l := l) (c := c) hi1 (by omega)
 by_cases hlt : i < t
 ·have f1 : ((i : Int) < (t : Int)) = True := eq_true (by omega)
  have hst := fillB_set (l := l) (c := c) hi1 (by omega)
  (repeat' with_reducible first | intro _ | refine rz ?_ | refine ra ?_ ?_ | omega | simp (maxSteps := 9^7) only [go_sem, f1, hfl, hst])
  refine ⟨i + 1, Ent.autoK 2 rfl (Nat.le_refl 2) ?_ ?_, ⟨by omega, by omega⟩, by omega⟩ <;> simp only [go_sem, Int.natCast_succ, fromL, hst]
 ·have e : i = t := by omega
  subst e
  have f1 : ((i : Int) < (i : Int)) = False := eq_false (by omega)
  (repeat' with_reducible first | intro _ | refine rz ?_ | refine ra ?_ ?_ | omega | simp (maxSteps := 9^7) only [go_sem, f1])
  refine RetK.auto 2 (Nat.le_refl 2) ?_ rfl ?_ <;> simp only [go_sem, Int.natCast_succ, fromL]
end Go.Fv.H
/- shrink.readLine: the walk. -/
namespace Go.Fv.H
open Go Go.Proofs
set_option linter.unusedSimpArgs false
set_option linter.unusedVariables false
set_option linter.unnecessarySimpa false
set_option maxRecDepth 8000
theorem code_cases (y : Bytes) : (passC.isPrefixOf y = true ∧ codeOf y = 0) ∨
  (passC.isPrefixOf y = false ∧ ∃ j, j < 7 ∧ codeOf y = j + 1 ∧ (∀ i, i < j → (nearCs.getD i []).isPrefixOf y = false) ∧ (nearCs.getD j []).isPrefixOf y = true) ∨
  (passC.isPrefixOf y = false ∧ (∀ i, i < 7 → (nearCs.getD i []).isPrefixOf y = false) ∧ ((farC.isPrefixOf y = true ∧ codeOf y = 8) ∨ (farC.isPrefixOf y = false ∧ codeOf y = 9))) := by
 unfold codeOf
 cases hp : passC.isPrefixOf y with
 | true => exact .inl ⟨rfl, rfl⟩
 | false =>
 cases h0 : (nearCs.getD 0 []).isPrefixOf y with
 | true =>
  refine .inr (.inl ⟨rfl, 0, by decide, rfl, ?_, h0⟩)
  exact fun i hi => by omega
 | false =>
 cases h1 : (nearCs.getD 1 []).isPrefixOf y with
 | true =>
  refine .inr (.inl ⟨rfl, 1, by decide, rfl, ?_, h1⟩)
  exact fun i hi => by
   have hi : i = 0 := by omega
   rcases hi with rfl
   ·exact h0
 | false =>
 cases h2 : (nearCs.getD 2 []).isPrefixOf y with
 | true =>
  refine .inr (.inl ⟨rfl, 2, by decide, rfl, ?_, h2⟩)
  exact fun i hi => by
   have hi : i = 0 ∨ i = 1 := by omega
   rcases hi with rfl | rfl
   ·exact h0
   ·exact h1
 | false =>
 cases h3 : (nearCs.getD 3 []).isPrefixOf y with
 | true =>
  refine .inr (.inl ⟨rfl, 3, by decide, rfl, ?_, h3⟩)
  exact fun i hi => by
   have hi : i = 0 ∨ i = 1 ∨ i = 2 := by omega
   rcases hi with rfl | rfl | rfl
   ·exact h0
   ·exact h1
   ·exact h2
 | false =>
 cases h4 : (nearCs.getD 4 []).isPrefixOf y with
 | true =>
  refine .inr (.inl ⟨rfl, 4, by decide, rfl, ?_, h4⟩)
  exact fun i hi => by
   have hi : i = 0 ∨ i = 1 ∨ i = 2 ∨ i = 3 := by omega
   rcases hi with rfl | rfl | rfl | rfl
   ·exact h0
   ·exact h1
   ·exact h2
   ·exact h3
 | false =>
 cases h5 : (nearCs.getD 5 []).isPrefixOf y with
 | true =>
  refine .inr (.inl ⟨rfl, 5, by decide, rfl, ?_, h5⟩)
  exact fun i hi => by
   have hi : i = 0 ∨ i = 1 ∨ i = 2 ∨ i = 3 ∨ i = 4 := by omega
   rcases hi with rfl | rfl | rfl | rfl | rfl
   ·exact h0
   ·exact h1
   ·exact h2
   ·exact h3
   ·exact h4
 | false =>
 cases h6 : (nearCs.getD 6 []).isPrefixOf y with
 | true =>
  refine .inr (.inl ⟨rfl, 6, by decide, rfl, ?_, h6⟩)
  exact fun i hi => by
   have hi : i = 0 ∨ i = 1 ∨ i = 2 ∨ i = 3 ∨ i = 4 ∨ i = 5 := by omega
   rcases hi with rfl | rfl | rfl | rfl | rfl | rfl
   ·exact h0
   ·exact h1
   ·exact h2
   ·exact h3
   ·exact h4
   ·exact h5
 | false =>
 have hall : ∀ i, i < 7 → (nearCs.getD i []).isPrefixOf y = false := fun i hi => by
  have hi : i = 0 ∨ i = 1 ∨ i = 2 ∨ i = 3 ∨ i = 4 ∨ i = 5 ∨ i = 6 := by omega
  rcases hi with rfl | rfl | rfl | rfl | rfl | rfl | rfl
  ·exact h0
  ·exact h1
  ·exact h2
  ·exact h3
  ·exact h4
  ·exact h5
  ·exact h6
 cases hf : farC.isPrefixOf y with
 | true => exact .inr (.inr ⟨rfl, hall, .inl ⟨rfl, rfl⟩⟩)
 | false => exact .inr (.inr ⟨rfl, hall, .inr ⟨rfl, rfl⟩⟩)
structure RLx where
 p : Nat
 k : Bool
 n : Nat
 R : List Bool
structure RLI (above : List Bool) (s : Bytes) (x : RLx) : Prop where
 hp : x.p ≤ above.length + 1
 hn : x.n ≤ s.length
 hR : x.R.length = x.p - 1
 hz : above.length = 0 → x.n = 0
 hq : rdGo true above s 0 false = match rdGo true above (s.drop x.n) x.p x.k with | none => none | some (l, m) => some (x.R ++ l, x.n + m)
theorem RLI.first (above : List Bool) (s : Bytes) : RLI above s ⟨0, false, 0, []⟩ := by
 refine ⟨Nat.zero_le _, Nat.zero_le _, rfl, fun _ => rfl, ?_⟩
 dsimp only
 rw [List.drop_zero]
 cases rdGo true above s 0 false with
 | none => rfl
 | some x => obtain ⟨l, m⟩ := x; dsimp only; rw [List.nil_append, Nat.zero_add]
theorem RLI.step {above : List Bool} {s : Bytes} {p n : Nat} {k : Bool} {R : List Bool} (h : RLI above s ⟨p, k, n, R⟩) (hp : p ≤ above.length) (h0 : 0 < above.length) {y : RSt} (hy : rdStep true above (s.drop n) p k = some y) :
  RLI above s ⟨y.p, y.k, n + y.n, R ++ y.px⟩ ∧ p < y.p := by
 obtain ⟨h1, h2, h3, _, h4⟩ := h
 obtain ⟨g1, g2, g3, g4⟩ := rdStep_some hp hy
 dsimp only at *
 rw [List.length_drop] at g4
 refine ⟨⟨g2, by dsimp only; omega, by dsimp only; rw [List.length_append, h3, g3]; omega, fun h => by omega, ?_⟩, g1⟩
 dsimp only
 rw [h4, rdGo_some hp hy, List.drop_drop]
 cases rdGo true above (s.drop (n + y.n)) y.p y.k with
 | none => rfl
 | some x => obtain ⟨l, m⟩ := x; dsimp only; rw [List.append_assoc, Nat.add_assoc]
theorem RLI.fail {above : List Bool} {s : Bytes} {p n : Nat} {k : Bool} {R : List Bool} (h : RLI above s ⟨p, k, n, R⟩) (hp : p ≤ above.length) (h0 : 0 < above.length) (hy : rdStep true above (s.drop n) p k = none) : rdAll true above s = none := by
 unfold rdAll
 rw [if_neg (by omega), h.hq, rdGo_none hp hy]
theorem RLI.done {above : List Bool} {s : Bytes} {p n : Nat} {k : Bool} {R : List Bool} (h : RLI above s ⟨p, k, n, R⟩) (hp : ¬ (p ≤ above.length ∧ 0 < above.length)) : rdAll true above s = some (R, n) ∧ R.length = above.length := by
 have h1 : p ≤ above.length + 1 := h.hp
 have h2 : R.length = p - 1 := h.hR
 have h3 : above.length = 0 → n = 0 := h.hz
 refine ⟨?_, by omega⟩
 unfold rdAll
 by_cases h0 : above.length = 0
 ·have hR0 : R.length = 0 := by
   have h5 : p ≤ 1 := by rw [h0] at h1; exact h1
   rw [h2]; exact Nat.sub_eq_zero_of_le h5
  rw [if_pos h0, h3 h0, List.eq_nil_of_length_eq_zero hR0]
 ·have h6 : ¬ p ≤ above.length := by omega
  rw [if_neg h0, h.hq, rdGo_end h6]
  dsimp only
  rw [List.append_nil, Nat.add_zero]
theorem rdG_most {s : Bytes} {m l : Nat} (h : rdG s = some (m, l)) : m ≤ 1048576 := by
 unfold rdG at h
 split at h
 ·rename_i hc; cases h; exact hc.2.2.2
 ·cases h
def rowR (w : Nat) (R : List Bool) : List Bool := R ++ List.replicate (w - R.length) false
theorem rowR_len {w : Nat} {R : List Bool} (h : R.length ≤ w) : (rowR w R).length = w := by unfold rowR; rw [List.length_append, List.length_replicate]; omega
theorem rowR_fill {w : Nat} {R : List Bool} {t : Nat} (c : Bool) (h : R.length ≤ t) (ht : t ≤ w) : fillB (rowR w R) R.length t c = rowR w (R ++ List.replicate (t - R.length) c) := by
 unfold fillB rowR
 rw [List.take_left, List.length_append, List.length_replicate, List.append_assoc]
 congr 2
 rw [List.drop_append, List.drop_replicate, List.drop_of_length_le h, List.nil_append]
 congr 1; omega
def rlOut (s : Bytes) (above : List Bool) : Option (List Bool × Nat) → AV
 | none => .tup [.nilS, .int .i64 0, .bool false]
 | some (l, n) => .tup [.own 0, .int .i64 n, .bool (decide (lineB l above = s.take n))]
def rlRows : Option (List Bool × Nat) → List (Nat × Item)
 | none => []
 | some (l, n) => [(0, .row 4 (.bools l))]
theorem rlOut_none (s : Bytes) (above : List Bool) : rlOut s above none = .tup [.nilS, .int .i64 0, .bool false] := rfl
theorem rlRows_none : rlRows none = [] := rfl
theorem rlOut_some (s : Bytes) (above l : List Bool) (n : Nat) : rlOut s above (some (l, n)) = .tup [.own 0, .int .i64 n, .bool (decide (lineB l above = s.take n))] := rfl
theorem rlRows_some (l : List Bool) (n : Nat) : rlRows (some (l, n)) = [(0, .row 4 (.bools l))] := rfl
theorem rdE_none {s : Bytes} (h : rdG s = none) : rdN s = 0 ∧ rdL s = 0 ∧ rdE 8 s = 8 := by unfold rdN rdL rdE; rw [h]; exact ⟨rfl, rfl, rfl⟩
theorem rdE_some {s : Bytes} {m l : Nat} (h : rdG s = some (m, l)) : rdN s = m ∧ rdL s = l ∧ rdE 8 s = 0 := by unfold rdN rdL rdE; rw [h]; exact ⟨rfl, rfl, rfl⟩
set_option maxHeartbeats 16000000 in
theorem readLine_ok (s : Bytes) (above : List Bool) (hs : s.length ≤ 290000000000000) (hw : above.length ≤ 4000) :
  FnOk Tryz.prog 106 [.str s, .ro (.bools above)] (rlOut s above (rdAll true above s)) (rlRows (rdAll true above s)) := by
 refine FnOk.of_vc Tryz.func106 rfl (by decide) (by simp [Tryz.f106]) [.cell 4 22, .cell 5 3, .tmp 6] rfl fun w0 T0 _ => ?_
 simp only [Tryz.f106, argEnv]
 (repeat' with_reducible first | intro _ | refine rz ?_ | refine ra ?_ ?_ | omega | simp (maxSteps := 9^7) only [go_sem])
 refine VcLoop.intro (fun x : RLx => ⟨140, [(12, .int .i64 ((x.p : Int) - 1)), (11, .fn 146 [.ptr 0 0, .ptr 2 0]), (10, .fn 145 [.ptr 0 0, .ptr 2 0]), (9, .bool x.k), (8, .fn 144 [.ptr 1 0]), (7, .int .i64 above.length), (6, .bool false), (5, .ptr 2 0), (4, .ptr 1 0), (2, .ptr 0 0), (1, .ro (.bools above))], [(0, .box 9 [.str s]), (1, .box 22 [.own 3]), (2, .box 3 [.int .i64 x.n]), (3, .row 4 (.bools (rowR above.length x.R)))], 4⟩) (RLI above s) (fun x => above.length + 1 - x.p) ⟨0, false, 0, []⟩ ?_ (RLI.first above s) fun x hI => ?_
 ·refine Ent.auto0 rfl ?_ ?_ <;> simp only [go_sem, Int.natCast_succ, rowR]
  all_goals first | rfl | omega
 obtain ⟨p, k, n, R⟩ := x
 have hI0 := hI
 obtain ⟨hp, hn, hR, _, _⟩ := hI
 dsimp only at hp hn hR ⊢
 by_cases hlt : p ≤ above.length ∧ 0 < above.length
 rotate_left
 ·obtain ⟨hrd, hRl⟩ := hI0.done hlt
  have hrow : rowR above.length R = R := by unfold rowR; rw [hRl, Nat.sub_self, List.replicate_zero, List.append_nil]
  have kl := line_ok R above (by omega) hRl.symm
  rw [hrd, hrow]
  rw [rlOut_some, rlRows_some]
  generalize lineB R above = lb at *
  by_cases h1 : (p : Int) - 1 < (above.length : Int)
  ·have f1 : ((p : Int) - 1 < (above.length : Int)) = True := eq_true h1
   have f2 : (0 < (above.length : Int)) = False := eq_false (by omega)
   (repeat' with_reducible first | intro _ | refine rz ?_ | refine ra ?_ ?_ | omega | simp (maxSteps := 9^7) only [go_sem, f1, f2])
   refine VcDraw.lex [9, 10] [(1, [1]), (5, [1, 2]), (7, [1, 2]), (8, [1, 2])] (by kernel_rfl) (by kernel_rfl) ?_
   (repeat' with_reducible first | intro _ | refine rz ?_ | refine ra ?_ ?_ | omega | simp (maxSteps := 9^7) only [go_sem])
   (refine QV.intro (.str lb) ?_ ?_; focus ((repeat' with_reducible first | intro _ | refine rz ?_ | refine ra ?_ ?_ | omega | simp (maxSteps := 9^7) only [go_sem]); refine VcCall.k (kl) ?_; (repeat' with_reducible first | intro _ | refine rz ?_ | refine ra ?_ ?_ | omega | simp (maxSteps := 9^7) only [go_sem])))
   (repeat' with_reducible first | intro _ | refine rz ?_ | refine ra ?_ ?_ | omega | simp (maxSteps := 9^7) only [go_sem])
   refine Ret.of [(0, 3)] 1 ?_ rfl ?_ <;> simp only [go_sem, Int.natCast_succ, Post, Nat.sub_zero]
  ·have f1 : ((p : Int) - 1 < (above.length : Int)) = False := eq_false h1
   (repeat' with_reducible first | intro _ | refine rz ?_ | refine ra ?_ ?_ | omega | simp (maxSteps := 9^7) only [go_sem, f1])
   refine VcDraw.lex [9, 10] [(1, [1]), (5, [1, 2]), (7, [1, 2]), (8, [1, 2])] (by kernel_rfl) (by kernel_rfl) ?_
   (repeat' with_reducible first | intro _ | refine rz ?_ | refine ra ?_ ?_ | omega | simp (maxSteps := 9^7) only [go_sem])
   (refine QV.intro (.str lb) ?_ ?_; focus ((repeat' with_reducible first | intro _ | refine rz ?_ | refine ra ?_ ?_ | omega | simp (maxSteps := 9^7) only [go_sem]); refine VcCall.k (kl) ?_; (repeat' with_reducible first | intro _ | refine rz ?_ | refine ra ?_ ?_ | omega | simp (maxSteps := 9^7) only [go_sem])))
   (repeat' with_reducible first | intro _ | refine rz ?_ | refine ra ?_ ?_ | omega | simp (maxSteps := 9^7) only [go_sem])
   refine Ret.of [(0, 3)] 1 ?_ rfl ?_ <;> simp only [go_sem, Int.natCast_succ, Post, Nat.sub_zero]
 obtain ⟨hle, h0⟩ := hlt
 have f1 : ((p : Int) - 1 < (above.length : Int)) = True := eq_true (by omega)
 have f2 : (0 < (above.length : Int)) = True := eq_true (by omega)
 have k3 := changeTo_ok above p ((p : Int) - 1) (!k) rfl (by omega) (by omega)
 obtain ⟨b1, hB1⟩ : ∃ b1, chTo above p (!k) = b1 := ⟨_, rfl⟩
 have hb1 := chTo_ge (r := above) (i := p) hle (!k)
 rw [hB1] at k3 hb1
 have hrl := rowR_len (w := above.length) (R := R) (by omega)
 have hmx : max ((p : Int) - 1) 0 = ((p - 1 : Nat) : Int) := by omega
 (repeat' with_reducible first | intro _ | refine rz ?_ | refine ra ?_ ?_ | omega | simp (maxSteps := 9^7) only [go_sem, f1, f2])
 refine VcCall.k k3 ?_
 (repeat' with_reducible first | intro _ | refine rz ?_ | refine ra ?_ ?_ | omega | simp (maxSteps := 9^7) only [go_sem])
 rcases code_cases (s.drop n) with ⟨c1, c2⟩ | ⟨c1, j, c3, c2, c4, c5⟩ | ⟨c1, c4, hc⟩
 ·have kt := takeY_io s n [48, 48, 48, 49] (by omega) hn (by decide) c1
  obtain ⟨b2, hB2⟩ : ∃ b2, chg above (b1 + 1) = b2 := ⟨_, rfl⟩
  have k4 := change_ok above (b1 + 1) (b1 : Int) (by omega) (by omega) hw
  rw [hB2] at k4
  have b2a : b1 ≤ b2 := by
   by_cases h : b1 < above.length
   ·have := chg_ge (r := above) (i := b1 + 1) (by omega); omega
   ·rw [chg_end (by omega)] at hB2; omega
  have b2b : b2 ≤ above.length := by rw [← hB2]; exact chg_le _ _
  have hst : rdStep true above (s.drop n) p k = some ⟨b2 + 1, k, List.replicate (b2 - (p - 1)) k, 4⟩ := by unfold rdStep; rw [if_pos c2, hB1, hB2]
  obtain ⟨g1, g2⟩ := hI0.step hle h0 hst
  have kf := fill_io (rowR above.length R) (p - 1) ((p : Int) - 1) b2 k hmx (by omega) (by omega) (by omega) (by omega)
  have hrf := rowR_fill (w := above.length) (R := R) (t := b2) k (by omega) b2b
  rw [hR] at hrf
  rw [hrf] at kf
  have f3 : ((b2 : Int) = (p : Int) - 1) = False := eq_false (by omega)
  refine VcCall.i [0, 2] kt 2 ?_
  (repeat' with_reducible first | intro _ | refine rz ?_ | refine ra ?_ ?_ | omega | simp (maxSteps := 9^7) only [go_sem])
  refine VcCall.k k4 ?_
  (repeat' with_reducible first | intro _ | refine rz ?_ | refine ra ?_ ?_ | omega | simp (maxSteps := 9^7) only [go_sem, f3])
  refine VcCall.i [1, 3] kf 2 ?_
  (repeat' with_reducible first | intro _ | refine rz ?_ | refine ra ?_ ?_ | omega | simp (maxSteps := 9^7) only [go_sem])
  refine ⟨⟨b2 + 1, k, n + 4, R ++ List.replicate (b2 - (p - 1)) k⟩, Ent.auto0 rfl ?_ ?_, g1, by dsimp only; omega⟩ <;> simp only [go_sem, Int.natCast_succ]
  all_goals first | rfl | omega | (refine ⟨?_, ?_⟩ <;> first | rfl | omega)
 ·have kt := takeN_io s n [48, 48, 48, 49] (by omega) hn c1
  have ki := idx_io s n (by omega) hn j (by omega) c4 (fun _ => c5)
  rw [if_pos c3, if_pos c3] at ki
  unfold IdxIO at ki
  refine VcCall.i [0, 2] kt 2 ?_
  (repeat' with_reducible first | intro _ | refine rz ?_ | refine ra ?_ ?_ | omega | simp (maxSteps := 9^7) only [go_sem])
  refine VcCall.ro (.ro (.strs nearCs)) (FnFr.of_ok nearCodes_ok rfl (by simp [noRoRows, noRoItem, noRoRow, noRoL, noRo])) (by simp only [noIdR_ok, argOkL, argOk, allOk, argOkN, List.drop_zero, lk, reduceIte, reduceCtorEq, Nat.reduceEqDiff, Option.some.injEq, Item.row.injEq, Item.box.injEq, AV.ro.injEq, exists_eq_left, exists_and_left, exists_eq_left', exists_eq_right, and_assoc, and_true, true_and, List.cons.injEq, exists_eq', exists_eq]) (by simp [outOk, argOkL, allOk, argOk, argOkN, lk, noIdR_ok]) rfl ?_
  (repeat' with_reducible first | intro _ | refine rz ?_ | refine ra ?_ ?_ | omega | simp (maxSteps := 9^7) only [go_sem])
  refine VcCall.i [0, 2] ki 2 ?_
  have f3 : (0 ≤ (j : Int)) = True := eq_true (by omega)
  by_cases hok : p + 3 ≤ b1 + j ∧ b1 + j ≤ above.length + 3
  ·obtain ⟨t, ht⟩ : ∃ t, t + 3 = b1 + j := ⟨b1 + j - 3, by omega⟩
   have hst : rdStep true above (s.drop n) p k = some ⟨t + 1, !k, List.replicate (t - (p - 1)) k, (nearCs.getD j []).length⟩ := by
    unfold rdStep
    rw [c2, if_neg (by omega), if_pos (by omega), hB1, if_pos (by omega), show b1 + (j + 1) - 4 = t by omega, Nat.add_sub_cancel]
   obtain ⟨g1, g2⟩ := hI0.step hle h0 hst
   have kf := fill_io (rowR above.length R) (p - 1) ((p : Int) - 1) t k hmx (by omega) (by omega) (by omega) (by omega)
   have hrf := rowR_fill (w := above.length) (R := R) (t := t) k (by omega) (by omega)
   rw [hR] at hrf
   rw [hrf] at kf
   have hv : (b1 : Int) + (j : Int) - 3 = (t : Int) := by omega
   have f4 : ((t : Int) ≤ (p : Int) - 1) = False := eq_false (by omega)
   have f5 : ((above.length : Int) < (t : Int)) = False := eq_false (by omega)
   (repeat' with_reducible first | intro _ | refine rz ?_ | refine ra ?_ ?_ | omega | simp (maxSteps := 9^7) only [go_sem, f3, hv, f4, f5])
   refine VcCall.i [1, 3] kf 2 ?_
   (repeat' with_reducible first | intro _ | refine rz ?_ | refine ra ?_ ?_ | omega | simp (maxSteps := 9^7) only [go_sem])
   refine ⟨⟨t + 1, !k, n + (nearCs.getD j []).length, R ++ List.replicate (t - (p - 1)) k⟩, Ent.auto0 rfl ?_ ?_, g1, by dsimp only; omega⟩ <;> simp only [go_sem, Int.natCast_succ]
   all_goals first | rfl | omega | (refine ⟨?_, ?_⟩ <;> first | rfl | omega)
  ·have hst : rdStep true above (s.drop n) p k = none := by
    unfold rdStep
    rw [c2, if_neg (by omega), if_pos (by omega), hB1, if_neg (by omega)]
   rw [hI0.fail hle h0 hst, rlOut_none, rlRows_none]
   by_cases h4 : (b1 : Int) + (j : Int) - 3 ≤ (p : Int) - 1
   ·have f4 : ((b1 : Int) + (j : Int) - 3 ≤ (p : Int) - 1) = True := eq_true h4
    (repeat' with_reducible first | intro _ | refine rz ?_ | refine ra ?_ ?_ | omega | simp (maxSteps := 9^7) only [go_sem, f3, f4])
    refine Ret.auto 0 ?_ rfl ?_ <;> simp only [go_sem, Int.natCast_succ, Post]
   ·have f4 : ((b1 : Int) + (j : Int) - 3 ≤ (p : Int) - 1) = False := eq_false h4
    have f5 : ((above.length : Int) < (b1 : Int) + (j : Int) - 3) = True := eq_true (by omega)
    (repeat' with_reducible first | intro _ | refine rz ?_ | refine ra ?_ ?_ | omega | simp (maxSteps := 9^7) only [go_sem, f3, f4, f5])
    refine Ret.auto 0 ?_ rfl ?_ <;> simp only [go_sem, Int.natCast_succ, Post]
 have kt := takeN_io s n [48, 48, 48, 49] (by omega) hn c1
 have ki := idx_io s n (by omega) hn 7 (by omega) c4 (fun h => absurd h (by decide))
 rw [if_neg (by decide), if_neg (by decide), Nat.add_zero] at ki
 unfold IdxIO at ki
 refine VcCall.i [0, 2] kt 2 ?_
 (repeat' with_reducible first | intro _ | refine rz ?_ | refine ra ?_ ?_ | omega | simp (maxSteps := 9^7) only [go_sem])
 refine VcCall.ro (.ro (.strs nearCs)) (FnFr.of_ok nearCodes_ok rfl (by simp [noRoRows, noRoItem, noRoRow, noRoL, noRo])) (by simp only [noIdR_ok, argOkL, argOk, allOk, argOkN, List.drop_zero, lk, reduceIte, reduceCtorEq, Nat.reduceEqDiff, Option.some.injEq, Item.row.injEq, Item.box.injEq, AV.ro.injEq, exists_eq_left, exists_and_left, exists_eq_left', exists_eq_right, and_assoc, and_true, true_and, List.cons.injEq, exists_eq', exists_eq]) (by simp [outOk, argOkL, allOk, argOk, argOkN, lk, noIdR_ok]) rfl ?_
 (repeat' with_reducible first | intro _ | refine rz ?_ | refine ra ?_ ?_ | omega | simp (maxSteps := 9^7) only [go_sem])
 refine VcCall.i [0, 2] ki 2 ?_
 (repeat' with_reducible first | intro _ | refine rz ?_ | refine ra ?_ ?_ | omega | simp (maxSteps := 9^7) only [go_sem])
 rcases hc with ⟨c5, c2⟩ | ⟨c5, c2⟩
 rotate_left
 ·have kt2 := takeN_io s n [48, 48, 49] (by omega) hn c5
  have hst : rdStep true above (s.drop n) p k = none := by
   unfold rdStep
   rw [c2, if_neg (by decide), if_neg (by decide), if_neg (by decide)]
  rw [hI0.fail hle h0 hst, rlOut_none, rlRows_none]
  refine VcCall.i [0, 2] kt2 2 ?_
  (repeat' with_reducible first | intro _ | refine rz ?_ | refine ra ?_ ?_ | omega | simp (maxSteps := 9^7) only [go_sem])
  refine Ret.auto 0 ?_ rfl ?_ <;> simp only [go_sem, Int.natCast_succ, Post]
 have h3 := (codeOf_len (s := s.drop n) (by omega)).2.1 c2
 rw [List.length_drop] at h3
 have kt2 := takeY_io s n [48, 48, 49] (by omega) hn (by decide) c5
 have e3 : (s.drop n).drop 3 = s.drop (n + 3) := List.drop_drop
 have hst0 : rdStep true above (s.drop n) p k = farOf true above.length (s.drop n) p k := by
  unfold rdStep
  rw [c2, if_neg (by decide), if_neg (by decide), if_pos rfl]
 have kn := number_io s (n + 3) (by omega) (by omega)
 refine VcCall.i [0, 2] kt2 2 ?_
 (repeat' with_reducible first | intro _ | refine rz ?_ | refine ra ?_ ?_ | omega | simp (maxSteps := 9^7) only [go_sem])
 cases hg1 : rdG (s.drop (n + 3)) with
 | none =>
  obtain ⟨r1, r2, r3⟩ := rdE_none hg1
  rw [r1, r2, r3] at kn
  have hst : rdStep true above (s.drop n) p k = none := by rw [hst0]; unfold farOf; rw [e3, hg1]
  rw [hI0.fail hle h0 hst, rlOut_none, rlRows_none]
  refine VcCall.i [0, 2] kn 2 ?_
  (repeat' with_reducible first | intro _ | refine rz ?_ | refine ra ?_ ?_ | omega | simp (maxSteps := 9^7) only [go_sem])
  refine Ret.auto 0 ?_ rfl ?_ <;> simp only [go_sem, Int.natCast_succ, Post]
 | some z1 =>
 obtain ⟨m1, l1⟩ := z1
 obtain ⟨r1, r2, r3⟩ := rdE_some hg1
 rw [r1, r2, r3, show ((n + 3 : Nat) : Int) + (l1 : Int) = ((n + 3 + l1 : Nat) : Int) by omega] at kn
 obtain ⟨w1, w2, w3⟩ := rdG_len hg1
 have w4 := rdG_most hg1
 rw [List.length_drop] at w1
 have kn2 := number_io s (n + 3 + l1) (by omega) (by omega)
 have e4 : (s.drop n).drop (3 + l1) = s.drop (n + 3 + l1) := by rw [List.drop_drop, Nat.add_assoc]
 have hv1 : ((p - 1 : Nat) : Int) + ((m1 : Int) - 1) = ((p - 1 + (m1 - 1) : Nat) : Int) := by omega
 refine VcCall.i [0, 2] kn 2 ?_
 (repeat' with_reducible first | intro _ | refine rz ?_ | refine ra ?_ ?_ | omega | simp (maxSteps := 9^7) only [go_sem])
 cases hg2 : rdG (s.drop (n + 3 + l1)) with
 | none =>
  obtain ⟨r1, r2, r3⟩ := rdE_none hg2
  rw [r1, r2, r3] at kn2
  have hst : rdStep true above (s.drop n) p k = none := by rw [hst0]; unfold farOf; rw [e3, hg1]; dsimp only; rw [e4, hg2]
  rw [hI0.fail hle h0 hst, rlOut_none, rlRows_none]
  refine VcCall.i [0, 2] kn2 2 ?_
  (repeat' with_reducible first | intro _ | refine rz ?_ | refine ra ?_ ?_ | omega | simp (maxSteps := 9^7) only [go_sem, hmx])
  refine Ret.auto 0 ?_ rfl ?_ <;> simp only [go_sem, Int.natCast_succ, Post]
 | some z2 =>
 obtain ⟨m2, l2⟩ := z2
 obtain ⟨r1, r2, r3⟩ := rdE_some hg2
 rw [r1, r2, r3, show ((n + 3 + l1 : Nat) : Int) + (l2 : Int) = ((n + 3 + l1 + l2 : Nat) : Int) by omega] at kn2
 obtain ⟨w5, w6, w7⟩ := rdG_len hg2
 have w8 := rdG_most hg2
 rw [List.length_drop] at w5
 obtain ⟨A1, hA1⟩ : ∃ A1, p - 1 + (m1 - 1) = A1 := ⟨_, rfl⟩
 obtain ⟨A2, hA2⟩ : ∃ A2, A1 + (m2 - 1) = A2 := ⟨_, rfl⟩
 rw [hA1] at hv1
 have hv2 : (A1 : Int) + ((m2 : Int) - 1) = (A2 : Int) := by omega
 have hstf : rdStep true above (s.drop n) p k = if (true = true → p ≤ A1) ∧ A2 ≤ above.length ∧ p ≤ A2 then some ⟨A2 + 1, k, List.replicate (m1 - 1) k ++ List.replicate (m2 - 1) (!k), 3 + l1 + l2⟩ else none := by
  rw [hst0]; unfold farOf; rw [e3, hg1]; dsimp only; rw [e4, hg2]; dsimp only; rw [hA1, hA2]
 refine VcCall.i [0, 2] kn2 2 ?_
 by_cases hok : p ≤ A1 ∧ A2 ≤ above.length ∧ p ≤ A2
 ·have hst := hstf
  rw [if_pos ⟨fun _ => hok.1, hok.2⟩] at hst
  obtain ⟨g1, g2⟩ := hI0.step hle h0 hst
  have kf := fill_io (rowR above.length R) (p - 1) ((p : Int) - 1) A1 k hmx (by omega) (by omega) (by omega) (by omega)
  have hrf := rowR_fill (w := above.length) (R := R) (t := A1) k (by omega) (by omega)
  rw [hR, show A1 - (p - 1) = m1 - 1 by omega] at hrf
  rw [hrf] at kf
  have hRl : (R ++ List.replicate (m1 - 1) k).length = A1 := by rw [List.length_append, List.length_replicate]; omega
  have hrl2 := rowR_len (w := above.length) (R := R ++ List.replicate (m1 - 1) k) (by omega)
  have kf2 := fill_io (rowR above.length (R ++ List.replicate (m1 - 1) k)) A1 (A1 : Int) A2 (!k) (by omega) (by omega) (by omega) (by omega) (by omega)
  have hrf2 := rowR_fill (w := above.length) (R := R ++ List.replicate (m1 - 1) k) (t := A2) (!k) (by omega) (by omega)
  rw [hRl, show A2 - A1 = m2 - 1 by omega, List.append_assoc] at hrf2
  rw [hrf2] at kf2
  have f4 : ((p : Int) - 1 < (A1 : Int)) = True := eq_true (by omega)
  have f5 : ((A2 : Int) ≤ (above.length : Int)) = True := eq_true (by omega)
  have f6 : ((p : Int) - 1 < (A2 : Int)) = True := eq_true (by omega)
  (repeat' with_reducible first | intro _ | refine rz ?_ | refine ra ?_ ?_ | omega | simp (maxSteps := 9^7) only [go_sem, hmx, hv1, hv2, f4, f5, f6])
  refine VcCall.i [1, 3] kf 2 ?_
  (repeat' with_reducible first | intro _ | refine rz ?_ | refine ra ?_ ?_ | omega | simp (maxSteps := 9^7) only [go_sem])
  refine VcCall.i [1, 3] kf2 2 ?_
  (repeat' with_reducible first | intro _ | refine rz ?_ | refine ra ?_ ?_ | omega | simp (maxSteps := 9^7) only [go_sem])
  refine ⟨⟨A2 + 1, k, n + (3 + l1 + l2), R ++ (List.replicate (m1 - 1) k ++ List.replicate (m2 - 1) (!k))⟩, Ent.auto0 rfl ?_ ?_, g1, by dsimp only; omega⟩ <;> simp only [go_sem, Int.natCast_succ]
  all_goals first | rfl | omega | (refine ⟨?_, ?_⟩ <;> first | rfl | omega)
 ·have hst := hstf
  rw [if_neg (fun h => hok ⟨h.1 rfl, h.2⟩)] at hst
  rw [hI0.fail hle h0 hst, rlOut_none, rlRows_none]
  by_cases h4 : (p : Int) - 1 < (A1 : Int)
  ·have f4 : ((p : Int) - 1 < (A1 : Int)) = True := eq_true h4
   by_cases h5 : (A2 : Int) ≤ (above.length : Int)
   ·have f5 : ((A2 : Int) ≤ (above.length : Int)) = True := eq_true h5
    exact absurd ⟨by omega, by omega, by omega⟩ hok
   ·have f5 : ((A2 : Int) ≤ (above.length : Int)) = False := eq_false h5
    (repeat' with_reducible first | intro _ | refine rz ?_ | refine ra ?_ ?_ | omega | simp (maxSteps := 9^7) only [go_sem, hmx, hv1, hv2, f4, f5])
    refine Ret.auto 0 ?_ rfl ?_ <;> simp only [go_sem, Int.natCast_succ, Post]
  ·have f4 : ((p : Int) - 1 < (A1 : Int)) = False := eq_false h4
   (repeat' with_reducible first | intro _ | refine rz ?_ | refine ra ?_ ?_ | omega | simp (maxSteps := 9^7) only [go_sem, hmx, hv1, hv2, f4])
   refine Ret.auto 0 ?_ rfl ?_ <;> simp only [go_sem, Int.natCast_succ, Post]
end Go.Fv.H
/- shrink.pageOf: the walk, kind by kind. -/
namespace Go.Fv.H
open Go Go.Proofs
set_option linter.unusedSimpArgs false
set_option linter.unusedVariables false
set_option linter.unnecessarySimpa false
set_option maxRecDepth 8000
set_option maxHeartbeats 4000000 in
theorem pageOf4_ok (w h : Nat) (hw0 : 0 < w) (hw : w ≤ 4000) (hh : h ≤ 4000) (hwh : w * h ≤ 1048576) (d : Bytes) (hd : d.length ≤ 100000000) :
  FnOk Tryz.prog 68 [.str d, .int .i64 4, .int .i64 w, .int .i64 h] (.tup [.agg [.int .i64 w, .int .i64 h, .own 0], .bool true]) [(0, .row 4 (.bools (adAt w h d (w * h) (w * h)).P))] := by
 have k := fromAdaptive_ok w h hw0 hw hh hwh d (by omega)
 refine FnOk.of_vc Tryz.func68 rfl (by decide) (by simp [Tryz.f68]) [.cell 8 24, .tmp 9] rfl fun w0 T0 _ => ?_
 simp only [Tryz.f68, argEnv]
 (repeat' with_reducible first | intro _ | refine rz ?_ | refine ra ?_ ?_ | omega | simp (maxSteps := 9^7) only [go_sem])
 refine VcCall.o k 1 ?_
 (repeat' with_reducible first | intro _ | refine rz ?_ | refine ra ?_ ?_ | omega | simp (maxSteps := 9^7) only [go_sem])
 refine Ret.auto 1 ?_ rfl ?_ <;> simp only [go_sem, Int.natCast_succ, Post]
theorem upB_len (d : Bytes) : (upB d).length = 8 * d.length := by unfold upB; simp
theorem plPix_len (s : Bytes) : (plPix s).length = s.length := by unfold plPix; simp
theorem plPix_succ {s : Bytes} {i : Nat} (h : i < s.length) : plPix (s.take (i + 1)) = plPix (s.take i) ++ [decide (((s.getD i 0).toNat : Int) = 49)] := by
 unfold plPix
 rw [List.take_succ_eq_append_getElem h, List.map_append, List.map_cons, List.map_nil, getD_lt h]
 congr 2
 have : (s[i] = 49) ↔ ((s[i].toNat : Int) = 49) := by
  constructor
  ·intro e; rw [e]; rfl
  ·intro e
   have h49 : s[i].toNat = 49 := by omega
   exact UInt8.toNat_inj.1 h49
 exact decide_eq_decide.2 this
set_option maxHeartbeats 4000000 in
theorem pageOf1_no (w h : Nat) (hw0 : 0 < w) (hw : w ≤ 4000) (hh : h ≤ 4000) (hwh : w * h ≤ 1048576) (d : Bytes) (hd : d.length ≤ 100000000) (hs : (upB d).length < w * h) :
  FnOk Tryz.prog 68 [.str d, .int .i64 1, .int .i64 w, .int .i64 h] (.tup [.agg [.int .i64 w, .int .i64 h, .nilS], .bool false]) [] := by
 have e1 : (w : Int) * (h : Int) = ((w * h : Nat) : Int) := (Int.natCast_mul w h).symm
 have k := unpacked_ok d (by omega)
 have f1 : (((upB d).length : Int) < ((w * h : Nat) : Int)) = True := eq_true (by omega)
 generalize upB d = s at *
 obtain ⟨n, hn⟩ : ∃ n, w * h = n := ⟨_, rfl⟩
 rw [hn] at e1 f1 hs
 refine FnOk.of_vc Tryz.func68 rfl (by decide) (by simp [Tryz.f68]) [.cell 8 24, .tmp 9] rfl fun w0 T0 _ => ?_
 simp only [Tryz.f68, argEnv]
 (repeat' with_reducible first | intro _ | refine rz ?_ | refine ra ?_ ?_ | omega | simp (maxSteps := 9^7) only [go_sem])
 refine VcCall.k k ?_
 (repeat' with_reducible first | intro _ | refine rz ?_ | refine ra ?_ ?_ | omega | simp (maxSteps := 9^7) only [go_sem, e1, f1])
 refine Ret.auto 0 ?_ rfl ?_ <;> simp only [go_sem, Int.natCast_succ, Post]
set_option maxHeartbeats 4000000 in
theorem pageOf1_ok (w h : Nat) (hw0 : 0 < w) (hw : w ≤ 4000) (hh : h ≤ 4000) (hwh : w * h ≤ 1048576) (d : Bytes) (hd : d.length ≤ 100000000) (hs : w * h ≤ (upB d).length) :
  FnOk Tryz.prog 68 [.str d, .int .i64 1, .int .i64 w, .int .i64 h] (.tup [.agg [.int .i64 w, .int .i64 h, .own 0], .bool true]) [(0, .row 4 (.bools (plPix ((upB d).take (w * h)))))] := by
 have e1 : (w : Int) * (h : Int) = ((w * h : Nat) : Int) := (Int.natCast_mul w h).symm
 have k := unpacked_ok d (by omega)
 have f1 : (((upB d).length : Int) < ((w * h : Nat) : Int)) = False := eq_false (by omega)
 have hl := upB_len d
 generalize upB d = s at *
 obtain ⟨n, hn⟩ : ∃ n, w * h = n := ⟨_, rfl⟩
 rw [hn] at e1 f1 hs hwh ⊢
 refine FnOk.of_vc Tryz.func68 rfl (by decide) (by simp [Tryz.f68]) [.cell 8 24, .tmp 9] rfl fun w0 T0 _ => ?_
 simp only [Tryz.f68, argEnv]
 (repeat' with_reducible first | intro _ | refine rz ?_ | refine ra ?_ ?_ | omega | simp (maxSteps := 9^7) only [go_sem])
 refine VcCall.k k ?_
 (repeat' with_reducible first | intro _ | refine rz ?_ | refine ra ?_ ?_ | omega | simp (maxSteps := 9^7) only [go_sem, e1, f1])
 refine VcLoop.intro (fun i : Nat => ⟨135, [(71, .int .i64 i), (70, .int .i64 n), (11, .str s), (10, .ptr 1 0), (8, .ptr 0 0)], [(0, .box 24 [.int .i64 0, .int .i64 0, .nilS]), (1, .box 24 [.int .i64 w, .int .i64 h, .own 2]), (2, .row 4 (.bools (plPix (s.take i))))], 3⟩) (fun i => i ≤ n) (fun i => n - i) 0 ?_ (Nat.zero_le _) fun i hi => ?_
 ·refine Ent.trans (Ent.nilBox (P := Tryz.prog) 1 2 4 e4 rfl rfl) (Ent.auto0 rfl ?_ ?_) <;> simp only [go_sem, Int.natCast_succ, put, plPix, List.map_nil]
 by_cases hlt : i < n
 ·have f2 : ((i : Int) < (n : Int)) = True := eq_true (by omega)
  have hsu := plPix_succ (s := s) (i := i) (by omega)
  have hpl := plPix_len (s.take i)
  rw [List.length_take] at hpl
  (repeat' with_reducible first | intro _ | refine rz ?_ | refine ra ?_ ?_ | omega | simp (maxSteps := 9^7) only [go_sem, f2])
  refine VcDraw.lex [6, 7, 9] [(0, [1]), (1, [1])] (by kernel_rfl) (by kernel_rfl) ?_
  (repeat' with_reducible first | intro _ | refine rz ?_ | refine ra ?_ ?_ | omega | simp (maxSteps := 9^7) only [go_sem, hpl])
  refine ⟨i + 1, Ent.auto0 rfl ?_ ?_, by omega, by omega⟩ <;> simp only [go_sem, Int.natCast_succ, hsu]
  all_goals first | rfl | trace_state
 ·have f2 : ((i : Int) < (n : Int)) = False := eq_false (by omega)
  have e : i = n := by omega
  subst e
  (repeat' with_reducible first | intro _ | refine rz ?_ | refine ra ?_ ?_ | omega | simp (maxSteps := 9^7) only [go_sem, f2])
  refine Ret.of [(0, 2)] 1 ?_ (by rfl) ?_ <;> simp only [go_sem, Int.natCast_succ, Post]
end Go.Fv.H
/- shrink.pageOf at runs: the walk. -/
namespace Go.Fv.H
open Go Go.Proofs
set_option linter.unusedSimpArgs false
set_option linter.unusedVariables false
set_option linter.unnecessarySimpa false
set_option maxRecDepth 8000
structure RnSt where
 (y : Nat) (s : Bytes) (acc : List Bool)
structure RnIn where
 (n : Nat) (ink : Bool) (s : Bytes) (acc : List Bool)
set_option maxHeartbeats 16000000 in
theorem pageOf2_ok (w h : Nat) (hw0 : 0 < w) (hw : w ≤ 4000) (hh : h ≤ 4000) (hwh : w * h ≤ 1048576) (d : Bytes) (hd : d.length ≤ 100000000) :
  FnOk Tryz.prog 68 [.str d, .int .i64 2, .int .i64 w, .int .i64 h] (.tup [.agg [.int .i64 w, .int .i64 h, .own 0], .bool (rnPage w h (upB d)).2]) [(0, .row 4 (.bools (rnPage w h (upB d)).1))] := by
 have k := unpacked_ok d (by omega)
 have hl := upB_len d
 generalize upB d = s at *
 obtain ⟨R, hR⟩ : ∃ R, rnPage w h s = R := ⟨_, rfl⟩
 rw [hR]
 refine FnOk.of_vc Tryz.func68 rfl (by decide) (by simp [Tryz.f68]) [.cell 8 24, .tmp 9] rfl fun w0 T0 _ => ?_
 simp only [Tryz.f68, argEnv]
 (repeat' with_reducible first | intro _ | refine rz ?_ | refine ra ?_ ?_ | omega | simp (maxSteps := 9^7) only [go_sem])
 refine VcCall.k k ?_
 (repeat' with_reducible first | intro _ | refine rz ?_ | refine ra ?_ ?_ | omega | simp (maxSteps := 9^7) only [go_sem])
 refine VcLoop.intro (fun x : RnSt => ⟨135, [(87, .int .i64 x.y), (86, .int .i64 h), (11, .str x.s), (10, .ptr 1 0), (8, .ptr 0 0), (2, .int .i64 w), (3, .int .i64 h)], [(0, .box 24 [.int .i64 0, .int .i64 0, .nilS]), (1, .box 24 [.int .i64 w, .int .i64 h, .own 2]), (2, .row 4 (.bools x.acc))], 3⟩) (fun x => x.y ≤ h ∧ x.s.length ≤ s.length ∧ x.acc.length = x.y * w ∧ R = (x.acc ++ (rnPage w (h - x.y) x.s).1, (rnPage w (h - x.y) x.s).2)) (fun x => h - x.y) ⟨0, s, []⟩ ?_ ⟨Nat.zero_le _, Nat.le_refl _, (Nat.zero_mul w).symm, hR.symm⟩ fun x hx => ?_
 ·refine Ent.trans (Ent.nilBox (P := Tryz.prog) 1 2 4 e4 rfl rfl) (Ent.auto0 rfl ?_ ?_) <;> simp only [go_sem, Int.natCast_succ, put]
 obtain ⟨y, t, acc⟩ := x
 obtain ⟨hy, ht, hacc, hRx⟩ := hx
 dsimp only at hy ht hacc hRx ⊢
 by_cases hlt : y < h
 rotate_left
 ·have f1 : ((y : Int) < (h : Int)) = False := eq_false (by omega)
  have e : y = h := by omega
  subst e
  rw [Nat.sub_self] at hRx
  have hR2 : R = (acc, true) := by rw [hRx]; show (acc ++ [], true) = _; rw [List.append_nil]
  rw [hR2]
  (repeat' with_reducible first | intro _ | refine rz ?_ | refine ra ?_ ?_ | omega | simp (maxSteps := 9^7) only [go_sem, f1])
  refine Ret.of [(0, 2)] 1 ?_ (by rfl) ?_ <;> simp only [go_sem, Int.natCast_succ, Post]
 have f1 : ((y : Int) < (h : Int)) = True := eq_true (by omega)
 have hk : h - y = (h - (y + 1)) + 1 := by omega
 rw [hk] at hRx
 have hRq : R = (acc ++ (rnCont (rnPage w (h - (y + 1))) (rnRow w 0 false t)).1, (rnCont (rnPage w (h - (y + 1))) (rnRow w 0 false t)).2) := hRx
 clear hRx
 obtain ⟨F, hF⟩ : ∃ F, rnPage w (h - (y + 1)) = F := ⟨_, rfl⟩
 rw [hF] at hRq
 have hyw : y * w + w ≤ 1048576 := by
  have h1 : y * w + w ≤ h * w := by rw [← Nat.succ_mul]; exact Nat.mul_le_mul_right _ hlt
  have h2 : h * w = w * h := Nat.mul_comm _ _
  omega
 generalize hyv : y * w = yw at *
 (repeat' with_reducible first | intro _ | refine rz ?_ | refine ra ?_ ?_ | omega | simp (maxSteps := 9^7) only [go_sem, f1])
 refine VcLoop.intro (fun x : RnIn => ⟨135, [(13, .int .i64 x.n), (14, .bool x.ink), (87, .int .i64 y), (86, .int .i64 h), (11, .str x.s), (10, .ptr 1 0), (8, .ptr 0 0), (2, .int .i64 w), (3, .int .i64 h)], [(0, .box 24 [.int .i64 0, .int .i64 0, .nilS]), (1, .box 24 [.int .i64 w, .int .i64 h, .own 2]), (2, .row 4 (.bools x.acc))], 3⟩) (fun x => x.n ≤ w ∧ x.s.length ≤ s.length ∧ x.acc.length = yw + x.n ∧ R = (x.acc ++ (rnCont F (rnRow w x.n x.ink x.s)).1, (rnCont F (rnRow w x.n x.ink x.s)).2)) (fun x => x.s.length) ⟨0, false, t, acc⟩ ?_ ⟨Nat.zero_le _, ht, by dsimp only; omega, hRq⟩ fun x hx => ?_
 ·refine Ent.auto0 rfl ?_ ?_ <;> simp only [go_sem, Int.natCast_succ]
  all_goals first | rfl | exact ⟨rfl, rfl⟩ | trace_state
 clear hRq
 obtain ⟨n, ink, u, ac⟩ := x
 obtain ⟨hn, hu, hac, hRu⟩ := hx
 dsimp only at hn hu hac hRu ⊢
 by_cases hnw : n < w
 rotate_left
 ·have f2 : ((n : Int) < (w : Int)) = False := eq_false (by omega)
  have e : n = w := by omega
  rw [rnRow_end hnw] at hRu
  have hR3 : R = (ac ++ (F u).1, (F u).2) := hRu
  (repeat' with_reducible first | intro _ | refine rz ?_ | refine ra ?_ ?_ | omega | simp (maxSteps := 9^7) only [go_sem, f2])
  refine ⟨⟨y + 1, u, ac⟩, Ent.auto0 rfl ?_ ?_, ⟨by dsimp only; omega, hu, by dsimp only; rw [Nat.succ_mul]; omega, by dsimp only; rw [hF]; exact hR3⟩, by dsimp only; omega⟩ <;> simp only [go_sem, Int.natCast_succ]
  all_goals first | rfl | omega | trace_state
 have f2 : ((n : Int) < (w : Int)) = True := eq_true (by omega)
 have hg : rdG (u.take 64) = rdG u := rdG_take u 64 (Nat.le_refl _)
 have g1 : rdN (u.take 64) = rdN u := by unfold rdN; rw [hg]
 have g2 : rdL (u.take 64) = rdL u := by unfold rdL; rw [hg]
 have g3 : rdE 8 (u.take 64) = rdE 8 u := by unfold rdE; rw [hg]
 have kg := readG_ok (u.take 64) (by rw [List.length_take]; omega)
 rw [g1, g2, g3] at kg
 have hm : min (u.length : Int) 64 = ((min u.length 64 : Nat) : Int) := by omega
 have htk : u.take (min u.length 64) = u.take 64 := by rw [List.take_eq_take_iff]; omega
 have hml : min u.length 64 ≤ u.length := by omega
 generalize min u.length 64 = mm at *
 cases hrd : rdG u with
 | none =>
  obtain ⟨r1, r2, r3⟩ := rdE_none hrd
  rw [r1, r2, r3] at kg
  rw [rnRow_none hnw ink hrd] at hRu
  have hR3 : R = (ac, false) := by rw [hRu]; show (ac ++ [], false) = _; rw [List.append_nil]
  rw [hR3]
  (repeat' with_reducible first | intro _ | refine rz ?_ | refine ra ?_ ?_ | omega | simp (maxSteps := 9^7) only [go_sem, f2, hm, Nat.sub_zero, htk])
  refine VcCall.k kg ?_
  (repeat' with_reducible first | intro _ | refine rz ?_ | refine ra ?_ ?_ | omega | simp (maxSteps := 9^7) only [go_sem])
  refine Ret.of [(0, 2)] 1 ?_ (by rfl) ?_ <;> simp only [go_sem, Int.natCast_succ, Post]
 | some z =>
  obtain ⟨m, l⟩ := z
  obtain ⟨r1, r2, r3⟩ := rdE_some hrd
  rw [r1, r2, r3] at kg
  obtain ⟨q1, q2⟩ := rdG_pos hrd
  obtain ⟨q3, q4, q5⟩ := rdG_len hrd
  have hmI : (m : Int) - 1 = ((m - 1 : Nat) : Int) := by omega
  by_cases hov : w - n < m - 1
  ·rw [rnRow_over hnw ink hrd hov] at hRu
   have hR3 : R = (ac, false) := by rw [hRu]; show (ac ++ [], false) = _; rw [List.append_nil]
   rw [hR3]
   have f3 : ((w : Int) - (n : Int) < ((m - 1 : Nat) : Int)) = True := eq_true (by omega)
   (repeat' with_reducible first | intro _ | refine rz ?_ | refine ra ?_ ?_ | omega | simp (maxSteps := 9^7) only [go_sem, f2, hm, Nat.sub_zero, htk])
   refine VcCall.k kg ?_
   (repeat' with_reducible first | intro _ | refine rz ?_ | refine ra ?_ ?_ | omega | simp (maxSteps := 9^7) only [go_sem, hmI, f3])
   refine Ret.of [(0, 2)] 1 ?_ (by rfl) ?_ <;> simp only [go_sem, Int.natCast_succ, Post]
  rw [rnRow_some hnw ink hrd hov] at hRu
  have hR3 : R = (ac ++ List.replicate (m - 1) ink ++ (rnCont F (rnRow w (n + (m - 1)) (!ink) (u.drop l))).1, (rnCont F (rnRow w (n + (m - 1)) (!ink) (u.drop l))).2) := by
   rw [hRu]
   generalize rnRow w (n + (m - 1)) (!ink) (u.drop l) = q
   obtain ⟨q1, q2⟩ := q
   cases q2 with
   | none => show (ac ++ (List.replicate (m - 1) ink ++ q1), false) = (ac ++ List.replicate (m - 1) ink ++ q1, false); rw [List.append_assoc]
   | some v => show (ac ++ (List.replicate (m - 1) ink ++ q1 ++ (F v).1), (F v).2) = (ac ++ List.replicate (m - 1) ink ++ (q1 ++ (F v).1), (F v).2); rw [List.append_assoc, List.append_assoc]
  have f3 : ((w : Int) - (n : Int) < ((m - 1 : Nat) : Int)) = False := eq_false (by omega)
  have htl : (u.drop l).take (u.length - l) = u.drop l := List.take_of_length_le (by rw [List.length_drop]; exact Nat.le_refl _)
  have hdl : (u.drop l).length = u.length - l := List.length_drop
  obtain ⟨u2, hu2⟩ : ∃ u2, u.drop l = u2 := ⟨_, rfl⟩
  rw [hu2] at hR3 hdl
  rw [hu2] at htl
  have htl2 : (u.drop l).take (u.length - l) = u2 := by rw [hu2]; exact htl
  (repeat' with_reducible first | intro _ | refine rz ?_ | refine ra ?_ ?_ | omega | simp (maxSteps := 9^7) only [go_sem, f2, hm, Nat.sub_zero, htk])
  refine VcCall.k kg ?_
  (repeat' with_reducible first | intro _ | refine rz ?_ | refine ra ?_ ?_ | omega | simp (maxSteps := 9^7) only [go_sem, hmI, f3, htl2])
  refine VcLoop.intro (fun j : Nat => ⟨135, [(118, .int .i64 j), (117, .int .i64 (m - 1 : Nat)), (15, .int .i64 m), (13, .int .i64 n), (14, .bool ink), (87, .int .i64 y), (86, .int .i64 h), (11, .str u2), (10, .ptr 1 0), (8, .ptr 0 0), (2, .int .i64 w), (3, .int .i64 h)], [(0, .box 24 [.int .i64 0, .int .i64 0, .nilS]), (1, .box 24 [.int .i64 w, .int .i64 h, .own 2]), (2, .row 4 (.bools (ac ++ List.replicate j ink)))], 3⟩) (fun j => j ≤ m - 1) (fun j => m - 1 - j) 0 ?_ (Nat.zero_le _) fun j hj => ?_
  ·refine Ent.auto0 rfl ?_ ?_ <;> simp only [go_sem, Int.natCast_succ]
   all_goals first | rfl | exact ⟨rfl, rfl⟩ | trace_state
  by_cases hjl : j < m - 1
  ·have f4 : ((j : Int) < ((m - 1 : Nat) : Int)) = True := eq_true (by omega)
   have hrs : ac ++ List.replicate j ink ++ [ink] = ac ++ List.replicate (j + 1) ink := by rw [List.append_assoc, List.replicate_succ']
   have hrl : (ac ++ List.replicate j ink).length = ac.length + j := by rw [List.length_append, List.length_replicate]
   (repeat' with_reducible first | intro _ | refine rz ?_ | refine ra ?_ ?_ | omega | simp (maxSteps := 9^7) only [go_sem, f4, hrl])
   refine ⟨j + 1, Ent.auto0 rfl ?_ ?_, by omega, by omega⟩ <;> simp only [go_sem, Int.natCast_succ, hrs]
   all_goals first | rfl | trace_state
  ·have f4 : ((j : Int) < ((m - 1 : Nat) : Int)) = False := eq_false (by omega)
   have e : j = m - 1 := by omega
   subst e
   have hnn : (n : Int) + ((m - 1 : Nat) : Int) = ((n + (m - 1) : Nat) : Int) := by omega
   (repeat' with_reducible first | intro _ | refine rz ?_ | refine ra ?_ ?_ | omega | simp (maxSteps := 9^7) only [go_sem, f4, hmI, hnn])
   refine ⟨⟨n + (m - 1), !ink, u2, ac ++ List.replicate (m - 1) ink⟩, Ent.auto0 rfl ?_ ?_, ⟨by dsimp only; omega, by dsimp only; omega, by dsimp only; rw [List.length_append, List.length_replicate]; omega, hR3⟩, by dsimp only; omega⟩ <;> simp only [go_sem, Int.natCast_succ]
   all_goals first | rfl | omega | exact ⟨rfl, rfl⟩ | trace_state
end Go.Fv.H
/- shrink.pageOf at lines: the walk. -/
namespace Go.Fv.H
open Go Go.Proofs
set_option linter.unusedSimpArgs false
set_option linter.unusedVariables false
set_option linter.unnecessarySimpa false
set_option maxRecDepth 8000
structure LnSt where
 (y : Nat) (ab : List Bool) (s : Bytes) (acc : List Bool)
theorem lnPage_none {k : Nat} {ab : List Bool} {s : Bytes} (h : rdLine true ab s = none) : lnPage (k + 1) ab s = ([], false) := by
 show (match rdLine true ab s with | none => _ | some (r, n) => _) = _
 rw [h]
theorem lnPage_some {k : Nat} {ab r : List Bool} {s : Bytes} {n : Nat} (h : rdLine true ab s = some (r, n)) : lnPage (k + 1) ab s = (r ++ (lnPage k r (s.drop n)).1, (lnPage k r (s.drop n)).2) := by
 show (match rdLine true ab s with | none => _ | some (r, n) => _) = _
 rw [h]
theorem rdLine_all {ab : List Bool} {s : Bytes} : rdLine true ab s = match rdAll true ab s with | none => none | some (l, n) => if lineB l ab = s.take n then some (l, n) else none := rfl
set_option maxHeartbeats 16000000 in
theorem pageOf3_ok (w h : Nat) (hw0 : 0 < w) (hw : w ≤ 4000) (hh : h ≤ 4000) (hwh : w * h ≤ 1048576) (d : Bytes) (hd : d.length ≤ 100000000) :
  FnOk Tryz.prog 68 [.str d, .int .i64 3, .int .i64 w, .int .i64 h] (.tup [.agg [.int .i64 w, .int .i64 h, .own 0], .bool (lnPage h (List.replicate w false) (upB d)).2]) [(0, .row 4 (.bools (lnPage h (List.replicate w false) (upB d)).1))] := by
 have k := unpacked_ok d (by omega)
 have hl := upB_len d
 generalize upB d = s at *
 obtain ⟨R, hR⟩ : ∃ R, lnPage h (List.replicate w false) s = R := ⟨_, rfl⟩
 rw [hR]
 refine FnOk.of_vc Tryz.func68 rfl (by decide) (by simp [Tryz.f68]) [.cell 8 24, .tmp 9] rfl fun w0 T0 _ => ?_
 simp only [Tryz.f68, argEnv]
 (repeat' with_reducible first | intro _ | refine rz ?_ | refine ra ?_ ?_ | omega | simp (maxSteps := 9^7) only [go_sem])
 refine VcCall.k k ?_
 (repeat' with_reducible first | intro _ | refine rz ?_ | refine ra ?_ ?_ | omega | simp (maxSteps := 9^7) only [go_sem])
 refine VcLoop.intro (fun x : LnSt => ⟨135, [(37, .int .i64 x.y), (36, .int .i64 h), (18, .own 2), (11, .str x.s), (10, .ptr 1 0), (8, .ptr 0 0), (2, .int .i64 w), (3, .int .i64 h)], [(0, .box 24 [.int .i64 0, .int .i64 0, .nilS]), (1, .box 24 [.int .i64 w, .int .i64 h, .own 3]), (2, .row 4 (.bools x.ab)), (3, .row 4 (.bools x.acc))], 4⟩) (fun x => x.y ≤ h ∧ x.s.length ≤ s.length ∧ x.ab.length = w ∧ x.acc.length = x.y * w ∧ R = (x.acc ++ (lnPage (h - x.y) x.ab x.s).1, (lnPage (h - x.y) x.ab x.s).2)) (fun x => h - x.y) ⟨0, List.replicate w false, s, []⟩ ?_ ⟨Nat.zero_le _, Nat.le_refl _, List.length_replicate, (Nat.zero_mul w).symm, hR.symm⟩ fun x hx => ?_
 ·refine Ent.trans (Ent.nilBox (P := Tryz.prog) 1 2 4 e4 rfl rfl) (Ent.auto0 rfl ?_ ?_) <;> simp only [go_sem, Int.natCast_succ, put]
  all_goals first | rfl | exact ⟨rfl, rfl⟩ | trace_state
 obtain ⟨y, ab, t, acc⟩ := x
 obtain ⟨hy, ht, hab, hacc, hRx⟩ := hx
 dsimp only at hy ht hab hacc hRx ⊢
 by_cases hlt : y < h
 rotate_left
 ·have f1 : ((y : Int) < (h : Int)) = False := eq_false (by omega)
  have e : y = h := by omega
  subst e
  rw [Nat.sub_self] at hRx
  have hR2 : R = (acc, true) := by rw [hRx]; show (acc ++ [], true) = _; rw [List.append_nil]
  rw [hR2]
  (repeat' with_reducible first | intro _ | refine rz ?_ | refine ra ?_ ?_ | omega | simp (maxSteps := 9^7) only [go_sem, f1])
  refine Ret.of [(0, 3)] 1 ?_ (by rfl) ?_ <;> simp only [go_sem, Int.natCast_succ, Post]
 have f1 : ((y : Int) < (h : Int)) = True := eq_true (by omega)
 have hk : h - y = (h - (y + 1)) + 1 := by omega
 rw [hk] at hRx
 have hyw : y * w + w ≤ 1048576 := by
  have h1 : y * w + w ≤ h * w := by rw [← Nat.succ_mul]; exact Nat.mul_le_mul_right _ hlt
  have h2 : h * w = w * h := Nat.mul_comm _ _
  omega
 have hyw1 : (y + 1) * w = y * w + w := Nat.succ_mul y w
 generalize hyv : y * w = yw at *
 have kr := readLine_ok t ab (by omega) (by omega)
 have hrl := @rdLine_all ab t
 cases hrd : rdAll true ab t with
 | none =>
  rw [hrd] at hrl kr
  rw [rlOut_none, rlRows_none] at kr
  rw [lnPage_none hrl] at hRx
  have hR3 : R = (acc, false) := by rw [hRx]; show (acc ++ [], false) = _; rw [List.append_nil]
  rw [hR3]
  (repeat' with_reducible first | intro _ | refine rz ?_ | refine ra ?_ ?_ | omega | simp (maxSteps := 9^7) only [go_sem, f1])
  refine VcCall.k kr ?_
  (repeat' with_reducible first | intro _ | refine rz ?_ | refine ra ?_ ?_ | omega | simp (maxSteps := 9^7) only [go_sem])
  refine Ret.of [(0, 3)] 1 ?_ (by rfl) ?_ <;> simp only [go_sem, Int.natCast_succ, Post]
 | some z =>
  obtain ⟨r, n⟩ := z
  rw [hrd] at hrl kr
  rw [rlOut_some, rlRows_some] at kr
  obtain ⟨hr1, hr2⟩ := rdAll_len hrd
  by_cases hcode : lineB r ab = t.take n
  ·have hrl2 : rdLine true ab t = some (r, n) := by rw [hrl]; exact if_pos hcode
   rw [decide_eq_true hcode] at kr
   rw [lnPage_some hrl2] at hRx
   have htl : (t.drop n).take (t.length - n) = t.drop n := List.take_of_length_le (by rw [List.length_drop]; exact Nat.le_refl _)
   have hdl : (t.drop n).length = t.length - n := List.length_drop
   have hR3 : R = (acc ++ r ++ (lnPage (h - (y + 1)) r (t.drop n)).1, (lnPage (h - (y + 1)) r (t.drop n)).2) := by rw [hRx, List.append_assoc]
   have hrw : r.length = w := by omega
   (repeat' with_reducible first | intro _ | refine rz ?_ | refine ra ?_ ?_ | omega | simp (maxSteps := 9^7) only [go_sem, f1])
   refine VcCall.o kr 1 ?_
   (repeat' with_reducible first | intro _ | refine rz ?_ | refine ra ?_ ?_ | omega | simp (maxSteps := 9^7) only [go_sem, htl])
   refine ⟨⟨y + 1, r, t.drop n, acc ++ r⟩, Ent.auto0 rfl ?_ ?_, ⟨by dsimp only; omega, by dsimp only; omega, hrw, by dsimp only; rw [List.length_append]; omega, hR3⟩, by dsimp only; omega⟩ <;> simp only [go_sem, Int.natCast_succ]
   all_goals first | rfl | omega | exact ⟨rfl, rfl⟩ | trace_state
  ·have hrl2 : rdLine true ab t = none := by rw [hrl]; exact if_neg hcode
   rw [decide_eq_false hcode] at kr
   rw [lnPage_none hrl2] at hRx
   have hR3 : R = (acc, false) := by rw [hRx]; show (acc ++ [], false) = _; rw [List.append_nil]
   rw [hR3]
   (repeat' with_reducible first | intro _ | refine rz ?_ | refine ra ?_ ?_ | omega | simp (maxSteps := 9^7) only [go_sem, f1])
   refine VcCall.o kr 1 ?_
   (repeat' with_reducible first | intro _ | refine rz ?_ | refine ra ?_ ?_ | omega | simp (maxSteps := 9^7) only [go_sem])
   refine Ret.of [(0, 3)] 1 ?_ (by rfl) ?_ <;> simp only [go_sem, Int.natCast_succ, Post]
end Go.Fv.H
/- A result that is owned becomes data; a nil slice in a result box becomes an owned row without elements. -/
namespace Go.Fv.H
open Go Go.Proofs
set_option linter.unusedVariables false
theorem FnFr.toRo {P : Program} {f : Nat} {args : List AV} {out out' : AV} {rows : List (Nat × Item)} (h : FnFr P f args out rows) (ho : outOk rows out out') : FnFr P f args out' [] :=
 ⟨h.1, fun w T vals hgl hv => (h.2 w T vals hgl hv).mono fun e w' ⟨v, he, hb, hq⟩ => ⟨v, he, hb, hq.ro ho⟩⟩
theorem Ret.ent {P : Program} {w0 : World} {T0 : Bs} {res : List ResultVar} {out : AV} {rows : List (Nat × Item)} {s s' : S} (he : Ent w0 T0 0 s s') (h : Ret P w0 T0 res out rows s') : Ret P w0 T0 res out rows s :=
 fun a w hr => h a w (he [] a w (fun _ hx => by cases hx) hr)
end Go.Fv.H
