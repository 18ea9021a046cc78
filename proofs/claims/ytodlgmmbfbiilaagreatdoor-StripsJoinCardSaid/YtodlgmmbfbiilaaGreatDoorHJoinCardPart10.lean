/-
  A part of the proof of the claim: walks over the program's functions and the plain laws that these need. No condition of its own.
-/
import Derived.Test.YtodlgmmbfbiilaaGreatDoorHJoinCardPart6
import Derived.Test.YtodlgmmbfbiilaaGreatDoorHJoinCardPart9
import Derived.Test.YtodlgmmbfbiilaaGreatDoorHJoinCardPart5
/- The reference's Encode: the walk. -/
namespace Go.Fv.H
open Go Go.Proofs
set_option linter.unusedSimpArgs false
set_option linter.unusedVariables false
set_option linter.unnecessarySimpa false
set_option maxRecDepth 8000
theorem bitsS_take {p : List Bool} {i : Nat} (h : i < p.length) : bitsS (p.take (i + 1)) = bitsS (p.take i) ++ [if p.getD i false = true then 49 else 48] := by
 unfold bitsS; rw [List.take_succ_eq_append_getElem h, List.map_append, getD_lt h]; rfl
structure EX where
 i : Nat
 u : Bool
set_option maxHeartbeats 32000000 in
theorem refEncode_ok (w h : Nat) (hw0 : 0 < w) (hw : w ≤ 4000) (hh : h ≤ 4000) (hwh : w * h ≤ 1048576) (p : List Bool) (hp : p.length = w * h) (kind : Int) (hk : 1 ≤ kind ∧ kind ≤ 4) :
  FnOk Tryz.prog 13 [.agg [.int .i64 w, .int .i64 h, .ro (.bools p)], .int .i64 kind] (.str (encB w h p kind)) [] := by
 have hdl := dataB_len hw hh hwh hp kind
 have n2 := refBig_ok (w : Int) w 2 (.inl rfl) (by omega) (by omega) (by decide)
 have n3 := refBig_ok (h : Int) h 2 (.inl rfl) (by omega) (by omega) (by decide)
 have n4 := refBig_ok ((dataB w h p kind).length : Int) (dataB w h p kind).length 4 (.inl rfl) (by omega) (by omega) (by decide)
 rw [show ((2 : Nat) : Int) = 2 from rfl] at n2 n3
 rw [show ((4 : Nat) : Int) = 4 from rfl] at n4
 have henc : encB w h p kind = headB w h p kind ++ sumB (headB w h p kind) := rfl
 have hhead : headB w h p kind = beB 1 kind.toNat ++ beB 2 w ++ beB 2 h ++ beB 4 (dataB w h p kind).length ++ dataB w h p kind := rfl
 have hx1 : beB 1 kind.toNat = [UInt8.ofNat kind.toNat] := by
  have : kind = 1 ∨ kind = 2 ∨ kind = 3 ∨ kind = 4 := by omega
  rcases this with rfl | rfl | rfl | rfl <;> rfl
 have hwk : IntKind.u8.wrap kind = kind := by rw [wrap8]; omega
 have hhl : (headB w h p kind).length = 9 + (dataB w h p kind).length := by
  rw [hhead]; simp only [List.length_append, beB_len]
 have ks := refSumOf_ok (headB w h p kind) (by omega)
 have hsl := sumB_len (headB w h p kind)
 rw [henc]
 have l2 := beB_len 2 w
 have l3 := beB_len 2 h
 have l4 := beB_len 4 (dataB w h p kind).length
 have e1 : kind = 1 → dataB w h p kind = packB (bitsS p) := fun c => if_pos c
 have e4 : kind = 4 → dataB w h p kind = adB w h p := fun c => by unfold dataB; rw [if_neg (by omega), if_pos c]
 have e2 : kind = 2 → dataB w h p kind = packB (runsB w p h) := fun c => by unfold dataB; rw [if_neg (by omega), if_neg (by omega), if_pos c]
 have e3 : kind = 3 → dataB w h p kind = packB (linesB w p h) := fun c => by unfold dataB; rw [if_neg (by omega), if_neg (by omega), if_neg (by omega)]
 generalize headB w h p kind = hd at *
 rw [hx1] at hhead
 simp only [List.cons_append, List.nil_append] at hhead
 clear hx1
 generalize beB 2 w = x2 at *
 generalize beB 2 h = x3 at *
 generalize beB 4 (dataB w h p kind).length = x4 at *
 generalize dataB w h p kind = dt at *
 have b1 : 41 * (w + 1) * h ≤ 100000000 := by
  have : (w + 1) * h ≤ 1052576 := by rw [Nat.add_mul, Nat.one_mul]; omega
  rw [Nat.mul_assoc]; omega
 have b2 : 100 * (w + 1) * h ≤ 200000000 := by
  have : (w + 1) * h ≤ 1052576 := by rw [Nat.add_mul, Nat.one_mul]; omega
  rw [Nat.mul_assoc]; omega
 refine FnOk.of_vc Tryz.func13 rfl (by decide) (by simp [Tryz.f13]) [.tmp 4] rfl fun w0 T0 _ => ?_
 simp only [Tryz.f13, argEnv]
 by_cases c1 : kind = 1
 ·have hdt := e1 c1
  have g1 : (kind = 1) = True := eq_true c1
  have hlen : p.length ≤ 1048576 := by omega
  have h01 := bitsS_01 p
  have htl : bitsS (p.take p.length) = bitsS p := by rw [List.take_length]
  (repeat' with_reducible first | intro _ | refine rz ?_ | refine ra ?_ ?_ | omega | simp (maxSteps := 9^7) only [go_sem, g1])
  refine VcLoop.intro (fun x : EX => ⟨98, [(22, .int .i64 x.i), (21, .int .i64 p.length), (20, .ro (.bools p)), (5, .ptr 1 0), (2, .ptr 0 0), (1, .int .i64 kind)], (0, .box 24 [.int .i64 w, .int .i64 h, .ro (.bools p)]) :: (bif x.u then [(1, .box 89 [.ptr 1 0, .own 2]), (2, .row 5 (.ints .u8 (byteInts (bitsS (p.take x.i)))))] else [(1, .box 89 [.raw (.pointer none), .nilS])]), bif x.u then 3 else 2⟩) (fun x => x.i ≤ p.length ∧ BU (bitsS (p.take x.i)) x.u) (fun x => p.length - x.i) ⟨0, false⟩ ?_ ⟨Nat.zero_le _, fun h => by (cases h), fun _ => rfl⟩ fun x hx => ?_
  ·refine Ent.auto0 rfl ?_ ?_ <;> simp only [go_sem, Int.natCast_succ]
   all_goals first | rfl | exact ⟨rfl, rfl⟩
  obtain ⟨i, u⟩ := x
  obtain ⟨hi, hu1, hu2⟩ := hx
  dsimp only at hi hu1 hu2 ⊢
  by_cases hlt : i < p.length
  rotate_left
  ·have f1 : ((i : Int) < (p.length : Int)) = False := eq_false (by omega)
   have e : i = p.length := by omega
   subst e
   rw [htl] at hu1 hu2 ⊢
   have k2 := packBits_ok (bitsS p) h01 (by rw [bitsS_len]; omega)
   cases u with
   | true =>
    have kst := stringUsed_io (bitsS p) (hu1 rfl)
    simp only [cond_true, cond_false, List.cons_append, List.nil_append]
    (repeat' with_reducible first | intro _ | refine rz ?_ | refine ra ?_ ?_ | omega | simp (maxSteps := 9^7) only [go_sem, f1])
    refine VcCall.i [1, 2] kst 2 ?_
    (repeat' with_reducible first | intro _ | refine rz ?_ | refine ra ?_ ?_ | omega | simp (maxSteps := 9^7) only [go_sem])
    refine VcCall.k k2 ?_
    (repeat' with_reducible first | intro _ | refine rz ?_ | refine ra ?_ ?_ | omega | simp (maxSteps := 9^7) only [go_sem])
    rw [← hdt]
    refine VcDraw.lex [2] [(4, [0]), (5, [0]), (6, [0]), (8, [0]), (9, [0]), (10, [0]), (12, [0]), (13, [0]), (14, [0]), (16, [0])] (by kernel_rfl) (by kernel_rfl) ?_
    (repeat' with_reducible first | intro _ | refine rz ?_ | refine ra ?_ ?_ | omega | simp (maxSteps := 9^7) only [go_sem, hwk])
    (refine QV.intro (.str x2) ?_ ?_; focus ((repeat' with_reducible first | intro _ | refine rz ?_ | refine ra ?_ ?_ | omega | simp (maxSteps := 9^7) only [go_sem]); refine VcCall.k (n2) ?_; (repeat' with_reducible first | intro _ | refine rz ?_ | refine ra ?_ ?_ | omega | simp (maxSteps := 9^7) only [go_sem])))
    (repeat' with_reducible first | intro _ | refine rz ?_ | refine ra ?_ ?_ | omega | simp (maxSteps := 9^7) only [go_sem])
    (refine QV.intro (.str x3) ?_ ?_; focus ((repeat' with_reducible first | intro _ | refine rz ?_ | refine ra ?_ ?_ | omega | simp (maxSteps := 9^7) only [go_sem]); refine VcCall.k (n3) ?_; (repeat' with_reducible first | intro _ | refine rz ?_ | refine ra ?_ ?_ | omega | simp (maxSteps := 9^7) only [go_sem])))
    (repeat' with_reducible first | intro _ | refine rz ?_ | refine ra ?_ ?_ | omega | simp (maxSteps := 9^7) only [go_sem])
    (refine QV.intro (.str x4) ?_ ?_; focus ((repeat' with_reducible first | intro _ | refine rz ?_ | refine ra ?_ ?_ | omega | simp (maxSteps := 9^7) only [go_sem]); refine VcCall.k (n4) ?_; (repeat' with_reducible first | intro _ | refine rz ?_ | refine ra ?_ ?_ | omega | simp (maxSteps := 9^7) only [go_sem])))
    (repeat' with_reducible first | intro _ | refine rz ?_ | refine ra ?_ ?_ | omega | simp (maxSteps := 9^7) only [go_sem])
    ·refine VcCall.k n4 ?_
     (repeat' with_reducible first | intro _ | refine rz ?_ | refine ra ?_ ?_ | omega | simp (maxSteps := 9^7) only [go_sem])
    ·refine VcCall.k n3 ?_
     (repeat' with_reducible first | intro _ | refine rz ?_ | refine ra ?_ ?_ | omega | simp (maxSteps := 9^7) only [go_sem])
    ·refine VcCall.k n2 ?_
     (repeat' with_reducible first | intro _ | refine rz ?_ | refine ra ?_ ?_ | omega | simp (maxSteps := 9^7) only [go_sem])
    rw [← hhead]
    refine VcCall.k ks ?_
    (repeat' with_reducible first | intro _ | refine rz ?_ | refine ra ?_ ?_ | omega | simp (maxSteps := 9^7) only [go_sem])
    refine Ret.auto 0 ?_ rfl ?_ <;> simp only [go_sem, Int.natCast_succ, Post]
   | false =>
    have hz := hu2 rfl
    rw [hz] at k2
    have kst := stringFresh_io
    simp only [cond_true, cond_false, List.cons_append, List.nil_append]
    (repeat' with_reducible first | intro _ | refine rz ?_ | refine ra ?_ ?_ | omega | simp (maxSteps := 9^7) only [go_sem, f1])
    refine VcCall.i [1] kst 1 ?_
    (repeat' with_reducible first | intro _ | refine rz ?_ | refine ra ?_ ?_ | omega | simp (maxSteps := 9^7) only [go_sem])
    refine VcCall.k k2 ?_
    (repeat' with_reducible first | intro _ | refine rz ?_ | refine ra ?_ ?_ | omega | simp (maxSteps := 9^7) only [go_sem])
    rw [hz] at hdt
    rw [← hdt]
    refine VcDraw.lex [2] [(4, [0]), (5, [0]), (6, [0]), (8, [0]), (9, [0]), (10, [0]), (12, [0]), (13, [0]), (14, [0]), (16, [0])] (by kernel_rfl) (by kernel_rfl) ?_
    (repeat' with_reducible first | intro _ | refine rz ?_ | refine ra ?_ ?_ | omega | simp (maxSteps := 9^7) only [go_sem, hwk])
    (refine QV.intro (.str x2) ?_ ?_; focus ((repeat' with_reducible first | intro _ | refine rz ?_ | refine ra ?_ ?_ | omega | simp (maxSteps := 9^7) only [go_sem]); refine VcCall.k (n2) ?_; (repeat' with_reducible first | intro _ | refine rz ?_ | refine ra ?_ ?_ | omega | simp (maxSteps := 9^7) only [go_sem])))
    (repeat' with_reducible first | intro _ | refine rz ?_ | refine ra ?_ ?_ | omega | simp (maxSteps := 9^7) only [go_sem])
    (refine QV.intro (.str x3) ?_ ?_; focus ((repeat' with_reducible first | intro _ | refine rz ?_ | refine ra ?_ ?_ | omega | simp (maxSteps := 9^7) only [go_sem]); refine VcCall.k (n3) ?_; (repeat' with_reducible first | intro _ | refine rz ?_ | refine ra ?_ ?_ | omega | simp (maxSteps := 9^7) only [go_sem])))
    (repeat' with_reducible first | intro _ | refine rz ?_ | refine ra ?_ ?_ | omega | simp (maxSteps := 9^7) only [go_sem])
    (refine QV.intro (.str x4) ?_ ?_; focus ((repeat' with_reducible first | intro _ | refine rz ?_ | refine ra ?_ ?_ | omega | simp (maxSteps := 9^7) only [go_sem]); refine VcCall.k (n4) ?_; (repeat' with_reducible first | intro _ | refine rz ?_ | refine ra ?_ ?_ | omega | simp (maxSteps := 9^7) only [go_sem])))
    (repeat' with_reducible first | intro _ | refine rz ?_ | refine ra ?_ ?_ | omega | simp (maxSteps := 9^7) only [go_sem])
    ·refine VcCall.k n4 ?_
     (repeat' with_reducible first | intro _ | refine rz ?_ | refine ra ?_ ?_ | omega | simp (maxSteps := 9^7) only [go_sem])
    ·refine VcCall.k n3 ?_
     (repeat' with_reducible first | intro _ | refine rz ?_ | refine ra ?_ ?_ | omega | simp (maxSteps := 9^7) only [go_sem])
    ·refine VcCall.k n2 ?_
     (repeat' with_reducible first | intro _ | refine rz ?_ | refine ra ?_ ?_ | omega | simp (maxSteps := 9^7) only [go_sem])
    rw [← hhead]
    refine VcCall.k ks ?_
    (repeat' with_reducible first | intro _ | refine rz ?_ | refine ra ?_ ?_ | omega | simp (maxSteps := 9^7) only [go_sem])
    refine Ret.auto 0 ?_ rfl ?_ <;> simp only [go_sem, Int.natCast_succ, Post]
  have f1 : ((i : Int) < (p.length : Int)) = True := eq_true (by omega)
  have htk := bitsS_take hlt
  have hbl : (bitsS (p.take i)).length ≤ 1048576 := by rw [bitsS_len, List.length_take]; omega
  have kb := bit_ok (p.getD i false)
  generalize bitsS (p.take i) = o0 at *
  have q49 : (((49 : UInt8).toNat : Nat) : Int) = 49 := rfl
  have q48 : (((48 : UInt8).toNat : Nat) : Int) = 48 := rfl
  cases hpv : p.getD i false with
  | true =>
   rw [hpv] at kb htk
   rw [if_pos rfl] at kb htk
   cases u with
   | true =>
    have kw2 := byteUsed_io o0 49 (by omega)
    rw [q49] at kw2
    simp only [cond_true, cond_false, List.cons_append, List.nil_append]
    (repeat' with_reducible first | intro _ | refine rz ?_ | refine ra ?_ ?_ | omega | simp (maxSteps := 9^7) only [go_sem, f1, hpv])
    refine VcCall.k kb ?_
    (repeat' with_reducible first | intro _ | refine rz ?_ | refine ra ?_ ?_ | omega | simp (maxSteps := 9^7) only [go_sem])
    refine VcCall.i [1, 2] kw2 3 ?_
    (repeat' with_reducible first | intro _ | refine rz ?_ | refine ra ?_ ?_ | omega | simp (maxSteps := 9^7) only [go_sem])
    refine ⟨⟨i + 1, true⟩, Ent.auto0 rfl ?_ ?_, ⟨by dsimp only; omega, fun _ => by dsimp only; rw [htk, List.length_append]; simp, fun h => by (cases h)⟩, by dsimp only; omega⟩ <;> simp only [go_sem, Int.natCast_succ, htk]
    all_goals first | rfl | exact ⟨rfl, rfl⟩
   | false =>
    have hz := hu2 rfl
    have kw2 := byteFresh_io 49
    rw [q49] at kw2
    simp only [cond_true, cond_false, List.cons_append, List.nil_append]
    (repeat' with_reducible first | intro _ | refine rz ?_ | refine ra ?_ ?_ | omega | simp (maxSteps := 9^7) only [go_sem, f1, hpv])
    refine VcCall.k kb ?_
    (repeat' with_reducible first | intro _ | refine rz ?_ | refine ra ?_ ?_ | omega | simp (maxSteps := 9^7) only [go_sem])
    refine VcCall.i [1] kw2 2 ?_
    (repeat' with_reducible first | intro _ | refine rz ?_ | refine ra ?_ ?_ | omega | simp (maxSteps := 9^7) only [go_sem])
    rw [hz, List.nil_append] at htk
    refine ⟨⟨i + 1, true⟩, Ent.auto0 rfl ?_ ?_, ⟨by dsimp only; omega, fun _ => by dsimp only; rw [htk]; simp, fun h => by (cases h)⟩, by dsimp only; omega⟩ <;> simp only [go_sem, Int.natCast_succ, htk]
    all_goals first | rfl | exact ⟨rfl, rfl⟩
  | false =>
   rw [hpv] at kb htk
   rw [if_neg (by decide)] at kb htk
   cases u with
   | true =>
    have kw2 := byteUsed_io o0 48 (by omega)
    rw [q48] at kw2
    simp only [cond_true, cond_false, List.cons_append, List.nil_append]
    (repeat' with_reducible first | intro _ | refine rz ?_ | refine ra ?_ ?_ | omega | simp (maxSteps := 9^7) only [go_sem, f1, hpv])
    refine VcCall.k kb ?_
    (repeat' with_reducible first | intro _ | refine rz ?_ | refine ra ?_ ?_ | omega | simp (maxSteps := 9^7) only [go_sem])
    refine VcCall.i [1, 2] kw2 3 ?_
    (repeat' with_reducible first | intro _ | refine rz ?_ | refine ra ?_ ?_ | omega | simp (maxSteps := 9^7) only [go_sem])
    refine ⟨⟨i + 1, true⟩, Ent.auto0 rfl ?_ ?_, ⟨by dsimp only; omega, fun _ => by dsimp only; rw [htk, List.length_append]; simp, fun h => by (cases h)⟩, by dsimp only; omega⟩ <;> simp only [go_sem, Int.natCast_succ, htk]
    all_goals first | rfl | exact ⟨rfl, rfl⟩
   | false =>
    have hz := hu2 rfl
    have kw2 := byteFresh_io 48
    rw [q48] at kw2
    simp only [cond_true, cond_false, List.cons_append, List.nil_append]
    (repeat' with_reducible first | intro _ | refine rz ?_ | refine ra ?_ ?_ | omega | simp (maxSteps := 9^7) only [go_sem, f1, hpv])
    refine VcCall.k kb ?_
    (repeat' with_reducible first | intro _ | refine rz ?_ | refine ra ?_ ?_ | omega | simp (maxSteps := 9^7) only [go_sem])
    refine VcCall.i [1] kw2 2 ?_
    (repeat' with_reducible first | intro _ | refine rz ?_ | refine ra ?_ ?_ | omega | simp (maxSteps := 9^7) only [go_sem])
    rw [hz, List.nil_append] at htk
    refine ⟨⟨i + 1, true⟩, Ent.auto0 rfl ?_ ?_, ⟨by dsimp only; omega, fun _ => by dsimp only; rw [htk]; simp, fun h => by (cases h)⟩, by dsimp only; omega⟩ <;> simp only [go_sem, Int.natCast_succ, htk]
    all_goals first | rfl | exact ⟨rfl, rfl⟩
 have g1 : (kind = 1) = False := eq_false c1
 by_cases c2 : kind = 2
 ·have hdt := e2 c2
  have g2 : (kind = 2) = True := eq_true c2
  have bl := runsB_len hw hp
  have h01 := runsB_01 w p h
  (repeat' with_reducible first | intro _ | refine rz ?_ | refine ra ?_ ?_ | omega | simp (maxSteps := 9^7) only [go_sem, g1, g2])
  refine VcLoop.intro (fun x : EX => ⟨98, [(37, .int .i64 x.i), (36, .int .i64 h), (5, .ptr 1 0), (2, .ptr 0 0), (1, .int .i64 kind)], (0, .box 24 [.int .i64 w, .int .i64 h, .ro (.bools p)]) :: (bif x.u then [(1, .box 89 [.ptr 1 0, .own 2]), (2, .row 5 (.ints .u8 (byteInts (runsB w p x.i))))] else [(1, .box 89 [.raw (.pointer none), .nilS])]), bif x.u then 3 else 2⟩) (fun x => x.i ≤ h ∧ BU (runsB w p x.i) x.u) (fun x => h - x.i) ⟨0, false⟩ ?_ ⟨Nat.zero_le _, fun h => by (cases h), fun _ => rfl⟩ fun x hx => ?_
  ·refine Ent.auto0 rfl ?_ ?_ <;> simp only [go_sem, Int.natCast_succ]
   all_goals first | rfl | exact ⟨rfl, rfl⟩
  obtain ⟨y, u⟩ := x
  obtain ⟨hy, hu1, hu2⟩ := hx
  dsimp only at hy hu1 hu2 ⊢
  have hbly := bl y hy
  have hmy : 41 * (w + 1) * y ≤ 41 * (w + 1) * h := Nat.mul_le_mul_left _ hy
  by_cases hylt : y < h
  rotate_left
  ·have f1 : ((y : Int) < (h : Int)) = False := eq_false (by omega)
   have e : y = h := by omega
   subst e
   have k2 := packBits_ok (runsB w p y) h01 (by omega)
   cases u with
   | true =>
    have kst := stringUsed_io (runsB w p y) (hu1 rfl)
    simp only [cond_true, cond_false, List.cons_append, List.nil_append]
    (repeat' with_reducible first | intro _ | refine rz ?_ | refine ra ?_ ?_ | omega | simp (maxSteps := 9^7) only [go_sem, f1])
    refine VcCall.i [1, 2] kst 2 ?_
    (repeat' with_reducible first | intro _ | refine rz ?_ | refine ra ?_ ?_ | omega | simp (maxSteps := 9^7) only [go_sem])
    refine VcCall.k k2 ?_
    (repeat' with_reducible first | intro _ | refine rz ?_ | refine ra ?_ ?_ | omega | simp (maxSteps := 9^7) only [go_sem])
    rw [← hdt]
    refine VcDraw.lex [2] [(4, [0]), (5, [0]), (6, [0]), (8, [0]), (9, [0]), (10, [0]), (12, [0]), (13, [0]), (14, [0]), (16, [0])] (by kernel_rfl) (by kernel_rfl) ?_
    (repeat' with_reducible first | intro _ | refine rz ?_ | refine ra ?_ ?_ | omega | simp (maxSteps := 9^7) only [go_sem, hwk])
    (refine QV.intro (.str x2) ?_ ?_; focus ((repeat' with_reducible first | intro _ | refine rz ?_ | refine ra ?_ ?_ | omega | simp (maxSteps := 9^7) only [go_sem]); refine VcCall.k (n2) ?_; (repeat' with_reducible first | intro _ | refine rz ?_ | refine ra ?_ ?_ | omega | simp (maxSteps := 9^7) only [go_sem])))
    (repeat' with_reducible first | intro _ | refine rz ?_ | refine ra ?_ ?_ | omega | simp (maxSteps := 9^7) only [go_sem])
    (refine QV.intro (.str x3) ?_ ?_; focus ((repeat' with_reducible first | intro _ | refine rz ?_ | refine ra ?_ ?_ | omega | simp (maxSteps := 9^7) only [go_sem]); refine VcCall.k (n3) ?_; (repeat' with_reducible first | intro _ | refine rz ?_ | refine ra ?_ ?_ | omega | simp (maxSteps := 9^7) only [go_sem])))
    (repeat' with_reducible first | intro _ | refine rz ?_ | refine ra ?_ ?_ | omega | simp (maxSteps := 9^7) only [go_sem])
    (refine QV.intro (.str x4) ?_ ?_; focus ((repeat' with_reducible first | intro _ | refine rz ?_ | refine ra ?_ ?_ | omega | simp (maxSteps := 9^7) only [go_sem]); refine VcCall.k (n4) ?_; (repeat' with_reducible first | intro _ | refine rz ?_ | refine ra ?_ ?_ | omega | simp (maxSteps := 9^7) only [go_sem])))
    (repeat' with_reducible first | intro _ | refine rz ?_ | refine ra ?_ ?_ | omega | simp (maxSteps := 9^7) only [go_sem])
    ·refine VcCall.k n4 ?_
     (repeat' with_reducible first | intro _ | refine rz ?_ | refine ra ?_ ?_ | omega | simp (maxSteps := 9^7) only [go_sem])
    ·refine VcCall.k n3 ?_
     (repeat' with_reducible first | intro _ | refine rz ?_ | refine ra ?_ ?_ | omega | simp (maxSteps := 9^7) only [go_sem])
    ·refine VcCall.k n2 ?_
     (repeat' with_reducible first | intro _ | refine rz ?_ | refine ra ?_ ?_ | omega | simp (maxSteps := 9^7) only [go_sem])
    rw [← hhead]
    refine VcCall.k ks ?_
    (repeat' with_reducible first | intro _ | refine rz ?_ | refine ra ?_ ?_ | omega | simp (maxSteps := 9^7) only [go_sem])
    refine Ret.auto 0 ?_ rfl ?_ <;> simp only [go_sem, Int.natCast_succ, Post]
   | false =>
    have hz := hu2 rfl
    rw [hz] at k2
    have kst := stringFresh_io
    simp only [cond_true, cond_false, List.cons_append, List.nil_append]
    (repeat' with_reducible first | intro _ | refine rz ?_ | refine ra ?_ ?_ | omega | simp (maxSteps := 9^7) only [go_sem, f1])
    refine VcCall.i [1] kst 1 ?_
    (repeat' with_reducible first | intro _ | refine rz ?_ | refine ra ?_ ?_ | omega | simp (maxSteps := 9^7) only [go_sem])
    refine VcCall.k k2 ?_
    (repeat' with_reducible first | intro _ | refine rz ?_ | refine ra ?_ ?_ | omega | simp (maxSteps := 9^7) only [go_sem])
    rw [hz] at hdt
    rw [← hdt]
    refine VcDraw.lex [2] [(4, [0]), (5, [0]), (6, [0]), (8, [0]), (9, [0]), (10, [0]), (12, [0]), (13, [0]), (14, [0]), (16, [0])] (by kernel_rfl) (by kernel_rfl) ?_
    (repeat' with_reducible first | intro _ | refine rz ?_ | refine ra ?_ ?_ | omega | simp (maxSteps := 9^7) only [go_sem, hwk])
    (refine QV.intro (.str x2) ?_ ?_; focus ((repeat' with_reducible first | intro _ | refine rz ?_ | refine ra ?_ ?_ | omega | simp (maxSteps := 9^7) only [go_sem]); refine VcCall.k (n2) ?_; (repeat' with_reducible first | intro _ | refine rz ?_ | refine ra ?_ ?_ | omega | simp (maxSteps := 9^7) only [go_sem])))
    (repeat' with_reducible first | intro _ | refine rz ?_ | refine ra ?_ ?_ | omega | simp (maxSteps := 9^7) only [go_sem])
    (refine QV.intro (.str x3) ?_ ?_; focus ((repeat' with_reducible first | intro _ | refine rz ?_ | refine ra ?_ ?_ | omega | simp (maxSteps := 9^7) only [go_sem]); refine VcCall.k (n3) ?_; (repeat' with_reducible first | intro _ | refine rz ?_ | refine ra ?_ ?_ | omega | simp (maxSteps := 9^7) only [go_sem])))
    (repeat' with_reducible first | intro _ | refine rz ?_ | refine ra ?_ ?_ | omega | simp (maxSteps := 9^7) only [go_sem])
    (refine QV.intro (.str x4) ?_ ?_; focus ((repeat' with_reducible first | intro _ | refine rz ?_ | refine ra ?_ ?_ | omega | simp (maxSteps := 9^7) only [go_sem]); refine VcCall.k (n4) ?_; (repeat' with_reducible first | intro _ | refine rz ?_ | refine ra ?_ ?_ | omega | simp (maxSteps := 9^7) only [go_sem])))
    (repeat' with_reducible first | intro _ | refine rz ?_ | refine ra ?_ ?_ | omega | simp (maxSteps := 9^7) only [go_sem])
    ·refine VcCall.k n4 ?_
     (repeat' with_reducible first | intro _ | refine rz ?_ | refine ra ?_ ?_ | omega | simp (maxSteps := 9^7) only [go_sem])
    ·refine VcCall.k n3 ?_
     (repeat' with_reducible first | intro _ | refine rz ?_ | refine ra ?_ ?_ | omega | simp (maxSteps := 9^7) only [go_sem])
    ·refine VcCall.k n2 ?_
     (repeat' with_reducible first | intro _ | refine rz ?_ | refine ra ?_ ?_ | omega | simp (maxSteps := 9^7) only [go_sem])
    rw [← hhead]
    refine VcCall.k ks ?_
    (repeat' with_reducible first | intro _ | refine rz ?_ | refine ra ?_ ?_ | omega | simp (maxSteps := 9^7) only [go_sem])
    refine Ret.auto 0 ?_ rfl ?_ <;> simp only [go_sem, Int.natCast_succ, Post]
  have f1 : ((y : Int) < (h : Int)) = True := eq_true (by omega)
  have hl := rowP_len hp hylt
  have kr := rowOf_ok w h hw hh p hp y hylt
  have kn := refRuns_ok (rowP w p y) (by omega)
  obtain ⟨n1, n2'⟩ := runRow_bd (rowP w p y)
  have hsucc := runsB_succ w p y
  have hbly2 := bl (y + 1) (by omega)
  have hrr : (runsAt (rowP w p y) (rowP w p y).length).1 = runRow (rowP w p y) := rfl
  rw [hrr] at kn
  generalize hL : runRow (rowP w p y) = L at *
  generalize rowP w p y = rw_ at *
  generalize runsB w p y = o0 at *
  (repeat' with_reducible first | intro _ | refine rz ?_ | refine ra ?_ ?_ | omega | simp (maxSteps := 9^7) only [go_sem, f1])
  refine VcCall.ros (.ro (.bools rw_)) kr (by simp only [noIdR_ok, argOkL, argOk, allOk, argOkN, List.drop_zero, lk, reduceIte, reduceCtorEq, Nat.reduceEqDiff, Option.some.injEq, Item.row.injEq, Item.box.injEq, AV.ro.injEq, exists_eq_left, exists_and_left, exists_eq_left', exists_eq_right, and_assoc, and_true, true_and, List.cons.injEq, exists_eq', exists_eq]) (by simp [outOk, argOkL, allOk, argOk, argOkN, lk, noIdR_ok]) rfl ?_
  (repeat' with_reducible first | intro _ | refine rz ?_ | refine ra ?_ ?_ | omega | simp (maxSteps := 9^7) only [go_sem])
  refine VcCall.ro (.ro (.ints .i64 L)) (FnFr.of_ok kn rfl (by simp [noRoRows, noRoItem, noRoRow, noRoL, noRo])) (by simp only [noIdR_ok, argOkL, argOk, allOk, argOkN, List.drop_zero, lk, reduceIte, reduceCtorEq, Nat.reduceEqDiff, Option.some.injEq, Item.row.injEq, Item.box.injEq, AV.ro.injEq, exists_eq_left, exists_and_left, exists_eq_left', exists_eq_right, and_assoc, and_true, true_and, List.cons.injEq, exists_eq', exists_eq]) (by simp [outOk, argOkL, allOk, argOk, argOkN, lk, noIdR_ok]) rfl ?_
  (repeat' with_reducible first | intro _ | refine rz ?_ | refine ra ?_ ?_ | omega | simp (maxSteps := 9^7) only [go_sem])
  refine VcLoop.intro (fun x : EX => ⟨98, [(45, .int .i64 x.i), (44, .int .i64 L.length), (43, .ro (.ints .i64 L)), (37, .int .i64 y), (36, .int .i64 h), (5, .ptr 1 0), (2, .ptr 0 0), (1, .int .i64 kind)], (0, .box 24 [.int .i64 w, .int .i64 h, .ro (.bools p)]) :: (bif x.u then [(1, .box 89 [.ptr 1 0, .own 2]), (2, .row 5 (.ints .u8 (byteInts (o0 ++ runsG (L.take x.i)))))] else [(1, .box 89 [.raw (.pointer none), .nilS])]), bif x.u then 3 else 2⟩) (fun x => x.i ≤ L.length ∧ BU (o0 ++ runsG (L.take x.i)) x.u) (fun x => L.length - x.i) ⟨0, u⟩ ?_ ⟨Nat.zero_le _, by
   have e : o0 ++ runsG (L.take 0) = o0 := by simp [runsG]
   rw [e]; exact ⟨hu1, hu2⟩⟩ fun x hx => ?_
  ·have e : runsG [] = [] := rfl
   cases u <;> (simp only [cond_true, cond_false]; refine Ent.auto0 rfl ?_ ?_ <;> simp only [go_sem, Int.natCast_succ, e])
   all_goals first | rfl | exact ⟨rfl, rfl⟩
  obtain ⟨j, v⟩ := x
  obtain ⟨hj, hv1, hv2⟩ := hx
  dsimp only at hj hv1 hv2 ⊢
  have hgl : (runsG (L.take j)).length ≤ 41 * 4001 := by
   have h1 := runsG_len (l := L.take j) fun x hx => by have := n2' x (List.mem_of_mem_take hx); omega
   have h2 : (L.take j).length ≤ 4001 := by rw [List.length_take]; omega
   omega
  have hbq : 41 * (w + 1) * y ≤ 100000000 := by omega
  by_cases hjlt : j < L.length
  rotate_left
  ·have fj : ((j : Int) < (L.length : Int)) = False := eq_false (by omega)
   have hjl : L.take j = L := List.take_of_length_le (by omega)
   rw [hjl] at hv1 hv2 ⊢
   cases v <;>
    (simp only [cond_true, cond_false, List.cons_append, List.nil_append]
     (repeat' with_reducible first | intro _ | refine rz ?_ | refine ra ?_ ?_ | omega | simp (maxSteps := 9^7) only [go_sem, fj]))
   ·refine ⟨⟨y + 1, false⟩, Ent.auto0 rfl ?_ ?_, ⟨by dsimp only; omega, by rw [hsucc]; exact ⟨hv1, hv2⟩⟩, by dsimp only; omega⟩ <;> simp only [go_sem, Int.natCast_succ, hsucc]
    all_goals first | rfl | exact ⟨rfl, rfl⟩
   ·refine ⟨⟨y + 1, true⟩, Ent.auto0 rfl ?_ ?_, ⟨by dsimp only; omega, by rw [hsucc]; exact ⟨hv1, hv2⟩⟩, by dsimp only; omega⟩ <;> simp only [go_sem, Int.natCast_succ, hsucc]
    all_goals first | rfl | exact ⟨rfl, rfl⟩
  have fj : ((j : Int) < (L.length : Int)) = True := eq_true (by omega)
  have htk := runsG_take hjlt
  have hnb := n2' (L.getD j 0) (by rw [getD_lt hjlt]; exact List.getElem_mem hjlt)
  have kg := refGamma_ok (L.getD j 0 + 1).toNat (by omega)
  rw [show (((L.getD j 0 + 1).toNat : Nat) : Int) = L.getD j 0 + 1 by omega] at kg
  have hgp := gam_pos (L.getD j 0 + 1).toNat
  have hgs := gam_short (n := (L.getD j 0 + 1).toNat) (by omega)
  generalize gamB (L.getD j 0 + 1).toNat = g at *
  generalize hn0 : L.getD j 0 = n0 at *
  cases v with
  | true =>
   have kw2 := writeUsed_io (o0 ++ runsG (L.take j)) g (by rw [List.length_append]; omega) (by omega)
   simp only [cond_true, cond_false, List.cons_append, List.nil_append]
   (repeat' with_reducible first | intro _ | refine rz ?_ | refine ra ?_ ?_ | omega | simp (maxSteps := 9^7) only [go_sem, fj, hn0])
   refine VcCall.k kg ?_
   (repeat' with_reducible first | intro _ | refine rz ?_ | refine ra ?_ ?_ | omega | simp (maxSteps := 9^7) only [go_sem])
   refine VcCall.i [1, 2] kw2 3 ?_
   (repeat' with_reducible first | intro _ | refine rz ?_ | refine ra ?_ ?_ | omega | simp (maxSteps := 9^7) only [go_sem])
   refine ⟨⟨j + 1, true⟩, Ent.auto0 rfl ?_ ?_, ⟨by dsimp only; omega, fun _ => by dsimp only; rw [htk, List.length_append, List.length_append]; omega, fun h => by (cases h)⟩, by dsimp only; omega⟩ <;> simp only [go_sem, Int.natCast_succ, htk, List.append_assoc]
   all_goals first | rfl | exact ⟨rfl, rfl⟩
  | false =>
   have hz := hv2 rfl
   have kw2 := writeFresh_io g (by omega)
   simp only [cond_true, cond_false, List.cons_append, List.nil_append]
   (repeat' with_reducible first | intro _ | refine rz ?_ | refine ra ?_ ?_ | omega | simp (maxSteps := 9^7) only [go_sem, fj, hn0])
   refine VcCall.k kg ?_
   (repeat' with_reducible first | intro _ | refine rz ?_ | refine ra ?_ ?_ | omega | simp (maxSteps := 9^7) only [go_sem])
   refine VcCall.i [1] kw2 2 ?_
   (repeat' with_reducible first | intro _ | refine rz ?_ | refine ra ?_ ?_ | omega | simp (maxSteps := 9^7) only [go_sem])
   have hz2 : o0 ++ runsG (L.take (j + 1)) = g := by rw [htk, ← List.append_assoc, hz, List.nil_append]
   refine ⟨⟨j + 1, true⟩, Ent.auto0 rfl ?_ ?_, ⟨by dsimp only; omega, fun _ => by dsimp only; rw [hz2]; omega, fun h => by (cases h)⟩, by dsimp only; omega⟩ <;> simp only [go_sem, Int.natCast_succ, hz2]
   all_goals first | rfl | exact ⟨rfl, rfl⟩
 have g2 : (kind = 2) = False := eq_false c2
 by_cases c4 : kind = 4
 ·have hdt := e4 c4
  have k1 := refAdaptive_ok w h hw0 hw hh hwh p hp
  rw [← hdt] at k1
  have g3 : (kind = 3) = False := eq_false (by omega)
  (repeat' with_reducible first | intro _ | refine rz ?_ | refine ra ?_ ?_ | omega | simp (maxSteps := 9^7) only [go_sem, g1, g2, g3])
  refine VcCall.k k1 ?_
  (repeat' with_reducible first | intro _ | refine rz ?_ | refine ra ?_ ?_ | omega | simp (maxSteps := 9^7) only [go_sem])
  refine VcDraw.lex [2] [(4, [0]), (5, [0]), (6, [0]), (8, [0]), (9, [0]), (10, [0]), (12, [0]), (13, [0]), (14, [0]), (16, [0])] (by kernel_rfl) (by kernel_rfl) ?_
  (repeat' with_reducible first | intro _ | refine rz ?_ | refine ra ?_ ?_ | omega | simp (maxSteps := 9^7) only [go_sem, hwk])
  (refine QV.intro (.str x2) ?_ ?_; focus ((repeat' with_reducible first | intro _ | refine rz ?_ | refine ra ?_ ?_ | omega | simp (maxSteps := 9^7) only [go_sem]); refine VcCall.k (n2) ?_; (repeat' with_reducible first | intro _ | refine rz ?_ | refine ra ?_ ?_ | omega | simp (maxSteps := 9^7) only [go_sem])))
  (repeat' with_reducible first | intro _ | refine rz ?_ | refine ra ?_ ?_ | omega | simp (maxSteps := 9^7) only [go_sem])
  (refine QV.intro (.str x3) ?_ ?_; focus ((repeat' with_reducible first | intro _ | refine rz ?_ | refine ra ?_ ?_ | omega | simp (maxSteps := 9^7) only [go_sem]); refine VcCall.k (n3) ?_; (repeat' with_reducible first | intro _ | refine rz ?_ | refine ra ?_ ?_ | omega | simp (maxSteps := 9^7) only [go_sem])))
  (repeat' with_reducible first | intro _ | refine rz ?_ | refine ra ?_ ?_ | omega | simp (maxSteps := 9^7) only [go_sem])
  (refine QV.intro (.str x4) ?_ ?_; focus ((repeat' with_reducible first | intro _ | refine rz ?_ | refine ra ?_ ?_ | omega | simp (maxSteps := 9^7) only [go_sem]); refine VcCall.k (n4) ?_; (repeat' with_reducible first | intro _ | refine rz ?_ | refine ra ?_ ?_ | omega | simp (maxSteps := 9^7) only [go_sem])))
  (repeat' with_reducible first | intro _ | refine rz ?_ | refine ra ?_ ?_ | omega | simp (maxSteps := 9^7) only [go_sem])
  ·refine VcCall.k n4 ?_
   (repeat' with_reducible first | intro _ | refine rz ?_ | refine ra ?_ ?_ | omega | simp (maxSteps := 9^7) only [go_sem])
  ·refine VcCall.k n3 ?_
   (repeat' with_reducible first | intro _ | refine rz ?_ | refine ra ?_ ?_ | omega | simp (maxSteps := 9^7) only [go_sem])
  ·refine VcCall.k n2 ?_
   (repeat' with_reducible first | intro _ | refine rz ?_ | refine ra ?_ ?_ | omega | simp (maxSteps := 9^7) only [go_sem])
  rw [← hhead]
  refine VcCall.k ks ?_
  (repeat' with_reducible first | intro _ | refine rz ?_ | refine ra ?_ ?_ | omega | simp (maxSteps := 9^7) only [go_sem])
  refine Ret.auto 0 ?_ rfl ?_ <;> simp only [go_sem, Int.natCast_succ, Post]
 have c3 : kind = 3 := by omega
 have hdt := e3 c3
 have g3 : (kind = 3) = True := eq_true c3
 have bl := linesB_len hw hp
 have h01 := linesB_01 w h p hp
 (repeat' with_reducible first | intro _ | refine rz ?_ | refine ra ?_ ?_ | omega | simp (maxSteps := 9^7) only [go_sem, g1, g2, g3])
 refine VcLoop.intro (fun x : EX => ⟨98, [(61, .int .i64 x.i), (60, .int .i64 h), (5, .ptr 1 0), (2, .ptr 0 0), (1, .int .i64 kind)], (0, .box 24 [.int .i64 w, .int .i64 h, .ro (.bools p)]) :: (bif x.u then [(1, .box 89 [.ptr 1 0, .own 2]), (2, .row 5 (.ints .u8 (byteInts (linesB w p x.i))))] else [(1, .box 89 [.raw (.pointer none), .nilS])]), bif x.u then 3 else 2⟩) (fun x => x.i ≤ h ∧ BU (linesB w p x.i) x.u) (fun x => h - x.i) ⟨0, false⟩ ?_ ⟨Nat.zero_le _, fun h => by (cases h), fun _ => rfl⟩ fun x hx => ?_
 ·refine Ent.auto0 rfl ?_ ?_ <;> simp only [go_sem, Int.natCast_succ]
  all_goals first | rfl | exact ⟨rfl, rfl⟩
 obtain ⟨y, u⟩ := x
 obtain ⟨hy, hu1, hu2⟩ := hx
 dsimp only at hy hu1 hu2 ⊢
 have hbly := bl y hy
 have hmy : 100 * (w + 1) * y ≤ 100 * (w + 1) * h := Nat.mul_le_mul_left _ hy
 by_cases hylt : y < h
 rotate_left
 ·have f1 : ((y : Int) < (h : Int)) = False := eq_false (by omega)
  have e : y = h := by omega
  subst e
  have k2 := packBits_ok (linesB w p y) (h01 y (Nat.le_refl _)) (by omega)
  cases u with
  | true =>
   have kst := stringUsed_io (linesB w p y) (hu1 rfl)
   simp only [cond_true, cond_false, List.cons_append, List.nil_append]
   (repeat' with_reducible first | intro _ | refine rz ?_ | refine ra ?_ ?_ | omega | simp (maxSteps := 9^7) only [go_sem, f1])
   refine VcCall.i [1, 2] kst 2 ?_
   (repeat' with_reducible first | intro _ | refine rz ?_ | refine ra ?_ ?_ | omega | simp (maxSteps := 9^7) only [go_sem])
   refine VcCall.k k2 ?_
   (repeat' with_reducible first | intro _ | refine rz ?_ | refine ra ?_ ?_ | omega | simp (maxSteps := 9^7) only [go_sem])
   rw [← hdt]
   refine VcDraw.lex [2] [(4, [0]), (5, [0]), (6, [0]), (8, [0]), (9, [0]), (10, [0]), (12, [0]), (13, [0]), (14, [0]), (16, [0])] (by kernel_rfl) (by kernel_rfl) ?_
   (repeat' with_reducible first | intro _ | refine rz ?_ | refine ra ?_ ?_ | omega | simp (maxSteps := 9^7) only [go_sem, hwk])
   (refine QV.intro (.str x2) ?_ ?_; focus ((repeat' with_reducible first | intro _ | refine rz ?_ | refine ra ?_ ?_ | omega | simp (maxSteps := 9^7) only [go_sem]); refine VcCall.k (n2) ?_; (repeat' with_reducible first | intro _ | refine rz ?_ | refine ra ?_ ?_ | omega | simp (maxSteps := 9^7) only [go_sem])))
   (repeat' with_reducible first | intro _ | refine rz ?_ | refine ra ?_ ?_ | omega | simp (maxSteps := 9^7) only [go_sem])
   (refine QV.intro (.str x3) ?_ ?_; focus ((repeat' with_reducible first | intro _ | refine rz ?_ | refine ra ?_ ?_ | omega | simp (maxSteps := 9^7) only [go_sem]); refine VcCall.k (n3) ?_; (repeat' with_reducible first | intro _ | refine rz ?_ | refine ra ?_ ?_ | omega | simp (maxSteps := 9^7) only [go_sem])))
   (repeat' with_reducible first | intro _ | refine rz ?_ | refine ra ?_ ?_ | omega | simp (maxSteps := 9^7) only [go_sem])
   (refine QV.intro (.str x4) ?_ ?_; focus ((repeat' with_reducible first | intro _ | refine rz ?_ | refine ra ?_ ?_ | omega | simp (maxSteps := 9^7) only [go_sem]); refine VcCall.k (n4) ?_; (repeat' with_reducible first | intro _ | refine rz ?_ | refine ra ?_ ?_ | omega | simp (maxSteps := 9^7) only [go_sem])))
   (repeat' with_reducible first | intro _ | refine rz ?_ | refine ra ?_ ?_ | omega | simp (maxSteps := 9^7) only [go_sem])
   ·refine VcCall.k n4 ?_
    (repeat' with_reducible first | intro _ | refine rz ?_ | refine ra ?_ ?_ | omega | simp (maxSteps := 9^7) only [go_sem])
   ·refine VcCall.k n3 ?_
    (repeat' with_reducible first | intro _ | refine rz ?_ | refine ra ?_ ?_ | omega | simp (maxSteps := 9^7) only [go_sem])
   ·refine VcCall.k n2 ?_
    (repeat' with_reducible first | intro _ | refine rz ?_ | refine ra ?_ ?_ | omega | simp (maxSteps := 9^7) only [go_sem])
   rw [← hhead]
   refine VcCall.k ks ?_
   (repeat' with_reducible first | intro _ | refine rz ?_ | refine ra ?_ ?_ | omega | simp (maxSteps := 9^7) only [go_sem])
   refine Ret.auto 0 ?_ rfl ?_ <;> simp only [go_sem, Int.natCast_succ, Post]
  | false =>
   have hz := hu2 rfl
   rw [hz] at k2
   have kst := stringFresh_io
   simp only [cond_true, cond_false, List.cons_append, List.nil_append]
   (repeat' with_reducible first | intro _ | refine rz ?_ | refine ra ?_ ?_ | omega | simp (maxSteps := 9^7) only [go_sem, f1])
   refine VcCall.i [1] kst 1 ?_
   (repeat' with_reducible first | intro _ | refine rz ?_ | refine ra ?_ ?_ | omega | simp (maxSteps := 9^7) only [go_sem])
   refine VcCall.k k2 ?_
   (repeat' with_reducible first | intro _ | refine rz ?_ | refine ra ?_ ?_ | omega | simp (maxSteps := 9^7) only [go_sem])
   rw [hz] at hdt
   rw [← hdt]
   refine VcDraw.lex [2] [(4, [0]), (5, [0]), (6, [0]), (8, [0]), (9, [0]), (10, [0]), (12, [0]), (13, [0]), (14, [0]), (16, [0])] (by kernel_rfl) (by kernel_rfl) ?_
   (repeat' with_reducible first | intro _ | refine rz ?_ | refine ra ?_ ?_ | omega | simp (maxSteps := 9^7) only [go_sem, hwk])
   (refine QV.intro (.str x2) ?_ ?_; focus ((repeat' with_reducible first | intro _ | refine rz ?_ | refine ra ?_ ?_ | omega | simp (maxSteps := 9^7) only [go_sem]); refine VcCall.k (n2) ?_; (repeat' with_reducible first | intro _ | refine rz ?_ | refine ra ?_ ?_ | omega | simp (maxSteps := 9^7) only [go_sem])))
   (repeat' with_reducible first | intro _ | refine rz ?_ | refine ra ?_ ?_ | omega | simp (maxSteps := 9^7) only [go_sem])
   (refine QV.intro (.str x3) ?_ ?_; focus ((repeat' with_reducible first | intro _ | refine rz ?_ | refine ra ?_ ?_ | omega | simp (maxSteps := 9^7) only [go_sem]); refine VcCall.k (n3) ?_; (repeat' with_reducible first | intro _ | refine rz ?_ | refine ra ?_ ?_ | omega | simp (maxSteps := 9^7) only [go_sem])))
   (repeat' with_reducible first | intro _ | refine rz ?_ | refine ra ?_ ?_ | omega | simp (maxSteps := 9^7) only [go_sem])
   (refine QV.intro (.str x4) ?_ ?_; focus ((repeat' with_reducible first | intro _ | refine rz ?_ | refine ra ?_ ?_ | omega | simp (maxSteps := 9^7) only [go_sem]); refine VcCall.k (n4) ?_; (repeat' with_reducible first | intro _ | refine rz ?_ | refine ra ?_ ?_ | omega | simp (maxSteps := 9^7) only [go_sem])))
   (repeat' with_reducible first | intro _ | refine rz ?_ | refine ra ?_ ?_ | omega | simp (maxSteps := 9^7) only [go_sem])
   ·refine VcCall.k n4 ?_
    (repeat' with_reducible first | intro _ | refine rz ?_ | refine ra ?_ ?_ | omega | simp (maxSteps := 9^7) only [go_sem])
   ·refine VcCall.k n3 ?_
    (repeat' with_reducible first | intro _ | refine rz ?_ | refine ra ?_ ?_ | omega | simp (maxSteps := 9^7) only [go_sem])
   ·refine VcCall.k n2 ?_
    (repeat' with_reducible first | intro _ | refine rz ?_ | refine ra ?_ ?_ | omega | simp (maxSteps := 9^7) only [go_sem])
   rw [← hhead]
   refine VcCall.k ks ?_
   (repeat' with_reducible first | intro _ | refine rz ?_ | refine ra ?_ ?_ | omega | simp (maxSteps := 9^7) only [go_sem])
   refine Ret.auto 0 ?_ rfl ?_ <;> simp only [go_sem, Int.natCast_succ, Post]
 have f1 : ((y : Int) < (h : Int)) = True := eq_true (by omega)
 have hl := rowP_len hp hylt
 have hul := upP_len hp hylt
 have kr := rowOf_ok w h hw hh p hp y hylt
 have ku : (0 < y ∧ FnOk Tryz.prog 59 [.agg [.int .i64 w, .int .i64 h, .ro (.bools p)], .int .i64 ((y : Int) - 1)] (.ro (.bools (upP w p y))) []) ∨ (y = 0 ∧ upP w p y = List.replicate w false) := by
  by_cases h0 : y = 0
  ·exact .inr ⟨h0, by unfold upP; rw [if_pos h0]⟩
  ·refine .inl ⟨by omega, ?_⟩
   have e : upP w p y = rowP w p (y - 1) := by unfold upP; rw [if_neg h0]
   rw [e, show ((y : Int) - 1) = ((y - 1 : Nat) : Int) by omega]
   exact rowOf_ok w h hw hh p hp (y - 1) (by omega)
 have kuN := rowOfN_ok w h hw p
 have kl := refLine_ok (rowP w p y) (upP w p y) (by omega) (by omega)
 have hll := lineB_len2 (row := rowP w p y) (above := upP w p y) (by omega) (by omega)
 have hlp : 0 < (lineB (rowP w p y) (upP w p y)).length := lineB_pos (by omega) (by omega) (by omega)
 have hsucc := linesB_succ w p y
 have hbly2 := bl (y + 1) (by omega)
 generalize lineB (rowP w p y) (upP w p y) = lb at *
 generalize rowP w p y = rw_ at *
 generalize hup0 : upP w p y = ab at *
 generalize hlb0 : linesB w p y = o0 at *
 rcases ku with ⟨h0, ku⟩ | ⟨h0, ku⟩
 ·cases u with
  | true =>
   have kw2 := writeUsed_io o0 lb (by omega) (by omega)
   simp only [cond_true, cond_false, List.cons_append, List.nil_append]
   (repeat' with_reducible first | intro _ | refine rz ?_ | refine ra ?_ ?_ | omega | simp (maxSteps := 9^7) only [go_sem, f1])
   refine VcDraw.lex [8] [] (by kernel_rfl) (by kernel_rfl) ?_
   (repeat' with_reducible first | intro _ | refine rz ?_ | refine ra ?_ ?_ | omega | simp (maxSteps := 9^7) only [go_sem])
   refine QV.intro (.ro (.bools rw_)) ?_ ?_
   ·(repeat' with_reducible first | intro _ | refine rz ?_ | refine ra ?_ ?_ | omega | simp (maxSteps := 9^7) only [go_sem])
    refine VcCall.ros (.ro (.bools rw_)) kr (by simp only [noIdR_ok, argOkL, argOk, allOk, argOkN, List.drop_zero, lk, reduceIte, reduceCtorEq, Nat.reduceEqDiff, Option.some.injEq, Item.row.injEq, Item.box.injEq, AV.ro.injEq, exists_eq_left, exists_and_left, exists_eq_left', exists_eq_right, and_assoc, and_true, true_and, List.cons.injEq, exists_eq', exists_eq]) (by simp [outOk, argOkL, allOk, argOk, argOkN, lk, noIdR_ok]) rfl ?_
    (repeat' with_reducible first | intro _ | refine rz ?_ | refine ra ?_ ?_ | omega | simp (maxSteps := 9^7) only [go_sem])
   (repeat' with_reducible first | intro _ | refine rz ?_ | refine ra ?_ ?_ | omega | simp (maxSteps := 9^7) only [go_sem])
   refine QV.intro (.ro (.bools ab)) ?_ ?_
   ·(repeat' with_reducible first | intro _ | refine rz ?_ | refine ra ?_ ?_ | omega | simp (maxSteps := 9^7) only [go_sem])
    refine VcCall.ros (.ro (.bools ab)) ku (by simp only [noIdR_ok, argOkL, argOk, allOk, argOkN, List.drop_zero, lk, reduceIte, reduceCtorEq, Nat.reduceEqDiff, Option.some.injEq, Item.row.injEq, Item.box.injEq, AV.ro.injEq, exists_eq_left, exists_and_left, exists_eq_left', exists_eq_right, and_assoc, and_true, true_and, List.cons.injEq, exists_eq', exists_eq]) (by simp [outOk, argOkL, allOk, argOk, argOkN, lk, noIdR_ok]) rfl ?_
    (repeat' with_reducible first | intro _ | refine rz ?_ | refine ra ?_ ?_ | omega | simp (maxSteps := 9^7) only [go_sem])
   (repeat' with_reducible first | intro _ | refine rz ?_ | refine ra ?_ ?_ | omega | simp (maxSteps := 9^7) only [go_sem])
   (refine QV.intro (.str lb) ?_ ?_; focus ((repeat' with_reducible first | intro _ | refine rz ?_ | refine ra ?_ ?_ | omega | simp (maxSteps := 9^7) only [go_sem]); refine VcCall.k (kl) ?_; (repeat' with_reducible first | intro _ | refine rz ?_ | refine ra ?_ ?_ | omega | simp (maxSteps := 9^7) only [go_sem])))
   (repeat' with_reducible first | intro _ | refine rz ?_ | refine ra ?_ ?_ | omega | simp (maxSteps := 9^7) only [go_sem])
   refine QE.intro (.tup [.int .i64 lb.length, .raw .nilIface]) [(1, .box 89 [.ptr 1 0, .own 3]), (3, .row 5 (.ints .u8 (byteInts (o0 ++ lb)))), (0, .box 24 [.int .i64 w, .int .i64 h, .ro (.bools p)])] 4 ?_ ?_
   ·(repeat' with_reducible first | intro _ | refine rz ?_ | refine ra ?_ ?_ | omega | simp (maxSteps := 9^7) only [go_sem])
    refine VcCall.i [1, 2] kw2 3 ?_
    (repeat' with_reducible first | intro _ | refine rz ?_ | refine ra ?_ ?_ | omega | simp (maxSteps := 9^7) only [go_sem])
   (repeat' with_reducible first | intro _ | refine rz ?_ | refine ra ?_ ?_ | omega | simp (maxSteps := 9^7) only [go_sem])
   skip
   refine ⟨⟨y + 1, true⟩, Ent.auto0 rfl ?_ ?_, ⟨by dsimp only; omega, fun _ => by dsimp only; rw [hsucc, List.length_append]; omega, fun h => by (cases h)⟩, by dsimp only; omega⟩ <;> simp only [go_sem, Int.natCast_succ, hsucc]
   all_goals first | rfl | exact ⟨rfl, rfl⟩
  | false =>
   have kw2 := writeFresh_io lb (by omega)
   simp only [cond_true, cond_false, List.cons_append, List.nil_append]
   (repeat' with_reducible first | intro _ | refine rz ?_ | refine ra ?_ ?_ | omega | simp (maxSteps := 9^7) only [go_sem, f1])
   refine VcDraw.lex [8] [] (by kernel_rfl) (by kernel_rfl) ?_
   (repeat' with_reducible first | intro _ | refine rz ?_ | refine ra ?_ ?_ | omega | simp (maxSteps := 9^7) only [go_sem])
   refine QV.intro (.ro (.bools rw_)) ?_ ?_
   ·(repeat' with_reducible first | intro _ | refine rz ?_ | refine ra ?_ ?_ | omega | simp (maxSteps := 9^7) only [go_sem])
    refine VcCall.ros (.ro (.bools rw_)) kr (by simp only [noIdR_ok, argOkL, argOk, allOk, argOkN, List.drop_zero, lk, reduceIte, reduceCtorEq, Nat.reduceEqDiff, Option.some.injEq, Item.row.injEq, Item.box.injEq, AV.ro.injEq, exists_eq_left, exists_and_left, exists_eq_left', exists_eq_right, and_assoc, and_true, true_and, List.cons.injEq, exists_eq', exists_eq]) (by simp [outOk, argOkL, allOk, argOk, argOkN, lk, noIdR_ok]) rfl ?_
    (repeat' with_reducible first | intro _ | refine rz ?_ | refine ra ?_ ?_ | omega | simp (maxSteps := 9^7) only [go_sem])
   (repeat' with_reducible first | intro _ | refine rz ?_ | refine ra ?_ ?_ | omega | simp (maxSteps := 9^7) only [go_sem])
   refine QV.intro (.ro (.bools ab)) ?_ ?_
   ·(repeat' with_reducible first | intro _ | refine rz ?_ | refine ra ?_ ?_ | omega | simp (maxSteps := 9^7) only [go_sem])
    refine VcCall.ros (.ro (.bools ab)) ku (by simp only [noIdR_ok, argOkL, argOk, allOk, argOkN, List.drop_zero, lk, reduceIte, reduceCtorEq, Nat.reduceEqDiff, Option.some.injEq, Item.row.injEq, Item.box.injEq, AV.ro.injEq, exists_eq_left, exists_and_left, exists_eq_left', exists_eq_right, and_assoc, and_true, true_and, List.cons.injEq, exists_eq', exists_eq]) (by simp [outOk, argOkL, allOk, argOk, argOkN, lk, noIdR_ok]) rfl ?_
    (repeat' with_reducible first | intro _ | refine rz ?_ | refine ra ?_ ?_ | omega | simp (maxSteps := 9^7) only [go_sem])
   (repeat' with_reducible first | intro _ | refine rz ?_ | refine ra ?_ ?_ | omega | simp (maxSteps := 9^7) only [go_sem])
   (refine QV.intro (.str lb) ?_ ?_; focus ((repeat' with_reducible first | intro _ | refine rz ?_ | refine ra ?_ ?_ | omega | simp (maxSteps := 9^7) only [go_sem]); refine VcCall.k (kl) ?_; (repeat' with_reducible first | intro _ | refine rz ?_ | refine ra ?_ ?_ | omega | simp (maxSteps := 9^7) only [go_sem])))
   (repeat' with_reducible first | intro _ | refine rz ?_ | refine ra ?_ ?_ | omega | simp (maxSteps := 9^7) only [go_sem])
   refine QE.intro (.tup [.int .i64 lb.length, .raw .nilIface]) [(1, .box 89 [.ptr 1 0, .own 2]), (2, .row 5 (.ints .u8 (byteInts lb))), (0, .box 24 [.int .i64 w, .int .i64 h, .ro (.bools p)])] 3 ?_ ?_
   ·(repeat' with_reducible first | intro _ | refine rz ?_ | refine ra ?_ ?_ | omega | simp (maxSteps := 9^7) only [go_sem])
    refine VcCall.i [1] kw2 2 ?_
    (repeat' with_reducible first | intro _ | refine rz ?_ | refine ra ?_ ?_ | omega | simp (maxSteps := 9^7) only [go_sem])
   (repeat' with_reducible first | intro _ | refine rz ?_ | refine ra ?_ ?_ | omega | simp (maxSteps := 9^7) only [go_sem])
   have hz2 : linesB w p (y + 1) = lb := by rw [hsucc, hu2 rfl, List.nil_append]
   refine ⟨⟨y + 1, true⟩, Ent.auto0 rfl ?_ ?_, ⟨by dsimp only; omega, fun _ => by dsimp only; rw [hz2]; exact hlp, fun h => by (cases h)⟩, by dsimp only; omega⟩ <;> simp only [go_sem, Int.natCast_succ, hz2]
   all_goals first | rfl | exact ⟨rfl, rfl⟩
 ·cases u with
  | true =>
   have kw2 := writeUsed_io o0 lb (by omega) (by omega)
   simp only [cond_true, cond_false, List.cons_append, List.nil_append]
   rw [ku] at kl
   have e0 : (-1 : Int) = (y : Int) - 1 := by omega
   rw [e0] at kuN
   (repeat' with_reducible first | intro _ | refine rz ?_ | refine ra ?_ ?_ | omega | simp (maxSteps := 9^7) only [go_sem, f1])
   refine VcDraw.lex [8] [] (by kernel_rfl) (by kernel_rfl) ?_
   (repeat' with_reducible first | intro _ | refine rz ?_ | refine ra ?_ ?_ | omega | simp (maxSteps := 9^7) only [go_sem])
   refine QV.intro (.ro (.bools rw_)) ?_ ?_
   ·(repeat' with_reducible first | intro _ | refine rz ?_ | refine ra ?_ ?_ | omega | simp (maxSteps := 9^7) only [go_sem])
    refine VcCall.ros (.ro (.bools rw_)) kr (by simp only [noIdR_ok, argOkL, argOk, allOk, argOkN, List.drop_zero, lk, reduceIte, reduceCtorEq, Nat.reduceEqDiff, Option.some.injEq, Item.row.injEq, Item.box.injEq, AV.ro.injEq, exists_eq_left, exists_and_left, exists_eq_left', exists_eq_right, and_assoc, and_true, true_and, List.cons.injEq, exists_eq', exists_eq]) (by simp [outOk, argOkL, allOk, argOk, argOkN, lk, noIdR_ok]) rfl ?_
    (repeat' with_reducible first | intro _ | refine rz ?_ | refine ra ?_ ?_ | omega | simp (maxSteps := 9^7) only [go_sem])
   (repeat' with_reducible first | intro _ | refine rz ?_ | refine ra ?_ ?_ | omega | simp (maxSteps := 9^7) only [go_sem])
   refine QV.intro (.ro (.bools (List.replicate w false))) ?_ ?_
   ·(repeat' with_reducible first | intro _ | refine rz ?_ | refine ra ?_ ?_ | omega | simp (maxSteps := 9^7) only [go_sem])
    refine VcCall.ro (.ro (.bools (List.replicate w false))) (FnFr.of_ok kuN rfl (by simp [noRoRows, noRoItem, noRoRow, noRoL, noRo])) (by simp only [noIdR_ok, argOkL, argOk, allOk, argOkN, List.drop_zero, lk, reduceIte, reduceCtorEq, Nat.reduceEqDiff, Option.some.injEq, Item.row.injEq, Item.box.injEq, AV.ro.injEq, exists_eq_left, exists_and_left, exists_eq_left', exists_eq_right, and_assoc, and_true, true_and, List.cons.injEq, exists_eq', exists_eq]) (by simp [outOk, argOkL, allOk, argOk, argOkN, lk, noIdR_ok]) rfl ?_
    (repeat' with_reducible first | intro _ | refine rz ?_ | refine ra ?_ ?_ | omega | simp (maxSteps := 9^7) only [go_sem])
   (repeat' with_reducible first | intro _ | refine rz ?_ | refine ra ?_ ?_ | omega | simp (maxSteps := 9^7) only [go_sem])
   (refine QV.intro (.str lb) ?_ ?_; focus ((repeat' with_reducible first | intro _ | refine rz ?_ | refine ra ?_ ?_ | omega | simp (maxSteps := 9^7) only [go_sem]); refine VcCall.k (kl) ?_; (repeat' with_reducible first | intro _ | refine rz ?_ | refine ra ?_ ?_ | omega | simp (maxSteps := 9^7) only [go_sem])))
   (repeat' with_reducible first | intro _ | refine rz ?_ | refine ra ?_ ?_ | omega | simp (maxSteps := 9^7) only [go_sem])
   refine QE.intro (.tup [.int .i64 lb.length, .raw .nilIface]) [(1, .box 89 [.ptr 1 0, .own 3]), (3, .row 5 (.ints .u8 (byteInts (o0 ++ lb)))), (0, .box 24 [.int .i64 w, .int .i64 h, .ro (.bools p)])] 4 ?_ ?_
   ·(repeat' with_reducible first | intro _ | refine rz ?_ | refine ra ?_ ?_ | omega | simp (maxSteps := 9^7) only [go_sem])
    refine VcCall.i [1, 2] kw2 3 ?_
    (repeat' with_reducible first | intro _ | refine rz ?_ | refine ra ?_ ?_ | omega | simp (maxSteps := 9^7) only [go_sem])
   (repeat' with_reducible first | intro _ | refine rz ?_ | refine ra ?_ ?_ | omega | simp (maxSteps := 9^7) only [go_sem])
   skip
   refine ⟨⟨y + 1, true⟩, Ent.auto0 rfl ?_ ?_, ⟨by dsimp only; omega, fun _ => by dsimp only; rw [hsucc, List.length_append]; omega, fun h => by (cases h)⟩, by dsimp only; omega⟩ <;> simp only [go_sem, Int.natCast_succ, hsucc]
   all_goals first | rfl | exact ⟨rfl, rfl⟩
  | false =>
   have kw2 := writeFresh_io lb (by omega)
   simp only [cond_true, cond_false, List.cons_append, List.nil_append]
   rw [ku] at kl
   have e0 : (-1 : Int) = (y : Int) - 1 := by omega
   rw [e0] at kuN
   (repeat' with_reducible first | intro _ | refine rz ?_ | refine ra ?_ ?_ | omega | simp (maxSteps := 9^7) only [go_sem, f1])
   refine VcDraw.lex [8] [] (by kernel_rfl) (by kernel_rfl) ?_
   (repeat' with_reducible first | intro _ | refine rz ?_ | refine ra ?_ ?_ | omega | simp (maxSteps := 9^7) only [go_sem])
   refine QV.intro (.ro (.bools rw_)) ?_ ?_
   ·(repeat' with_reducible first | intro _ | refine rz ?_ | refine ra ?_ ?_ | omega | simp (maxSteps := 9^7) only [go_sem])
    refine VcCall.ros (.ro (.bools rw_)) kr (by simp only [noIdR_ok, argOkL, argOk, allOk, argOkN, List.drop_zero, lk, reduceIte, reduceCtorEq, Nat.reduceEqDiff, Option.some.injEq, Item.row.injEq, Item.box.injEq, AV.ro.injEq, exists_eq_left, exists_and_left, exists_eq_left', exists_eq_right, and_assoc, and_true, true_and, List.cons.injEq, exists_eq', exists_eq]) (by simp [outOk, argOkL, allOk, argOk, argOkN, lk, noIdR_ok]) rfl ?_
    (repeat' with_reducible first | intro _ | refine rz ?_ | refine ra ?_ ?_ | omega | simp (maxSteps := 9^7) only [go_sem])
   (repeat' with_reducible first | intro _ | refine rz ?_ | refine ra ?_ ?_ | omega | simp (maxSteps := 9^7) only [go_sem])
   refine QV.intro (.ro (.bools (List.replicate w false))) ?_ ?_
   ·(repeat' with_reducible first | intro _ | refine rz ?_ | refine ra ?_ ?_ | omega | simp (maxSteps := 9^7) only [go_sem])
    refine VcCall.ro (.ro (.bools (List.replicate w false))) (FnFr.of_ok kuN rfl (by simp [noRoRows, noRoItem, noRoRow, noRoL, noRo])) (by simp only [noIdR_ok, argOkL, argOk, allOk, argOkN, List.drop_zero, lk, reduceIte, reduceCtorEq, Nat.reduceEqDiff, Option.some.injEq, Item.row.injEq, Item.box.injEq, AV.ro.injEq, exists_eq_left, exists_and_left, exists_eq_left', exists_eq_right, and_assoc, and_true, true_and, List.cons.injEq, exists_eq', exists_eq]) (by simp [outOk, argOkL, allOk, argOk, argOkN, lk, noIdR_ok]) rfl ?_
    (repeat' with_reducible first | intro _ | refine rz ?_ | refine ra ?_ ?_ | omega | simp (maxSteps := 9^7) only [go_sem])
   (repeat' with_reducible first | intro _ | refine rz ?_ | refine ra ?_ ?_ | omega | simp (maxSteps := 9^7) only [go_sem])
   (refine QV.intro (.str lb) ?_ ?_; focus ((repeat' with_reducible first | intro _ | refine rz ?_ | refine ra ?_ ?_ | omega | simp (maxSteps := 9^7) only [go_sem]); refine VcCall.k (kl) ?_; (repeat' with_reducible first | intro _ | refine rz ?_ | refine ra ?_ ?_ | omega | simp (maxSteps := 9^7) only [go_sem])))
   (repeat' with_reducible first | intro _ | refine rz ?_ | refine ra ?_ ?_ | omega | simp (maxSteps := 9^7) only [go_sem])
   refine QE.intro (.tup [.int .i64 lb.length, .raw .nilIface]) [(1, .box 89 [.ptr 1 0, .own 2]), (2, .row 5 (.ints .u8 (byteInts lb))), (0, .box 24 [.int .i64 w, .int .i64 h, .ro (.bools p)])] 3 ?_ ?_
   ·(repeat' with_reducible first | intro _ | refine rz ?_ | refine ra ?_ ?_ | omega | simp (maxSteps := 9^7) only [go_sem])
    refine VcCall.i [1] kw2 2 ?_
    (repeat' with_reducible first | intro _ | refine rz ?_ | refine ra ?_ ?_ | omega | simp (maxSteps := 9^7) only [go_sem])
   (repeat' with_reducible first | intro _ | refine rz ?_ | refine ra ?_ ?_ | omega | simp (maxSteps := 9^7) only [go_sem])
   have hz2 : linesB w p (y + 1) = lb := by rw [hsucc, hu2 rfl, List.nil_append]
   refine ⟨⟨y + 1, true⟩, Ent.auto0 rfl ?_ ?_, ⟨by dsimp only; omega, fun _ => by dsimp only; rw [hz2]; exact hlp, fun h => by (cases h)⟩, by dsimp only; omega⟩ <;> simp only [go_sem, Int.natCast_succ, hz2]
   all_goals first | rfl | exact ⟨rfl, rfl⟩
end Go.Fv.H
