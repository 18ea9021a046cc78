/-
  A part of the proof of the claim: walks over the program's functions and the plain laws that these need. No condition of its own.
-/
import Derived.Test.YtodlgmmbfbiilaaGreatDoorHJoinCardPart2
import Derived.Test.YtodlgmmbfbiilaaGreatDoorHJoinCardPart3
import Derived.Test.YtodlgmmbfbiilaaGreatDoorHJoinCardPart5
import Derived.Test.YtodlgmmbfbiilaaGreatDoorHJoinCardPart1
import Derived.Test.YtodlgmmbfbiilaaGreatDoorFvPart10
/- shrink.dataOf: the walk. -/
namespace Go.Fv.H
open Go Go.Proofs
set_option linter.unusedSimpArgs false
set_option linter.unusedVariables false
set_option linter.unnecessarySimpa false
set_option maxRecDepth 8000
theorem lineB_len2 {row above : List Bool} (hr : row.length ≤ 4000) (hw : above.length = row.length) : (lineB row above).length ≤ 100 * (row.length + 1) := by
 have key : ∀ (f p : Nat) (ink : Bool), row.length + 1 - p ≤ f → (lnGo row above p ink).length ≤ 100 * f := by
  intro f
  induction f with
  | zero => intro p ink h; rw [lnGo_end (by omega)]; simp
  | succ f ih =>
   intro p ink h
   by_cases hp : p ≤ row.length
   ·have hs := lnStep_lt hw hp ink
    have hsh := lnStep_short (above := above) hr p ink
    rw [lnGo_step hw hp, List.length_append]
    have := ih (lnStep row above p ink).p (lnStep row above p ink).k (by omega)
    omega
   ·rw [lnGo_end hp]; simp
 unfold lineB
 split
 ·simp
 ·exact key (row.length + 1) 0 false (by omega)
theorem upP_len {w h : Nat} {p : List Bool} (hp : p.length = w * h) {y : Nat} (hy : y < h) : (upP w p y).length = w := by
 unfold upP
 split
 ·exact List.length_replicate
 ·exact rowP_len hp (by omega)
theorem linesB_succ (w : Nat) (p : List Bool) (y : Nat) : linesB w p (y + 1) = linesB w p y ++ lineB (rowP w p y) (upP w p y) := by
 unfold linesB; rw [List.range_succ, List.flatMap_append]; simp
theorem runsB_succ (w : Nat) (p : List Bool) (y : Nat) : runsB w p (y + 1) = runsB w p y ++ runsG (runRow (rowP w p y)) := by
 unfold runsB; rw [List.range_succ, List.flatMap_append]; simp
theorem runsG_take {l : List Int} {j : Nat} (h : j < l.length) : runsG (l.take (j + 1)) = runsG (l.take j) ++ gamB (l.getD j 0 + 1).toNat := by
 unfold runsG; rw [List.take_succ_eq_append_getElem h, List.flatMap_append, getD_lt h]; simp
theorem runRow_bd (r : List Bool) : (runRow r).length ≤ r.length + 1 ∧ ∀ x, x ∈ runRow r → 0 ≤ x ∧ x ≤ r.length := by
 obtain ⟨h1, _, h3⟩ := runsAt_inv r r.length
 exact ⟨h1, h3⟩
theorem linesB_len {w h : Nat} {p : List Bool} (hw : w ≤ 4000) (hp : p.length = w * h) : ∀ y, y ≤ h → (linesB w p y).length ≤ 100 * (w + 1) * y
 | 0, _ => by simp [linesB]
 | y + 1, hy => by
  have h1 := linesB_len hw hp y (by omega)
  have hl := rowP_len hp (y := y) (by omega)
  have h2 := lineB_len2 (row := rowP w p y) (above := upP w p y) (by omega) (by rw [upP_len hp (by omega), hl])
  rw [hl] at h2
  rw [linesB_succ, List.length_append, Nat.mul_succ]; omega
theorem runsG_len {l : List Int} (hl : ∀ x, x ∈ l → 0 ≤ x ∧ x ≤ 4000) : (runsG l).length ≤ 41 * l.length := by
 induction l with
 | nil => simp [runsG]
 | cons x l ih =>
  have h1 := ih fun y hy => hl y (.tail _ hy)
  have h2 := hl x (.head _)
  have h3 := gam_short (n := (x + 1).toNat) (by omega)
  have e : runsG (x :: l) = gamB (x + 1).toNat ++ runsG l := by unfold runsG; simp
  rw [e, List.length_append, List.length_cons]; omega
theorem runsB_len {w h : Nat} {p : List Bool} (hw : w ≤ 4000) (hp : p.length = w * h) : ∀ y, y ≤ h → (runsB w p y).length ≤ 41 * (w + 1) * y
 | 0, _ => by simp [runsB]
 | y + 1, hy => by
  have h1 := runsB_len hw hp y (by omega)
  have hl := rowP_len hp (y := y) (by omega)
  obtain ⟨h2, h3⟩ := runRow_bd (rowP w p y)
  have h4 := runsG_len (l := runRow (rowP w p y)) fun x hx => by have := h3 x hx; omega
  rw [runsB_succ, List.length_append, Nat.mul_succ]
  rw [hl] at h2
  have h5 : 41 * (runRow (rowP w p y)).length ≤ 41 * (w + 1) := Nat.mul_le_mul_left _ h2
  omega
theorem lineB_pos {row above : List Bool} (h0 : 0 < row.length) (hr : row.length ≤ 4000) (hw : above.length = row.length) : 0 < (lineB row above).length := by
 unfold lineB
 rw [if_neg (by omega), lnGo_step hw (by omega), List.length_append]
 have hs : 0 < (lnStep row above 0 false).c.length := by
  unfold lnStep
  split
  ·exact (by decide : 0 < passC.length)
  ·split
   ·dsimp only; exact near_pos (by omega)
   ·dsimp only; rw [List.length_append]; have : farC.length = 3 := rfl; omega
 omega
structure DX where
 y : Nat
 u : Bool
structure DR where
 j : Nat
 u : Bool
structure BU (o : Bytes) (u : Bool) : Prop where
 h1 : u = true → 0 < o.length
 h2 : u = false → o = []
theorem gam_pos (n : Nat) : 0 < (gamB n).length := by
 have := bin_pos n
 rw [gam_len]; omega
set_option maxHeartbeats 16000000 in
theorem dataOf_ok (w h : Nat) (hw0 : 0 < w) (hw : w ≤ 4000) (hh : h ≤ 4000) (hwh : w * h ≤ 1048576) (p : List Bool) (hp : p.length = w * h) (kind : Int) :
  FnOk Tryz.prog 107 [.agg [.int .i64 w, .int .i64 h, .ro (.bools p)], .int .i64 kind] (.own 0) [(0, .row 5 (.ints .u8 (byteInts (dataB w h p kind))))] := by
 refine FnOk.of_vc Tryz.func107 rfl (by decide) (by simp [Tryz.f107]) [.tmp 4] rfl fun w0 T0 _ => ?_
 simp only [Tryz.f107, argEnv]
 by_cases c1 : kind = 1
 ·have e : dataB w h p kind = packB (bitsS p) := if_pos c1
  rw [e]
  have k1 := bitsOf_ok (w : Int) (h : Int) p (by omega)
  have k2 := packed_ok (bitsS p) (by rw [bitsS_len]; omega)
  have g1 : (kind = 1) = True := eq_true c1
  (repeat' with_reducible first | intro _ | refine rz ?_ | refine ra ?_ ?_ | omega | simp (maxSteps := 9^7) only [go_sem, g1])
  refine VcCall.k k1 ?_
  (repeat' with_reducible first | intro _ | refine rz ?_ | refine ra ?_ ?_ | omega | simp (maxSteps := 9^7) only [go_sem])
  refine VcCall.o k2 1 ?_
  (repeat' with_reducible first | intro _ | refine rz ?_ | refine ra ?_ ?_ | omega | simp (maxSteps := 9^7) only [go_sem])
  refine Ret.auto 1 ?_ rfl ?_ <;> simp only [go_sem, Int.natCast_succ, Post]
 have g1 : (kind = 1) = False := eq_false c1
 by_cases c4 : kind = 4
 ·have e : dataB w h p kind = adB w h p := by unfold dataB; rw [if_neg c1, if_pos c4]
  rw [e]
  have k1 := adaptive_ok w h hw0 hw hh hwh p hp
  have g4 : (kind = 4) = True := eq_true c4
  (repeat' with_reducible first | intro _ | refine rz ?_ | refine ra ?_ ?_ | omega | simp (maxSteps := 9^7) only [go_sem, g1, g4])
  refine VcCall.o k1 1 ?_
  (repeat' with_reducible first | intro _ | refine rz ?_ | refine ra ?_ ?_ | omega | simp (maxSteps := 9^7) only [go_sem])
  refine Ret.auto 1 ?_ rfl ?_ <;> simp only [go_sem, Int.natCast_succ, Post]
 have g4 : (kind = 4) = False := eq_false c4
 have b1 : 41 * (w + 1) * h ≤ 100000000 := by
  have : (w + 1) * h ≤ 1052576 := by rw [Nat.add_mul, Nat.one_mul]; omega
  rw [Nat.mul_assoc]; omega
 have b2 : 100 * (w + 1) * h ≤ 200000000 := by
  have : (w + 1) * h ≤ 1052576 := by rw [Nat.add_mul, Nat.one_mul]; omega
  rw [Nat.mul_assoc]; omega
 by_cases c2 : kind = 2
 ·have e : dataB w h p kind = packB (runsB w p h) := by unfold dataB; rw [if_neg c1, if_neg c4, if_pos c2]
  rw [e]
  have g2 : (kind = 2) = True := eq_true c2
  have bl := runsB_len hw hp
  (repeat' with_reducible first | intro _ | refine rz ?_ | refine ra ?_ ?_ | omega | simp (maxSteps := 9^7) only [go_sem, g1, g4, g2])
  refine VcLoop.intro (fun x : DX => ⟨63, [(43, .int .i64 x.y), (42, .int .i64 h), (5, .ptr 1 0), (2, .ptr 0 0)], (0, .box 24 [.int .i64 w, .int .i64 h, .ro (.bools p)]) :: (bif x.u then [(1, .box 89 [.ptr 1 0, .own 2]), (2, .row 5 (.ints .u8 (byteInts (runsB w p x.y))))] else [(1, .box 89 [.raw (.pointer none), .nilS])]), bif x.u then 3 else 2⟩) (fun x => x.y ≤ h ∧ BU (runsB w p x.y) x.u) (fun x => h - x.y) ⟨0, false⟩ ?_ ⟨Nat.zero_le _, fun h => by (cases h), fun _ => rfl⟩ fun x hx => ?_
  ·refine Ent.auto0 rfl ?_ ?_ <;> simp only [go_sem, Int.natCast_succ]
   all_goals first | rfl | exact ⟨rfl, rfl⟩
  obtain ⟨y, u⟩ := x
  obtain ⟨hy, hu1, hu2⟩ := hx
  dsimp only at hy hu1 hu2 ⊢
  have hbly := bl y hy
  have hmy : 41 * (w + 1) * y ≤ 41 * (w + 1) * h := Nat.mul_le_mul_left _ hy
  by_cases hylt : y < h
  rotate_left
  ·have f1 : ((y : Int) < (h : Int)) = False := eq_false (by omega)
   have e : y = h := by omega
   subst e
   have k2 := packed_ok (runsB w p y) (by omega)
   cases u with
   | true =>
    have kst := stringUsed_io (runsB w p y) (hu1 rfl)
    simp only [cond_true, cond_false, List.cons_append, List.nil_append]
    (repeat' with_reducible first | intro _ | refine rz ?_ | refine ra ?_ ?_ | omega | simp (maxSteps := 9^7) only [go_sem, f1])
    refine VcCall.i [1, 2] kst 2 ?_
    (repeat' with_reducible first | intro _ | refine rz ?_ | refine ra ?_ ?_ | omega | simp (maxSteps := 9^7) only [go_sem])
    refine VcCall.o k2 1 ?_
    (repeat' with_reducible first | intro _ | refine rz ?_ | refine ra ?_ ?_ | omega | simp (maxSteps := 9^7) only [go_sem])
    refine Ret.auto 1 ?_ rfl ?_ <;> simp only [go_sem, Int.natCast_succ, Post]
   | false =>
    have hz := hu2 rfl
    rw [hz] at k2 ⊢
    have kst := stringFresh_io
    simp only [cond_true, cond_false, List.cons_append, List.nil_append]
    (repeat' with_reducible first | intro _ | refine rz ?_ | refine ra ?_ ?_ | omega | simp (maxSteps := 9^7) only [go_sem, f1])
    refine VcCall.i [1] kst 1 ?_
    (repeat' with_reducible first | intro _ | refine rz ?_ | refine ra ?_ ?_ | omega | simp (maxSteps := 9^7) only [go_sem])
    refine VcCall.o k2 1 ?_
    (repeat' with_reducible first | intro _ | refine rz ?_ | refine ra ?_ ?_ | omega | simp (maxSteps := 9^7) only [go_sem])
    refine Ret.auto 1 ?_ rfl ?_ <;> simp only [go_sem, Int.natCast_succ, Post]
  have f1 : ((y : Int) < (h : Int)) = True := eq_true (by omega)
  have hl := rowP_len hp hylt
  have kr := row_ok w h hw hh p hp y hylt
  have kn := runs_ok (rowP w p y) (by omega)
  obtain ⟨n1, n2⟩ := runRow_bd (rowP w p y)
  have hsucc := runsB_succ w p y
  have hbly2 := bl (y + 1) (by omega)
  have hrr : (runsAt (rowP w p y) (rowP w p y).length).1 = runRow (rowP w p y) := rfl
  rw [hrr] at kn
  generalize hL : runRow (rowP w p y) = L at *
  generalize rowP w p y = rw_ at *
  generalize runsB w p y = o0 at *
  (repeat' with_reducible first | intro _ | refine rz ?_ | refine ra ?_ ?_ | omega | simp (maxSteps := 9^7) only [go_sem, f1])
  refine VcCall.ros (.ro (.bools rw_)) kr (by simp only [noIdR_ok, argOkL, argOk, allOk, argOkN, List.drop_zero, lk, reduceIte, reduceCtorEq, Nat.reduceEqDiff, Option.some.injEq, Item.row.injEq, Item.box.injEq, AV.ro.injEq, exists_eq_left, exists_and_left, exists_eq_left', exists_eq_right, and_assoc, and_true, true_and, List.cons.injEq, exists_eq', exists_eq]) (by simp [outOk, argOkL, allOk, argOk, argOkN, lk, noIdR_ok]) rfl ?_
  (repeat' with_reducible first | intro _ | refine rz ?_ | refine ra ?_ ?_ | omega | simp (maxSteps := 9^7) only [go_sem])
  refine VcCall.ro (.ro (.ints .i64 L)) (FnFr.of_ok kn rfl (by simp [noRoRows, noRoItem, noRoRow, noRoL, noRo])) (by simp only [noIdR_ok, argOkL, argOk, allOk, argOkN, List.drop_zero, lk, reduceIte, reduceCtorEq, Nat.reduceEqDiff, Option.some.injEq, Item.row.injEq, Item.box.injEq, AV.ro.injEq, exists_eq_left, exists_and_left, exists_eq_left', exists_eq_right, and_assoc, and_true, true_and, List.cons.injEq, exists_eq', exists_eq]) (by simp [outOk, argOkL, allOk, argOk, argOkN, lk, noIdR_ok]) rfl ?_
  (repeat' with_reducible first | intro _ | refine rz ?_ | refine ra ?_ ?_ | omega | simp (maxSteps := 9^7) only [go_sem])
  refine VcLoop.intro (fun x : DR => ⟨63, [(51, .int .i64 x.j), (50, .int .i64 L.length), (49, .ro (.ints .i64 L)), (43, .int .i64 y), (42, .int .i64 h), (5, .ptr 1 0), (2, .ptr 0 0)], (0, .box 24 [.int .i64 w, .int .i64 h, .ro (.bools p)]) :: (bif x.u then [(1, .box 89 [.ptr 1 0, .own 2]), (2, .row 5 (.ints .u8 (byteInts (o0 ++ runsG (L.take x.j)))))] else [(1, .box 89 [.raw (.pointer none), .nilS])]), bif x.u then 3 else 2⟩) (fun x => x.j ≤ L.length ∧ BU (o0 ++ runsG (L.take x.j)) x.u) (fun x => L.length - x.j) ⟨0, u⟩ ?_ ⟨Nat.zero_le _, by
   have e : o0 ++ runsG (L.take 0) = o0 := by simp [runsG]
   rw [e]; exact ⟨hu1, hu2⟩⟩ fun x hx => ?_
  ·have e : runsG [] = [] := rfl
   cases u <;> (simp only [cond_true, cond_false]; refine Ent.auto0 rfl ?_ ?_ <;> simp only [go_sem, Int.natCast_succ, e])
   all_goals first | rfl | exact ⟨rfl, rfl⟩
  obtain ⟨j, v⟩ := x
  obtain ⟨hj, hv1, hv2⟩ := hx
  dsimp only at hj hv1 hv2 ⊢
  have hgl : (runsG (L.take j)).length ≤ 41 * 4001 := by
   have h1 := runsG_len (l := L.take j) fun x hx => by have := n2 x (List.mem_of_mem_take hx); omega
   have h2 : (L.take j).length ≤ 4001 := by rw [List.length_take]; omega
   omega
  have hbq : 41 * (w + 1) * y ≤ 100000000 := by omega
  by_cases hjlt : j < L.length
  rotate_left
  ·have fj : ((j : Int) < (L.length : Int)) = False := eq_false (by omega)
   have hjl : L.take j = L := List.take_of_length_le (by omega)
   rw [hjl] at hv1 hv2 ⊢
   cases v <;>
    (simp only [cond_true, cond_false, List.cons_append, List.nil_append]
     (repeat' with_reducible first | intro _ | refine rz ?_ | refine ra ?_ ?_ | omega | simp (maxSteps := 9^7) only [go_sem, fj]))
   ·refine ⟨⟨y + 1, false⟩, Ent.auto0 rfl ?_ ?_, ⟨by dsimp only; omega, by rw [hsucc]; exact ⟨hv1, hv2⟩⟩, by dsimp only; omega⟩ <;> simp only [go_sem, Int.natCast_succ, hsucc]
    all_goals first | rfl | exact ⟨rfl, rfl⟩
   ·refine ⟨⟨y + 1, true⟩, Ent.auto0 rfl ?_ ?_, ⟨by dsimp only; omega, by rw [hsucc]; exact ⟨hv1, hv2⟩⟩, by dsimp only; omega⟩ <;> simp only [go_sem, Int.natCast_succ, hsucc]
    all_goals first | rfl | exact ⟨rfl, rfl⟩
  have fj : ((j : Int) < (L.length : Int)) = True := eq_true (by omega)
  have htk := runsG_take hjlt
  have hnb := n2 (L.getD j 0) (by rw [getD_lt hjlt]; exact List.getElem_mem hjlt)
  have kg := gamma_ok (L.getD j 0 + 1).toNat (by omega)
  rw [show (((L.getD j 0 + 1).toNat : Nat) : Int) = L.getD j 0 + 1 by omega] at kg
  have hgp := gam_pos (L.getD j 0 + 1).toNat
  have hgs := gam_short (n := (L.getD j 0 + 1).toNat) (by omega)
  generalize gamB (L.getD j 0 + 1).toNat = g at *
  generalize hn0 : L.getD j 0 = n0 at *
  cases v with
  | true =>
   have kw2 := writeUsed_io (o0 ++ runsG (L.take j)) g (by rw [List.length_append]; omega) (by omega)
   simp only [cond_true, cond_false, List.cons_append, List.nil_append]
   (repeat' with_reducible first | intro _ | refine rz ?_ | refine ra ?_ ?_ | omega | simp (maxSteps := 9^7) only [go_sem, fj, hn0])
   refine VcCall.k kg ?_
   (repeat' with_reducible first | intro _ | refine rz ?_ | refine ra ?_ ?_ | omega | simp (maxSteps := 9^7) only [go_sem])
   refine VcCall.i [1, 2] kw2 3 ?_
   (repeat' with_reducible first | intro _ | refine rz ?_ | refine ra ?_ ?_ | omega | simp (maxSteps := 9^7) only [go_sem])
   refine ⟨⟨j + 1, true⟩, Ent.auto0 rfl ?_ ?_, ⟨by dsimp only; omega, fun _ => by dsimp only; rw [htk, List.length_append, List.length_append]; omega, fun h => by (cases h)⟩, by dsimp only; omega⟩ <;> simp only [go_sem, Int.natCast_succ, htk, List.append_assoc]
   all_goals first | rfl | exact ⟨rfl, rfl⟩
  | false =>
   have hz := hv2 rfl
   have kw2 := writeFresh_io g (by omega)
   simp only [cond_true, cond_false, List.cons_append, List.nil_append]
   (repeat' with_reducible first | intro _ | refine rz ?_ | refine ra ?_ ?_ | omega | simp (maxSteps := 9^7) only [go_sem, fj, hn0])
   refine VcCall.k kg ?_
   (repeat' with_reducible first | intro _ | refine rz ?_ | refine ra ?_ ?_ | omega | simp (maxSteps := 9^7) only [go_sem])
   refine VcCall.i [1] kw2 2 ?_
   (repeat' with_reducible first | intro _ | refine rz ?_ | refine ra ?_ ?_ | omega | simp (maxSteps := 9^7) only [go_sem])
   have hz2 : o0 ++ runsG (L.take (j + 1)) = g := by rw [htk, ← List.append_assoc, hz, List.nil_append]
   refine ⟨⟨j + 1, true⟩, Ent.auto0 rfl ?_ ?_, ⟨by dsimp only; omega, fun _ => by dsimp only; rw [hz2]; omega, fun h => by (cases h)⟩, by dsimp only; omega⟩ <;> simp only [go_sem, Int.natCast_succ, hz2]
   all_goals first | rfl | exact ⟨rfl, rfl⟩
 have e : dataB w h p kind = packB (linesB w p h) := by unfold dataB; rw [if_neg c1, if_neg c4, if_neg c2]
 rw [e]
 have g2 : (kind = 2) = False := eq_false c2
 have bl := linesB_len hw hp
 (repeat' with_reducible first | intro _ | refine rz ?_ | refine ra ?_ ?_ | omega | simp (maxSteps := 9^7) only [go_sem, g1, g4, g2])
 refine VcLoop.intro (fun x : DX => ⟨63, [(17, .int .i64 x.y), (16, .int .i64 h), (9, .ro (.bools (upP w p x.y))), (5, .ptr 1 0), (2, .ptr 0 0)], (0, .box 24 [.int .i64 w, .int .i64 h, .ro (.bools p)]) :: (bif x.u then [(1, .box 89 [.ptr 1 0, .own 2]), (2, .row 5 (.ints .u8 (byteInts (linesB w p x.y))))] else [(1, .box 89 [.raw (.pointer none), .nilS])]), bif x.u then 3 else 2⟩) (fun x => x.y ≤ h ∧ BU (linesB w p x.y) x.u) (fun x => h - x.y) ⟨0, false⟩ ?_ ⟨Nat.zero_le _, fun h => by (cases h), fun _ => rfl⟩ fun x hx => ?_
 ·have e0 : upP w p 0 = List.replicate w false := rfl
  refine Ent.trans (Ent.fz 3 (e := 4) (r := .bools (List.replicate w false)) rfl rfl (Nat.zero_le _)) (Ent.auto0 rfl ?_ ?_) <;> simp only [go_sem, Int.natCast_succ, e0]
  all_goals first | rfl | exact ⟨rfl, rfl⟩ | trace_state
 obtain ⟨y, u⟩ := x
 obtain ⟨hy, hu1, hu2⟩ := hx
 dsimp only at hy hu1 hu2 ⊢
 have hbly := bl y hy
 have hmy : 100 * (w + 1) * y ≤ 100 * (w + 1) * h := Nat.mul_le_mul_left _ hy
 by_cases hylt : y < h
 rotate_left
 ·have f1 : ((y : Int) < (h : Int)) = False := eq_false (by omega)
  have e : y = h := by omega
  subst e
  have k2 := packed_ok (linesB w p y) (by omega)
  cases u with
  | true =>
   have kst := stringUsed_io (linesB w p y) (hu1 rfl)
   simp only [cond_true, cond_false, List.cons_append, List.nil_append]
   (repeat' with_reducible first | intro _ | refine rz ?_ | refine ra ?_ ?_ | omega | simp (maxSteps := 9^7) only [go_sem, f1])
   refine VcCall.i [1, 2] kst 2 ?_
   (repeat' with_reducible first | intro _ | refine rz ?_ | refine ra ?_ ?_ | omega | simp (maxSteps := 9^7) only [go_sem])
   refine VcCall.o k2 1 ?_
   (repeat' with_reducible first | intro _ | refine rz ?_ | refine ra ?_ ?_ | omega | simp (maxSteps := 9^7) only [go_sem])
   refine Ret.auto 1 ?_ rfl ?_ <;> simp only [go_sem, Int.natCast_succ, Post]
  | false =>
   have hz := hu2 rfl
   rw [hz] at k2 ⊢
   have kst := stringFresh_io
   simp only [cond_true, cond_false, List.cons_append, List.nil_append]
   (repeat' with_reducible first | intro _ | refine rz ?_ | refine ra ?_ ?_ | omega | simp (maxSteps := 9^7) only [go_sem, f1])
   refine VcCall.i [1] kst 1 ?_
   (repeat' with_reducible first | intro _ | refine rz ?_ | refine ra ?_ ?_ | omega | simp (maxSteps := 9^7) only [go_sem])
   refine VcCall.o k2 1 ?_
   (repeat' with_reducible first | intro _ | refine rz ?_ | refine ra ?_ ?_ | omega | simp (maxSteps := 9^7) only [go_sem])
   refine Ret.auto 1 ?_ rfl ?_ <;> simp only [go_sem, Int.natCast_succ, Post]
 have f1 : ((y : Int) < (h : Int)) = True := eq_true (by omega)
 have hl := rowP_len hp hylt
 have hul := upP_len hp hylt
 have kr := row_ok w h hw hh p hp y hylt
 have kl := line_ok (rowP w p y) (upP w p y) (by omega) (by omega)
 have hll := lineB_len2 (row := rowP w p y) (above := upP w p y) (by omega) (by omega)
 have hlp : 0 < (lineB (rowP w p y) (upP w p y)).length := lineB_pos (by omega) (by omega) (by omega)
 have hsucc := linesB_succ w p y
 have hbly2 := bl (y + 1) (by omega)
 have hup : upP w p (y + 1) = rowP w p y := by unfold upP; rw [if_neg (by omega)]; rfl
 generalize lineB (rowP w p y) (upP w p y) = lb at *
 generalize rowP w p y = rw_ at *
 generalize hup0 : upP w p y = ab at *
 generalize hlb0 : linesB w p y = o0 at *
 cases u with
 | true =>
  have kw2 := writeUsed_io o0 lb (by omega) (by omega)
  simp only [cond_true, cond_false, List.cons_append, List.nil_append]
  (repeat' with_reducible first | intro _ | refine rz ?_ | refine ra ?_ ?_ | omega | simp (maxSteps := 9^7) only [go_sem, f1])
  refine VcCall.ros (.ro (.bools rw_)) kr (by simp only [noIdR_ok, argOkL, argOk, allOk, argOkN, List.drop_zero, lk, reduceIte, reduceCtorEq, Nat.reduceEqDiff, Option.some.injEq, Item.row.injEq, Item.box.injEq, AV.ro.injEq, exists_eq_left, exists_and_left, exists_eq_left', exists_eq_right, and_assoc, and_true, true_and, List.cons.injEq, exists_eq', exists_eq]) (by simp [outOk, argOkL, allOk, argOk, argOkN, lk, noIdR_ok]) rfl ?_
  (repeat' with_reducible first | intro _ | refine rz ?_ | refine ra ?_ ?_ | omega | simp (maxSteps := 9^7) only [go_sem])
  refine VcCall.k kl ?_
  (repeat' with_reducible first | intro _ | refine rz ?_ | refine ra ?_ ?_ | omega | simp (maxSteps := 9^7) only [go_sem])
  refine VcCall.i [1, 2] kw2 3 ?_
  (repeat' with_reducible first | intro _ | refine rz ?_ | refine ra ?_ ?_ | omega | simp (maxSteps := 9^7) only [go_sem])
  refine VcCall.ros (.ro (.bools rw_)) kr (by simp only [noIdR_ok, argOkL, argOk, allOk, argOkN, List.drop_zero, lk, reduceIte, reduceCtorEq, Nat.reduceEqDiff, Option.some.injEq, Item.row.injEq, Item.box.injEq, AV.ro.injEq, exists_eq_left, exists_and_left, exists_eq_left', exists_eq_right, and_assoc, and_true, true_and, List.cons.injEq, exists_eq', exists_eq]) (by simp [outOk, argOkL, allOk, argOk, argOkN, lk, noIdR_ok]) rfl ?_
  (repeat' with_reducible first | intro _ | refine rz ?_ | refine ra ?_ ?_ | omega | simp (maxSteps := 9^7) only [go_sem])
  refine ⟨⟨y + 1, true⟩, Ent.auto0 rfl ?_ ?_, ⟨by dsimp only; omega, fun _ => by dsimp only; rw [hsucc, List.length_append]; omega, fun h => by (cases h)⟩, by dsimp only; omega⟩ <;> simp only [go_sem, Int.natCast_succ, hsucc, hup]
  all_goals first | rfl | exact ⟨rfl, rfl⟩
 | false =>
  have kw2 := writeFresh_io lb (by omega)
  simp only [cond_true, cond_false, List.cons_append, List.nil_append]
  (repeat' with_reducible first | intro _ | refine rz ?_ | refine ra ?_ ?_ | omega | simp (maxSteps := 9^7) only [go_sem, f1])
  refine VcCall.ros (.ro (.bools rw_)) kr (by simp only [noIdR_ok, argOkL, argOk, allOk, argOkN, List.drop_zero, lk, reduceIte, reduceCtorEq, Nat.reduceEqDiff, Option.some.injEq, Item.row.injEq, Item.box.injEq, AV.ro.injEq, exists_eq_left, exists_and_left, exists_eq_left', exists_eq_right, and_assoc, and_true, true_and, List.cons.injEq, exists_eq', exists_eq]) (by simp [outOk, argOkL, allOk, argOk, argOkN, lk, noIdR_ok]) rfl ?_
  (repeat' with_reducible first | intro _ | refine rz ?_ | refine ra ?_ ?_ | omega | simp (maxSteps := 9^7) only [go_sem])
  refine VcCall.k kl ?_
  (repeat' with_reducible first | intro _ | refine rz ?_ | refine ra ?_ ?_ | omega | simp (maxSteps := 9^7) only [go_sem])
  refine VcCall.i [1] kw2 2 ?_
  (repeat' with_reducible first | intro _ | refine rz ?_ | refine ra ?_ ?_ | omega | simp (maxSteps := 9^7) only [go_sem])
  refine VcCall.ros (.ro (.bools rw_)) kr (by simp only [noIdR_ok, argOkL, argOk, allOk, argOkN, List.drop_zero, lk, reduceIte, reduceCtorEq, Nat.reduceEqDiff, Option.some.injEq, Item.row.injEq, Item.box.injEq, AV.ro.injEq, exists_eq_left, exists_and_left, exists_eq_left', exists_eq_right, and_assoc, and_true, true_and, List.cons.injEq, exists_eq', exists_eq]) (by simp [outOk, argOkL, allOk, argOk, argOkN, lk, noIdR_ok]) rfl ?_
  (repeat' with_reducible first | intro _ | refine rz ?_ | refine ra ?_ ?_ | omega | simp (maxSteps := 9^7) only [go_sem])
  have hz2 : linesB w p (y + 1) = lb := by rw [hsucc, hu2 rfl, List.nil_append]
  refine ⟨⟨y + 1, true⟩, Ent.auto0 rfl ?_ ?_, ⟨by dsimp only; omega, fun _ => by dsimp only; rw [hz2]; exact hlp, fun h => by (cases h)⟩, by dsimp only; omega⟩ <;> simp only [go_sem, Int.natCast_succ, hz2, hup]
  all_goals first | rfl | exact ⟨rfl, rfl⟩
def firstErr : List Int → Int
 | [] => 0
 | e :: l => if e = 0 then firstErr l else e
set_option maxHeartbeats 2000000 in
theorem first_ok (l : List Int) (hl : l.length ≤ 1000) : FnOk Tryz.prog 28 [.ro (.ints .i64 l)] (.int .i64 (firstErr l)) [] := by
 refine FnOk.of_vc Tryz.func28 rfl (by decide) (by simp [Tryz.f28]) [.tmp 2] rfl fun w0 T0 _ => ?_
 simp only [Tryz.f28, argEnv]
 (repeat' with_reducible first | intro _ | refine rz ?_ | refine ra ?_ ?_ | omega | simp (maxSteps := 9^7) only [go_sem])
 refine VcLoop.intro (fun i : Nat => ⟨15, [(7, .int .i64 i), (6, .int .i64 l.length), (5, .ro (.ints .i64 l))], [], 0⟩) (fun i => i ≤ l.length ∧ firstErr (l.drop i) = firstErr l) (fun i => l.length - i) 0 ?_ ⟨Nat.zero_le _, rfl⟩ fun i hi => ?_
 ·refine Ent.auto0 rfl ?_ ?_ <;> simp only [go_sem, Int.natCast_succ]
 obtain ⟨hi, he⟩ := hi
 (repeat' with_reducible first | intro _ | refine rz ?_ | refine ra ?_ ?_ | omega | simp (maxSteps := 9^7) only [go_sem])
 ·have hlt : i < l.length := by omega
  have hd : l.drop i = l.getD i 0 :: l.drop (i + 1) := by rw [List.drop_eq_getElem_cons hlt, getD_lt hlt]
  rw [hd, firstErr, if_neg (by omega)] at he
  rw [← he]
  refine Ret.auto 0 ?_ rfl ?_ <;> simp only [go_sem, Int.natCast_succ, Post]
 ·have hlt : i < l.length := by omega
  have hd : l.drop i = l.getD i 0 :: l.drop (i + 1) := by rw [List.drop_eq_getElem_cons hlt, getD_lt hlt]
  rw [hd, firstErr, if_pos (by omega)] at he
  refine ⟨i + 1, Ent.auto0 rfl ?_ ?_, ⟨by omega, he⟩, by omega⟩ <;> simp only [go_sem, Int.natCast_succ]
  all_goals rfl
 ·have e : i = l.length := by omega
  subst e
  rw [List.drop_length] at he
  rw [← he]
  refine Ret.auto 0 ?_ rfl ?_ <;> simp only [go_sem, Int.natCast_succ, Post, firstErr]
set_option maxHeartbeats 4000000 in
theorem refSize_ok (w h : Int) : FnOk Tryz.prog 72 [.int .i64 w, .int .i64 h] (.int .i64 (sizeErr w h)) [] := by
 refine FnOk.of_vc Tryz.func72 rfl (by decide) (by simp [Tryz.f72]) [.tmp 4] rfl fun w0 T0 _ => ?_
 simp only [Tryz.f72, argEnv]
 by_cases hw : 1 ≤ w ∧ w ≤ 4000
 ·by_cases hh : 1 ≤ h ∧ h ≤ 4000
  ·have hm1 : 0 ≤ w * h := Int.mul_nonneg (by omega) (by omega)
   have hm2 : w * h ≤ 4000 * 4000 := Int.mul_le_mul hw.2 hh.2 (by omega) (by omega)
   have e : sizeErr w h = firstErr [if false = true then 3 else 0, if decide (1048576 < w * h) = true then 4 else 0] := by
    unfold sizeErr
    rw [if_neg (by omega)]
    by_cases hc : 1048576 < w * h <;> simp [firstErr, hc]
   rw [e]
   (repeat' with_reducible first | intro _ | refine rz ?_ | refine ra ?_ ?_ | omega | simp (maxSteps := 9^7) only [go_sem])
   refine VcCall.k (refIn_ok w 1 4000) ?_
   rw [decide_eq_true hw]
   (repeat' with_reducible first | intro _ | refine rz ?_ | refine ra ?_ ?_ | omega | simp (maxSteps := 9^7) only [go_sem])
   refine VcCall.k (refIn_ok h 1 4000) ?_
   rw [decide_eq_true hh]
   (repeat' with_reducible first | intro _ | refine rz ?_ | refine ra ?_ ?_ | omega | simp (maxSteps := 9^7) only [go_sem])
   refine VcCall.k (when_ok false 3) ?_
   (repeat' with_reducible first | intro _ | refine rz ?_ | refine ra ?_ ?_ | omega | simp (maxSteps := 9^7) only [go_sem])
   refine VcCall.k (refIn_ok w 1 4000) ?_
   rw [decide_eq_true hw]
   (repeat' with_reducible first | intro _ | refine rz ?_ | refine ra ?_ ?_ | omega | simp (maxSteps := 9^7) only [go_sem])
   refine VcCall.k (refIn_ok h 1 4000) ?_
   rw [decide_eq_true hh]
   (repeat' with_reducible first | intro _ | refine rz ?_ | refine ra ?_ ?_ | omega | simp (maxSteps := 9^7) only [go_sem])
   refine VcCall.fr (FnFr.of_ok (when_ok (decide (1048576 < w * h)) 4) rfl rfl) (by simp only [noIdR_ok, argOkL, argOk, allOk, argOkN, List.drop_zero, lk, reduceIte, reduceCtorEq, Nat.reduceEqDiff, Option.some.injEq, Item.row.injEq, Item.box.injEq, AV.ro.injEq, exists_eq_left, exists_and_left, exists_eq_left', exists_eq_right, and_assoc, and_true, true_and, List.cons.injEq, exists_eq', exists_eq]) 0 rfl (by simp [rowsB]) ?_
   generalize hx : (if decide (1048576 < w * h) = true then (4 : Int) else 0) = x
   (repeat' with_reducible first | intro _ | refine rz ?_ | refine ra ?_ ?_ | omega | simp (maxSteps := 9^7) only [go_sem])
   refine VcCall.k (first_ok [0, x] (by simp)) ?_
   (repeat' with_reducible first | intro _ | refine rz ?_ | refine ra ?_ ?_ | omega | simp (maxSteps := 9^7) only [go_sem])
   refine Ret.auto 0 ?_ rfl ?_ <;> simp only [go_sem, Int.natCast_succ, Post]
  ·have e : sizeErr w h = firstErr [3, 0] := by
    unfold sizeErr
    rw [if_pos (by omega)]; rfl
   rw [e]
   (repeat' with_reducible first | intro _ | refine rz ?_ | refine ra ?_ ?_ | omega | simp (maxSteps := 9^7) only [go_sem])
   refine VcCall.k (refIn_ok w 1 4000) ?_
   rw [decide_eq_true hw]
   (repeat' with_reducible first | intro _ | refine rz ?_ | refine ra ?_ ?_ | omega | simp (maxSteps := 9^7) only [go_sem])
   refine VcCall.k (refIn_ok h 1 4000) ?_
   rw [decide_eq_false hh]
   (repeat' with_reducible first | intro _ | refine rz ?_ | refine ra ?_ ?_ | omega | simp (maxSteps := 9^7) only [go_sem])
   refine VcCall.k (when_ok true 3) ?_
   (repeat' with_reducible first | intro _ | refine rz ?_ | refine ra ?_ ?_ | omega | simp (maxSteps := 9^7) only [go_sem])
   refine VcCall.k (refIn_ok w 1 4000) ?_
   rw [decide_eq_true hw]
   (repeat' with_reducible first | intro _ | refine rz ?_ | refine ra ?_ ?_ | omega | simp (maxSteps := 9^7) only [go_sem])
   refine VcCall.k (refIn_ok h 1 4000) ?_
   rw [decide_eq_false hh]
   (repeat' with_reducible first | intro _ | refine rz ?_ | refine ra ?_ ?_ | omega | simp (maxSteps := 9^7) only [go_sem])
   refine VcCall.k (when_ok false 4) ?_
   (repeat' with_reducible first | intro _ | refine rz ?_ | refine ra ?_ ?_ | omega | simp (maxSteps := 9^7) only [go_sem])
   refine VcCall.k (first_ok [3, 0] (by simp)) ?_
   (repeat' with_reducible first | intro _ | refine rz ?_ | refine ra ?_ ?_ | omega | simp (maxSteps := 9^7) only [go_sem])
   refine Ret.auto 0 ?_ rfl ?_ <;> simp only [go_sem, Int.natCast_succ, Post]
 ·have e : sizeErr w h = firstErr [3, 0] := by
   unfold sizeErr
   rw [if_pos (by omega)]; rfl
  rw [e]
  (repeat' with_reducible first | intro _ | refine rz ?_ | refine ra ?_ ?_ | omega | simp (maxSteps := 9^7) only [go_sem])
  refine VcCall.k (refIn_ok w 1 4000) ?_
  rw [decide_eq_false hw]
  (repeat' with_reducible first | intro _ | refine rz ?_ | refine ra ?_ ?_ | omega | simp (maxSteps := 9^7) only [go_sem])
  refine VcCall.k (when_ok true 3) ?_
  (repeat' with_reducible first | intro _ | refine rz ?_ | refine ra ?_ ?_ | omega | simp (maxSteps := 9^7) only [go_sem])
  refine VcCall.k (refIn_ok w 1 4000) ?_
  rw [decide_eq_false hw]
  (repeat' with_reducible first | intro _ | refine rz ?_ | refine ra ?_ ?_ | omega | simp (maxSteps := 9^7) only [go_sem])
  refine VcCall.k (when_ok false 4) ?_
  (repeat' with_reducible first | intro _ | refine rz ?_ | refine ra ?_ ?_ | omega | simp (maxSteps := 9^7) only [go_sem])
  refine VcCall.k (first_ok [3, 0] (by simp)) ?_
  (repeat' with_reducible first | intro _ | refine rz ?_ | refine ra ?_ ?_ | omega | simp (maxSteps := 9^7) only [go_sem])
  refine Ret.auto 0 ?_ rfl ?_ <;> simp only [go_sem, Int.natCast_succ, Post]
end Go.Fv.H
/- shrink.encode, Encode, best: the walk. -/
namespace Go.Fv.H
open Go Go.Proofs
set_option linter.unusedSimpArgs false
set_option linter.unusedVariables false
set_option linter.unnecessarySimpa false
set_option maxRecDepth 8000
theorem packB_len (s : Bytes) : (packB s).length = (s.length + 7) / 8 := pkL_len _ _
theorem adB_len (w h : Nat) (p : List Bool) : (adB w h p).length ≤ 4 + p.length := by
 unfold adB
 rw [beB_len]
 have := sh_le w h p p.length
 omega
theorem dataB_len {w h : Nat} (hw : w ≤ 4000) (hh : h ≤ 4000) (hwh : w * h ≤ 1048576) {p : List Bool} (hp : p.length = w * h) (kind : Int) : (dataB w h p kind).length ≤ 100000000 := by
 have b1 : 41 * (w + 1) * h ≤ 100000000 := by
  have : (w + 1) * h ≤ 1052576 := by rw [Nat.add_mul, Nat.one_mul]; omega
  rw [Nat.mul_assoc]; omega
 have b2 : 100 * (w + 1) * h ≤ 200000000 := by
  have : (w + 1) * h ≤ 1052576 := by rw [Nat.add_mul, Nat.one_mul]; omega
  rw [Nat.mul_assoc]; omega
 have h1 := runsB_len hw hp h (Nat.le_refl _)
 have h2 := linesB_len hw hp h (Nat.le_refl _)
 have h3 := adB_len w h p
 unfold dataB
 split
 ·rw [packB_len, bitsS_len]; omega
 ·split
  ·omega
  ·split
   ·rw [packB_len]; omega
   ·rw [packB_len]; omega
set_option maxHeartbeats 8000000 in
theorem encode_ok (w h : Nat) (hw0 : 0 < w) (hw : w ≤ 4000) (hh : h ≤ 4000) (hwh : w * h ≤ 1048576) (p : List Bool) (hp : p.length = w * h) (kind : Int) (hk : 1 ≤ kind ∧ kind ≤ 4) :
  FnOk Tryz.prog 69 [.agg [.int .i64 w, .int .i64 h, .ro (.bools p)], .int .i64 kind] (.str (encB w h p kind)) [] := by
 have hdl := dataB_len hw hh hwh hp kind
 have kd := dataOf_ok w h hw0 hw hh hwh p hp kind
 have n1 := big_ok kind kind.toNat 1 (.inl (by omega)) (by omega) (by omega) (by decide)
 have n2 := big_ok (w : Int) w 2 (.inl rfl) (by omega) (by omega) (by decide)
 have n3 := big_ok (h : Int) h 2 (.inl rfl) (by omega) (by omega) (by decide)
 have n4 := big_ok ((dataB w h p kind).length : Int) (dataB w h p kind).length 4 (.inl rfl) (by omega) (by omega) (by decide)
 rw [show ((1 : Nat) : Int) = 1 from rfl] at n1
 rw [show ((2 : Nat) : Int) = 2 from rfl] at n2 n3
 rw [show ((4 : Nat) : Int) = 4 from rfl] at n4
 have henc : encB w h p kind = headB w h p kind ++ sumB (headB w h p kind) := rfl
 have hhead : headB w h p kind = beB 1 kind.toNat ++ beB 2 w ++ beB 2 h ++ beB 4 (dataB w h p kind).length ++ dataB w h p kind := rfl
 have hhl : (headB w h p kind).length = 9 + (dataB w h p kind).length := by
  rw [hhead]; simp only [List.length_append, beB_len]
 have ks := sumOf_ok (headB w h p kind) (by omega)
 have hsl := sumB_len (headB w h p kind)
 rw [henc]
 have l1 := beB_len 1 kind.toNat
 have l2 := beB_len 2 w
 have l3 := beB_len 2 h
 have l4 := beB_len 4 (dataB w h p kind).length
 have hbl := bytes_len (dataB w h p kind)
 have hbk := bytes_back (dataB w h p kind)
 generalize headB w h p kind = hd at *
 generalize beB 1 kind.toNat = x1 at *
 generalize beB 2 w = x2 at *
 generalize beB 2 h = x3 at *
 generalize beB 4 (dataB w h p kind).length = x4 at *
 generalize dataB w h p kind = dt at *
 refine FnOk.of_vc Tryz.func69 rfl (by decide) (by simp [Tryz.f69]) [.tmp 4] rfl fun w0 T0 _ => ?_
 simp only [Tryz.f69, argEnv]
 (repeat' with_reducible first | intro _ | refine rz ?_ | refine ra ?_ ?_ | omega | simp (maxSteps := 9^7) only [go_sem])
 refine VcCall.o kd 1 ?_
 (repeat' with_reducible first | intro _ | refine rz ?_ | refine ra ?_ ?_ | omega | simp (maxSteps := 9^7) only [go_sem])
 refine VcDraw.lex [] [] (by kernel_rfl) (by kernel_rfl) ?_
 (repeat' with_reducible first | intro _ | refine rz ?_ | refine ra ?_ ?_ | omega | simp (maxSteps := 9^7) only [go_sem])
 (refine QV.intro (.str x1) ?_ ?_; focus ((repeat' with_reducible first | intro _ | refine rz ?_ | refine ra ?_ ?_ | omega | simp (maxSteps := 9^7) only [go_sem]); refine VcCall.k (n1) ?_; (repeat' with_reducible first | intro _ | refine rz ?_ | refine ra ?_ ?_ | omega | simp (maxSteps := 9^7) only [go_sem])))
 (repeat' with_reducible first | intro _ | refine rz ?_ | refine ra ?_ ?_ | omega | simp (maxSteps := 9^7) only [go_sem])
 (refine QV.intro (.str x2) ?_ ?_; focus ((repeat' with_reducible first | intro _ | refine rz ?_ | refine ra ?_ ?_ | omega | simp (maxSteps := 9^7) only [go_sem]); refine VcCall.k (n2) ?_; (repeat' with_reducible first | intro _ | refine rz ?_ | refine ra ?_ ?_ | omega | simp (maxSteps := 9^7) only [go_sem])))
 (repeat' with_reducible first | intro _ | refine rz ?_ | refine ra ?_ ?_ | omega | simp (maxSteps := 9^7) only [go_sem])
 (refine QV.intro (.str x3) ?_ ?_; focus ((repeat' with_reducible first | intro _ | refine rz ?_ | refine ra ?_ ?_ | omega | simp (maxSteps := 9^7) only [go_sem]); refine VcCall.k (n3) ?_; (repeat' with_reducible first | intro _ | refine rz ?_ | refine ra ?_ ?_ | omega | simp (maxSteps := 9^7) only [go_sem])))
 (repeat' with_reducible first | intro _ | refine rz ?_ | refine ra ?_ ?_ | omega | simp (maxSteps := 9^7) only [go_sem, hbl])
 (refine QV.intro (.str x4) ?_ ?_; focus ((repeat' with_reducible first | intro _ | refine rz ?_ | refine ra ?_ ?_ | omega | simp (maxSteps := 9^7) only [go_sem]); refine VcCall.k (n4) ?_; (repeat' with_reducible first | intro _ | refine rz ?_ | refine ra ?_ ?_ | omega | simp (maxSteps := 9^7) only [go_sem])))
 (repeat' with_reducible first | intro _ | refine rz ?_ | refine ra ?_ ?_ | omega | simp (maxSteps := 9^7) only [go_sem, hbl, hbk])
 rw [← hhead]
 refine VcCall.k ks ?_
 (repeat' with_reducible first | intro _ | refine rz ?_ | refine ra ?_ ?_ | omega | simp (maxSteps := 9^7) only [go_sem])
 refine Ret.auto 0 ?_ rfl ?_ <;> simp only [go_sem, Int.natCast_succ, Post]
end Go.Fv.H
/- shrink.Encode, Context, Best: the walk. -/
namespace Go.Fv.H
open Go Go.Proofs
set_option linter.unusedSimpArgs false
set_option linter.unusedVariables false
set_option linter.unnecessarySimpa false
set_option maxRecDepth 8000
structure PgOk (w h : Nat) (p : List Bool) : Prop where
 w0 : 0 < w
 w1 : w ≤ 4000
 h0 : 0 < h
 h1 : h ≤ 4000
 wh : w * h ≤ 1048576
 p : p.length = w * h
theorem isKind_ok (kind : Int) : FnOk Tryz.prog 66 [.int .i64 kind] (.bool (decide (1 ≤ kind ∧ kind ≤ 4))) [] := by
 refine FnOk.of_vc Tryz.func66 rfl (by decide) (by simp [Tryz.f66]) [.tmp 2] rfl fun w0 T0 _ => ?_
 simp only [Tryz.f66, argEnv]
 (repeat' with_reducible first | intro _ | refine rz ?_ | refine ra ?_ ?_ | omega | simp (maxSteps := 9^7) only [go_sem])
 refine Ret.auto 0 ?_ rfl ?_ <;> simp only [go_sem, Int.natCast_succ, Post]
end Go.Fv.H
/- Reading a number, step by step. -/
namespace Go.Fv.H
open Go
set_option linter.unusedSimpArgs false
set_option linter.unusedVariables false
set_option linter.unnecessarySimpa false
theorem lead_cons (c : UInt8) (s : Bytes) : leadB (c :: s) = if c = 48 then leadB s + 1 else 0 := by
 unfold leadB
 rw [List.takeWhile_cons]
 by_cases h : c = 48
 ·rw [if_pos h, if_pos (by simp [zer, h]), List.length_cons]
 ·rw [if_neg h, if_neg (by simp [zer, h])]; rfl
theorem lead_le : ∀ s : Bytes, leadB s ≤ s.length
 | [] => Nat.le_refl _
 | c :: s => by
  have := lead_le s
  rw [lead_cons, List.length_cons]; split <;> omega
theorem lead_at : ∀ (s : Bytes) (i : Nat), i < leadB s → s.getD i 0 = 48
 | [], i, h => by cases h
 | c :: s, i, h => by
  rw [lead_cons] at h
  split at h
  ·rename_i hc
   cases i with
   | zero => simpa using hc
   | succ i => simpa using lead_at s i (by omega)
  ·omega
theorem lead_stop : ∀ s : Bytes, leadB s < s.length → s.getD (leadB s) 0 ≠ 48
 | [], h => by cases h
 | c :: s, h => by
  rw [lead_cons] at h ⊢
  split
  ·rename_i hc
   rw [if_pos hc, List.length_cons] at h
   simpa using lead_stop s (by omega)
  ·rename_i hc
   simpa using hc
theorem lead_mem {s : Bytes} (h : 2 * leadB s + 1 ≤ s.length) : ((s.drop (leadB s)).take (leadB s + 1)).length = leadB s + 1 ∧ ((s.drop (leadB s)).take (leadB s + 1)).getD 0 0 = s.getD (leadB s) 0 := by
 refine ⟨by rw [List.length_take, List.length_drop]; omega, ?_⟩
 rw [List.getD_eq_getElem?_getD, List.getElem?_take, if_pos (by omega), List.getElem?_drop, List.getD_eq_getElem?_getD, Nat.add_zero]
theorem d01 {c : UInt8} (h : is01 c = true) : c.toNat - 48 ≤ 1 := by
 have h3 : c = 48 ∨ c = 49 := by simpa [is01] using h
 rcases h3 with rfl | rfl <;> decide
theorem valF_lt : ∀ (l : Bytes) (a : Nat), l.all is01 = true → l.foldl (fun a c => 2 * a + (c.toNat - 48)) a + 1 ≤ (a + 1) * 2 ^ l.length
 | [], a, _ => by simp
 | c :: l, a, h => by
  rw [List.all_cons, Bool.and_eq_true] at h
  have h1 := d01 h.1
  have h2 := valF_lt l (2 * a + (c.toNat - 48)) h.2
  rw [List.foldl_cons, List.length_cons, Nat.pow_succ]
  have h3 : (2 * a + (c.toNat - 48) + 1) * 2 ^ l.length ≤ (2 * (a + 1)) * 2 ^ l.length := Nat.mul_le_mul_right _ (by omega)
  have h4 : 2 * (a + 1) * 2 ^ l.length = (a + 1) * (2 ^ l.length * 2) := by rw [Nat.mul_comm 2, Nat.mul_assoc, Nat.mul_comm 2]
  omega
theorem valB_lt (l : Bytes) (h : l.all is01 = true) : valB l < 2 ^ l.length := by
 have := valF_lt l 0 h
 unfold valB
 omega
theorem valB_take {l : Bytes} {p : Nat} (h : p < l.length) : valB (l.take (p + 1)) = 2 * valB (l.take p) + ((l.getD p 0).toNat - 48) := by
 rw [List.take_succ_eq_append_getElem h, valB_snoc]
 simp [List.getD, h]
theorem all_take {l : Bytes} {p : Nat} (h : p < l.length) : (l.take (p + 1)).all is01 = ((l.take p).all is01 && is01 (l.getD p 0)) := by
 rw [List.take_succ_eq_append_getElem h, List.all_append]
 simp [List.getD, h]
theorem all_at {l : Bytes} {p : Nat} (h : p < l.length) (ha : l.all is01 = true) : l.getD p 0 = 48 ∨ l.getD p 0 = 49 := by
 have := List.all_eq_true.1 ha (l.getD p 0) (by simp [List.getD, h])
 simpa [is01] using this
theorem is01_n (c : UInt8) : is01 c = decide (c.toNat = 48 ∨ c.toNat = 49) := by
 unfold is01
 have e1 : c = 48 ↔ c.toNat = 48 := UInt8.toNat_inj.symm
 have e2 : c = 49 ↔ c.toNat = 49 := UInt8.toNat_inj.symm
 simp only [e1, e2]
theorem valB_one {c : UInt8} {l : Bytes} (h : (c :: l).getD 0 0 = 49) : 1 ≤ valB (c :: l) := by
 have hc : c = 49 := by simpa using h
 subst hc
 have hm : ∀ (l : Bytes) (a : Nat), 1 ≤ a → 1 ≤ l.foldl (fun a c => 2 * a + (c.toNat - 48)) a := by
  intro l
  induction l with
  | nil => intro a h; exact h
  | cons d l ih => intro a h; rw [List.foldl_cons]; exact ih _ (by omega)
 exact hm l _ (by decide)
theorem rdG_none {s : Bytes} (h : ¬ (leadB s ≤ 20 ∧ 2 * leadB s + 1 ≤ s.length ∧ ((s.drop (leadB s)).take (leadB s + 1)).all is01 = true ∧ valB ((s.drop (leadB s)).take (leadB s + 1)) ≤ 1048576)) : rdG s = none := by
 unfold rdG; rw [if_neg h]
theorem rdG_some {s : Bytes} (h : leadB s ≤ 20 ∧ 2 * leadB s + 1 ≤ s.length ∧ ((s.drop (leadB s)).take (leadB s + 1)).all is01 = true ∧ valB ((s.drop (leadB s)).take (leadB s + 1)) ≤ 1048576) :
  rdG s = some (valB ((s.drop (leadB s)).take (leadB s + 1)), 2 * leadB s + 1) := by
 unfold rdG; rw [if_pos h]
def rdN (s : Bytes) : Int := match rdG s with | some (n, _) => n | none => 0
def rdL (s : Bytes) : Int := match rdG s with | some (_, m) => m | none => 0
def rdE (e : Int) (s : Bytes) : Int := match rdG s with | some _ => 0 | none => e
end Go.Fv.H
/- strconv.ParseInt in base 2. -/
namespace Go.Fv.H
open Go Go.Proofs
set_option linter.unusedSimpArgs false
set_option linter.unusedVariables false
set_option linter.unnecessarySimpa false
set_option maxRecDepth 8000
theorem bIs_len (l : Bytes) : (byteInts l).length = l.length := by unfold byteInts; rw [List.length_map]
theorem bIs_get {b : Bytes} {i : Nat} (h : i < b.length) : (byteInts b).getD i 0 = ((b.getD i 0).toNat : Int) := by
 unfold byteInts
 simp [List.getD, h]
set_option maxHeartbeats 4000000 in
theorem parseU_ok (l : Bytes) (h1 : l.all is01 = true) (h0 : l ≠ []) (hl : l.length ≤ 21) :
  FnOk Tryz.prog 136 [.str l, .int .i64 2, .int .i64 64] (.tup [.int .u64 (valB l), .raw .nilIface]) [] := by
 have hv := valB_lt l h1
 refine FnOk.of_vc Tryz.func136 rfl (by decide) (by simp [Tryz.f136]) [.tmp 6, .tmp 7] rfl fun w0 T0 _ => ?_
 simp only [Tryz.f136, argEnv]
 (repeat' with_reducible first | intro _ | refine rz ?_ | refine ra ?_ ?_ | omega | simp (maxSteps := 9^7) only [go_sem, h0])
 refine LetW.at 0 (by decide) ?_
 refine LetW.at 18446744073709551615 (by decide) ?_
 (repeat' with_reducible first | intro _ | refine rz ?_ | refine ra ?_ ?_ | omega | simp (maxSteps := 9^7) only [go_sem])
 have hbl := bIs_len l
 refine VcLoop.intro (fun i : Nat => ⟨172, [(101, .int .i64 i), (100, .int .i64 l.length), (99, .own 0), (13, .int .u64 (valB (l.take i))), (12, .bool false), (11, .int .u64 18446744073709551615), (10, .int .u64 9223372036854775808), (9, .str l), (8, .bool false), (0, .str l), (1, .int .i64 2), (2, .int .i64 64)], [(0, .row 5 (.ints .u8 (byteInts l)))], 1⟩) (fun i => i ≤ l.length) (fun i => l.length - i) 0 ?_ (Nat.zero_le _) fun i hi => ?_
 ·refine Ent.auto0 rfl ?_ ?_ <;> simp only [go_sem, Int.natCast_succ, hbl]
  rfl
 have hcut : l.take l.length = l := List.take_length
 by_cases hlt : i < l.length
 ·have hb : (byteInts l).getD i 0 = ((l.getD i 0).toNat : Int) := bIs_get hlt
  have hs := valB_take hlt
  have ha := all_at hlt h1
  have hv2 := valB_lt (l.take (i + 1)) (by rw [List.all_eq_true] at h1 ⊢; intro x hx; exact h1 x (List.mem_of_mem_take hx))
  have hp : (2 : Nat) ^ (l.take (i + 1)).length ≤ 2 ^ 21 := Nat.pow_le_pow_right (by decide) (by rw [List.length_take]; omega)
  rw [show (2 : Nat) ^ 21 = 2097152 from rfl] at hp
  have hc : (l.getD i 0).toNat = 48 ∨ (l.getD i 0).toNat = 49 := by rcases ha with e | e <;> rw [e] <;> decide
  generalize l.getD i 0 = c at *
  generalize valB (l.take i) = v at *
  have hcc : ((c.toNat : Nat) : Int) - 48 = ((c.toNat - 48 : Nat) : Int) := by omega
  generalize c.toNat = cn at *
  have f1 : ((cn : Int) = 95) = False := eq_false (by omega)
  have f2 : (48 ≤ (cn : Int)) = True := eq_true (by omega)
  have f3 : ((cn : Int) ≤ 57) = True := eq_true (by omega)
  (repeat' with_reducible first | intro _ | refine rz ?_ | refine ra ?_ ?_ | omega | simp (maxSteps := 9^7) only [go_sem, hb, hbl, f1, f2, f3])
  refine ⟨i + 1, Ent.auto0 rfl ?_ ?_, by omega, by omega⟩ <;> simp only [go_sem, Int.natCast_succ, hs]
  all_goals omega
 ·have e : i = l.length := by omega
  subst e
  rw [hcut]
  (repeat' with_reducible first | intro _ | refine rz ?_ | refine ra ?_ ?_ | omega | simp (maxSteps := 9^7) only [go_sem, hbl])
  refine Ret.auto 0 ?_ rfl ?_ <;> simp only [go_sem, Int.natCast_succ, Post]
theorem parse0_ok (l : Bytes) (h1 : l.all is01 = true) (h0 : l ≠ []) (hl : l.length ≤ 21) :
  FnOk Tryz.prog 183 [.str l, .int .i64 2, .int .i64 64] (.tup [.int .i64 (valB l), .raw .nilIface]) [] := by
 have k := parseU_ok l h1 h0 hl
 have hv := valB_lt l h1
 have hp : (2 : Nat) ^ l.length ≤ 2 ^ 21 := Nat.pow_le_pow_right (by decide) hl
 rw [show (2 : Nat) ^ 21 = 2097152 from rfl] at hp
 have hlen : 0 < l.length := List.length_pos_iff.2 h0
 have ha := all_at hlen h1
 have hc : (l.getD 0 0).toNat = 48 ∨ (l.getD 0 0).toNat = 49 := by rcases ha with e | e <;> rw [e] <;> decide
 generalize valB l = v at *
 have f1 : (((l.getD 0 0).toNat : Int) = 43) = False := eq_false (by omega)
 have f2 : (((l.getD 0 0).toNat : Int) = 45) = False := eq_false (by omega)
 refine FnOk.of_vc Tryz.func183 rfl (by decide) (by simp [Tryz.f183]) [.tmp 6, .tmp 7] rfl fun w0 T0 _ => ?_
 simp only [Tryz.f183, argEnv]
 (repeat' with_reducible first | intro _ | refine rz ?_ | refine ra ?_ ?_ | omega | simp (maxSteps := 9^7) only [go_sem, h0, f1, f2])
 refine VcCall.k k ?_
 (repeat' with_reducible first | intro _ | refine rz ?_ | refine ra ?_ ?_ | omega | simp (maxSteps := 9^7) only [go_sem])
 refine LetW.at 9223372036854775808 (by decide) ?_
 (repeat' with_reducible first | intro _ | refine rz ?_ | refine ra ?_ ?_ | omega | simp (maxSteps := 9^7) only [go_sem])
 refine Ret.auto 0 ?_ rfl ?_ <;> simp only [go_sem, Int.natCast_succ, Post]
theorem parseI_ok (l : Bytes) (h1 : l.all is01 = true) (h0 : l ≠ []) (hl : l.length ≤ 21) :
  FnOk Tryz.prog 143 [.str l, .int .i64 2, .int .i64 64] (.tup [.int .i64 (valB l), .raw .nilIface]) [] := by
 have k := parse0_ok l h1 h0 hl
 refine FnOk.of_vc Tryz.func143 rfl (by decide) (by simp [Tryz.f143]) [.tmp 6, .tmp 7] rfl fun w0 T0 _ => ?_
 simp only [Tryz.f143, argEnv]
 (repeat' with_reducible first | intro _ | refine rz ?_ | refine ra ?_ ?_ | omega | simp (maxSteps := 9^7) only [go_sem])
 refine VcCall.k k ?_
 (repeat' with_reducible first | intro _ | refine rz ?_ | refine ra ?_ ?_ | omega | simp (maxSteps := 9^7) only [go_sem])
 refine Ret.auto 0 ?_ rfl ?_ <;> simp only [go_sem, Int.natCast_succ, Post]
end Go.Fv.H
/- The reference's packBits: the walk. -/
namespace Go.Fv.H
open Go Go.Proofs
set_option linter.unusedSimpArgs false
set_option linter.unusedVariables false
set_option linter.unnecessarySimpa false
set_option maxRecDepth 8000
set_option maxHeartbeats 4000000 in
theorem parseU8_ok (l : Bytes) (h1 : l.all is01 = true) (hl : l.length = 8) :
  FnOk Tryz.prog 136 [.str l, .int .i64 2, .int .i64 8] (.tup [.int .u64 (valB l), .raw .nilIface]) [] := by
 have h0 : l ≠ [] := fun e => by rw [e] at hl; cases hl
 have hv := valB_lt l h1
 refine FnOk.of_vc Tryz.func136 rfl (by decide) (by simp [Tryz.f136]) [.tmp 6, .tmp 7] rfl fun w0 T0 _ => ?_
 simp only [Tryz.f136, argEnv]
 (repeat' with_reducible first | intro _ | refine rz ?_ | refine ra ?_ ?_ | omega | simp (maxSteps := 9^7) only [go_sem, h0])
 refine LetW.at 256 (by decide) ?_
 refine LetW.at 255 (by decide) ?_
 (repeat' with_reducible first | intro _ | refine rz ?_ | refine ra ?_ ?_ | omega | simp (maxSteps := 9^7) only [go_sem])
 have hbl := bIs_len l
 refine VcLoop.intro (fun i : Nat => ⟨172, [(101, .int .i64 i), (100, .int .i64 l.length), (99, .own 0), (13, .int .u64 (valB (l.take i))), (12, .bool false), (11, .int .u64 255), (10, .int .u64 9223372036854775808), (9, .str l), (8, .bool false), (0, .str l), (1, .int .i64 2), (2, .int .i64 8)], [(0, .row 5 (.ints .u8 (byteInts l)))], 1⟩) (fun i => i ≤ l.length) (fun i => l.length - i) 0 ?_ (Nat.zero_le _) fun i hi => ?_
 ·refine Ent.auto0 rfl ?_ ?_ <;> simp only [go_sem, Int.natCast_succ, hbl]
  rfl
 have hcut : l.take l.length = l := List.take_length
 by_cases hlt : i < l.length
 ·have hb : (byteInts l).getD i 0 = ((l.getD i 0).toNat : Int) := bIs_get hlt
  have hs := valB_take hlt
  have ha := all_at hlt h1
  have hv2 := valB_lt (l.take (i + 1)) (by rw [List.all_eq_true] at h1 ⊢; intro x hx; exact h1 x (List.mem_of_mem_take hx))
  have hp : (2 : Nat) ^ (l.take (i + 1)).length ≤ 2 ^ 8 := Nat.pow_le_pow_right (by decide) (by rw [List.length_take]; omega)
  rw [show (2 : Nat) ^ 8 = 256 from rfl] at hp
  have hc : (l.getD i 0).toNat = 48 ∨ (l.getD i 0).toNat = 49 := by rcases ha with e | e <;> rw [e] <;> decide
  generalize l.getD i 0 = c at *
  generalize valB (l.take i) = v at *
  have hcc : ((c.toNat : Nat) : Int) - 48 = ((c.toNat - 48 : Nat) : Int) := by omega
  generalize c.toNat = cn at *
  have f1 : ((cn : Int) = 95) = False := eq_false (by omega)
  have f2 : (48 ≤ (cn : Int)) = True := eq_true (by omega)
  have f3 : ((cn : Int) ≤ 57) = True := eq_true (by omega)
  (repeat' with_reducible first | intro _ | refine rz ?_ | refine ra ?_ ?_ | omega | simp (maxSteps := 9^7) only [go_sem, hb, hbl, f1, f2, f3])
  refine ⟨i + 1, Ent.auto0 rfl ?_ ?_, by omega, by omega⟩ <;> simp only [go_sem, Int.natCast_succ, hs]
  all_goals omega
 ·have e : i = l.length := by omega
  subst e
  rw [hcut]
  (repeat' with_reducible first | intro _ | refine rz ?_ | refine ra ?_ ?_ | omega | simp (maxSteps := 9^7) only [go_sem, hbl])
  refine Ret.auto 0 ?_ rfl ?_ <;> simp only [go_sem, Int.natCast_succ, Post]
theorem parse8_ok (l : Bytes) (h1 : l.all is01 = true) (hl : l.length = 8) :
  FnOk Tryz.prog 97 [.str l, .int .i64 2, .int .i64 8] (.tup [.int .u64 (valB l), .raw .nilIface]) [] := by
 have k := parseU8_ok l h1 hl
 refine FnOk.of_vc Tryz.func97 rfl (by decide) (by simp [Tryz.f97]) [.tmp 6, .tmp 7] rfl fun w0 T0 _ => ?_
 simp only [Tryz.f97, argEnv]
 (repeat' with_reducible first | intro _ | refine rz ?_ | refine ra ?_ ?_ | omega | simp (maxSteps := 9^7) only [go_sem])
 refine VcCall.k k ?_
 (repeat' with_reducible first | intro _ | refine rz ?_ | refine ra ?_ ?_ | omega | simp (maxSteps := 9^7) only [go_sem])
 refine Ret.auto 0 ?_ rfl ?_ <;> simp only [go_sem, Int.natCast_succ, Post]
theorem list8 {α : Type} {l : List α} (h : l.length = 8) : ∃ a b c d e f g i, l = [a, b, c, d, e, f, g, i] := by
 match l, h with
 | [a, b, c, d, e, f, g, i], _ => exact ⟨a, b, c, d, e, f, g, i, rfl⟩
theorem bt_val {c : UInt8} (h : is01 c = true) : c.toNat - 48 = if c = 49 then 1 else 0 := by
 have h3 : c = 48 ∨ c = 49 := by simpa [is01] using h
 rcases h3 with rfl | rfl <;> rfl
theorem val_pk {s : Bytes} (h1 : s.all is01 = true) {j : Nat} (h : 8 * j + 8 ≤ s.length) : valB ((s.drop (8 * j)).take 8) = pk s j := by
 have hl : ((s.drop (8 * j)).take 8).length = 8 := by rw [List.length_take, List.length_drop]; omega
 have hal : ∀ x, x ∈ (s.drop (8 * j)).take 8 → is01 x = true := fun x hx => (List.all_eq_true.1 h1) x (List.mem_of_mem_drop (List.mem_of_mem_take hx))
 have hg : ∀ k, k < 8 → bt s (8 * j + k) = if ((s.drop (8 * j)).take 8).getD k 0 = 49 then 1 else 0 := fun k hk => by
  unfold bt
  rw [List.getD_eq_getElem?_getD, List.getD_eq_getElem?_getD, List.getElem?_take, if_pos hk, List.getElem?_drop]
 obtain ⟨a, b, c, d, e, f, g, i, hL⟩ := list8 hl
 rw [hL] at hal hg ⊢
 unfold pk
 have g0 := hg 0 (by decide)
 rw [Nat.add_zero] at g0
 rw [g0, hg 1 (by decide), hg 2 (by decide), hg 3 (by decide), hg 4 (by decide), hg 5 (by decide), hg 6 (by decide), hg 7 (by decide)]
 unfold valB
 simp only [List.foldl_cons, List.foldl_nil, List.getD_cons_zero, List.getD_cons_succ]
 rw [bt_val (hal a (by simp)), bt_val (hal b (by simp)), bt_val (hal c (by simp)), bt_val (hal d (by simp)), bt_val (hal e (by simp)), bt_val (hal f (by simp)), bt_val (hal g (by simp)), bt_val (hal i (by simp))]
 generalize (if a = 49 then 1 else 0) = a
 omega
theorem pk_pad (s : Bytes) (n j : Nat) : pk (s ++ List.replicate n 48) j = pk s j := by
 have key : ∀ k, bt (s ++ List.replicate n 48) k = bt s k := fun k => by
  unfold bt
  rw [List.getD_eq_getElem?_getD, List.getD_eq_getElem?_getD]
  by_cases hk : k < s.length
  ·rw [List.getElem?_append_left hk]
  ·rw [List.getElem?_append_right (by omega), List.getElem?_replicate, List.getElem?_eq_none (l := s) (by omega)]
   split <;> decide
 unfold pk
 simp only [key]
theorem pkL_succ (j : Nat) (s : Bytes) : byteInts (pkL (j + 1) s) = byteInts (pkL j s) ++ [((pk s j : Nat) : Int)] := by
 unfold byteInts pkL
 rw [List.range_succ, List.map_append, List.map_append]
 have := pk_lt s j
 simp
 omega
set_option maxHeartbeats 4000000 in
theorem packBits_ok (s : Bytes) (h1 : s.all is01 = true) (hs : s.length ≤ 1000000000) : FnOk Tryz.prog 56 [.str s] (.str (packB s)) [] := by
 refine FnOk.of_vc Tryz.func56 rfl (by decide) (by simp [Tryz.f56]) [.tmp 2] rfl fun w0 T0 _ => ?_
 simp only [Tryz.f56, argEnv]
 obtain ⟨z, m, hz, hm⟩ : ∃ z m, z < 8 ∧ s.length + z = 8 * m := ⟨8 * ((s.length + 7) / 8) - s.length, (s.length + 7) / 8, by omega, by omega⟩
 (repeat' with_reducible first | intro _ | refine rz ?_ | refine ra ?_ ?_ | omega | simp (maxSteps := 9^7) only [go_sem])
 refine VcLoop.intro (fun i : Nat => ⟨29, [(2, .str []), (0, .str (s ++ List.replicate i 48))], [], 0⟩) (fun i => i ≤ z) (fun i => z - i) 0 ?_ (Nat.zero_le _) fun i hi => ?_
 ·refine Ent.auto0 rfl ?_ ?_ <;> simp only [go_sem, Int.natCast_succ]
 have hrl : (s ++ List.replicate i 48).length = s.length + i := by rw [List.length_append, List.length_replicate]
 have hsnoc : s ++ List.replicate (i + 1) (48 : UInt8) = (s ++ List.replicate i 48) ++ [48] := by rw [List.replicate_succ', List.append_assoc]
 have d1 : ((s.length + i : Nat) : Int).tmod 8 = (((s.length + i) % 8 : Nat) : Int) := by rw [Int.tmod_eq_emod_of_nonneg (by omega)]; omega
 by_cases hlt : i < z
 ·have f1 : ((((s.length + i) % 8 : Nat) : Int) = 0) = False := eq_false (by omega)
  (repeat' with_reducible first | intro _ | refine rz ?_ | refine ra ?_ ?_ | omega | simp (maxSteps := 9^7) only [go_sem, hrl, d1, f1])
  refine ⟨i + 1, Ent.auto0 rfl ?_ ?_, by omega, by omega⟩ <;> simp only [go_sem, Int.natCast_succ, hsnoc]
 have f1 : ((((s.length + i) % 8 : Nat) : Int) = 0) = True := eq_true (by omega)
 have e : i = z := by omega
 subst e
 have hpk : ∀ j, pk (s ++ List.replicate i 48) j = pk s j := pk_pad s i
 have hall : (s ++ List.replicate i (48 : UInt8)).all is01 = true := by
  rw [List.all_append, h1, Bool.true_and, List.all_eq_true]
  intro x hx; rw [(List.mem_replicate.1 hx).2]; decide
 generalize hS : s ++ List.replicate i (48 : UInt8) = S at *
 have hSl : S.length = 8 * m := by omega
 have hval : ∀ j, j < m → valB ((S.drop (8 * j)).take 8) = pk s j := fun j hj => by rw [val_pk hall (by omega), hpk]
 have hpB : packB s = pkL m s := by unfold packB; congr 1; omega
 rw [hpB]
 (repeat' with_reducible first | intro _ | refine rz ?_ | refine ra ?_ ?_ | omega | simp (maxSteps := 9^7) only [go_sem, hrl, d1, f1])
 refine VcLoop.intro (fun j : Nat => ⟨29, [(2, .str []), (3, .own 0), (0, .str (S.drop (8 * j)))], [(0, .row 5 (.ints .u8 (byteInts (pkL j s))))], 1⟩) (fun j => j ≤ m) (fun j => m - j) 0 ?_ (Nat.zero_le _) fun j hj => ?_
 ·refine Ent.auto0 rfl ?_ ?_ <;> simp only [go_sem, Int.natCast_succ, Nat.mul_zero]
  all_goals rfl
 have hdl : (S.drop (8 * j)).length = 8 * m - 8 * j := by rw [List.length_drop, hSl]
 have hbl := bytes_len (pkL j s)
 have hbk := bytes_back (pkL j s)
 rw [pkL_len] at hbl
 by_cases hjlt : j < m
 ·have hne : (S.drop (8 * j) = []) = False := eq_false fun e => by rw [e] at hdl; simp at hdl; omega
  have hdd : (S.drop (8 * j)).drop 8 = S.drop (8 * (j + 1)) := by rw [List.drop_drop]; congr 1
  have hv := hval j hjlt
  have hp := pk_lt s j
  have hall2 : ((S.drop (8 * j)).take 8).all is01 = true := by
   rw [List.all_eq_true]
   exact fun x hx => (List.all_eq_true.1 hall) x (List.mem_of_mem_drop (List.mem_of_mem_take hx))
  have ht8 : ((S.drop (8 * j)).take 8).length = 8 := by rw [List.length_take]; omega
  have k := parse8_ok _ hall2 ht8
  rw [hv] at k
  have hsu := pkL_succ j s
  generalize pkL j s = cu at *
  generalize pk s j = q at *
  have hw : IntKind.u8.wrap (q : Int) = (q : Int) := by rw [wrap8]; omega
  (repeat' with_reducible first | intro _ | refine rz ?_ | refine ra ?_ ?_ | omega | simp (maxSteps := 9^7) only [go_sem, hne, hdl])
  refine VcCall.k k ?_
  (repeat' with_reducible first | intro _ | refine rz ?_ | refine ra ?_ ?_ | omega | simp (maxSteps := 9^7) only [go_sem, hw, hdd])
  refine ⟨j + 1, Ent.auto0 rfl ?_ ?_, by omega, by omega⟩ <;> simp only [go_sem, Int.natCast_succ, hsu]
  ·exact List.take_of_length_le (by rw [hdl, List.length_drop, hSl]; omega)
 ·have hne : (S.drop (8 * j) = []) = True := eq_true (List.length_eq_zero_iff.1 (by omega))
  have e : j = m := by omega
  subst e
  (repeat' with_reducible first | intro _ | refine rz ?_ | refine ra ?_ ?_ | omega | simp (maxSteps := 9^7) only [go_sem, hne])
  refine Ret.auto 0 ?_ rfl ?_ <;> simp only [go_sem, Int.natCast_succ, Post, hbk]
end Go.Fv.H
/- The reference's rowOf and bit: the walk; codes are made of "0" and "1". -/
namespace Go.Fv.H
open Go Go.Proofs
set_option linter.unusedSimpArgs false
set_option linter.unusedVariables false
set_option linter.unnecessarySimpa false
set_option maxRecDepth 8000
theorem gam_01 (n : Nat) : (gamB n).all is01 = true := by
 unfold gamB
 rw [List.all_append, bin_01, Bool.and_true, List.all_eq_true]
 intro x hx; rw [(List.mem_replicate.1 hx).2]; decide
theorem runsG_01 (l : List Int) : (runsG l).all is01 = true := by
 unfold runsG
 rw [List.all_flatMap, List.all_eq_true]
 exact fun x _ => gam_01 _
theorem runsB_01 (w : Nat) (p : List Bool) (y : Nat) : (runsB w p y).all is01 = true := by
 unfold runsB
 rw [List.all_flatMap, List.all_eq_true]
 exact fun x _ => runsG_01 _
theorem near_01 (k : Nat) : (nearCs.getD k []).all is01 = true := by
 by_cases h : k < 7
 ·have hc : k = 0 ∨ k = 1 ∨ k = 2 ∨ k = 3 ∨ k = 4 ∨ k = 5 ∨ k = 6 := by omega
  rcases hc with rfl | rfl | rfl | rfl | rfl | rfl | rfl <;> rfl
 ·rw [List.getD_eq_getElem?_getD, List.getElem?_eq_none (show nearCs.length ≤ k by show 7 ≤ k; omega)]; rfl
theorem step_01 (row above : List Bool) (p : Nat) (ink : Bool) : (lnStep row above p ink).c.all is01 = true := by
 unfold lnStep
 split
 ·exact (by decide : passC.all is01 = true)
 ·split
  ·exact near_01 _
  ·dsimp only
   rw [List.all_append, List.all_append, gam_01, gam_01]
   decide
theorem lnGo_01 {row above : List Bool} (hw : above.length = row.length) : ∀ (f p : Nat) (ink : Bool), row.length + 1 - p ≤ f → (lnGo row above p ink).all is01 = true
 | 0, p, ink, h => by rw [lnGo_end (by omega)]; rfl
 | f + 1, p, ink, h => by
  by_cases hp : p ≤ row.length
  ·have hs := lnStep_lt hw hp ink
   rw [lnGo_step hw hp, List.all_append, step_01, Bool.true_and]
   exact lnGo_01 hw f _ _ (by omega)
  ·rw [lnGo_end hp]; rfl
theorem lineB_01 {row above : List Bool} (hw : above.length = row.length) : (lineB row above).all is01 = true := by
 unfold lineB
 split
 ·rfl
 ·exact lnGo_01 hw (row.length + 1) 0 false (by omega)
theorem linesB_01 (w h : Nat) (p : List Bool) (hp : p.length = w * h) (y : Nat) (hy : y ≤ h) : (linesB w p y).all is01 = true := by
 unfold linesB
 rw [List.all_flatMap, List.all_eq_true]
 intro j hj
 rw [List.mem_range] at hj
 have hl := rowP_len hp (y := j) (by omega)
 refine lineB_01 ?_
 rw [hl]
 unfold upP
 split
 ·exact List.length_replicate
 ·exact rowP_len hp (by omega)
theorem bitsS_01 (p : List Bool) : (bitsS p).all is01 = true := by
 unfold bitsS
 rw [List.all_map, List.all_eq_true]
 intro x _
 cases x <;> rfl
theorem bit_ok (b : Bool) : FnOk Tryz.prog 55 [.bool b] (.int .i64 (if b = true then 1 else 0)) [] := by
 refine FnOk.of_vc Tryz.func55 rfl (by decide) (by simp [Tryz.f55]) [.tmp 2] rfl fun w0 T0 _ => ?_
 simp only [Tryz.f55, argEnv]
 cases b <;>
  ((repeat' with_reducible first | intro _ | refine rz ?_ | refine ra ?_ ?_ | omega | simp (maxSteps := 9^7) only [go_sem])
   refine Ret.auto 0 ?_ rfl ?_ <;> simp only [go_sem, Int.natCast_succ, Post])
theorem rowOf_ok (w h : Nat) (hw : w ≤ 4000) (hh : h ≤ 4000) (p : List Bool) (hp : p.length = w * h) (y : Nat) (hy : y < h) :
  FnOk Tryz.prog 59 [.agg [.int .i64 w, .int .i64 h, .ro (.bools p)], .int .i64 y] (.ro (.bools (rowP w p y))) [] := by
 have h1 : y * w + w ≤ h * w := by rw [← Nat.succ_mul]; exact Nat.mul_le_mul_right _ hy
 have h2 : h * w ≤ 4000 * 4000 := Nat.mul_le_mul hh hw
 have h3 : w * h = h * w := Nat.mul_comm _ _
 have e1 : (y : Int) * (w : Int) = ((y * w : Nat) : Int) := (Int.natCast_mul y w).symm
 have e2 : ((y : Int) + 1) * (w : Int) = ((y * w + w : Nat) : Int) := by rw [Int.add_mul, Int.one_mul, e1]; omega
 have e3 : y * w + w - y * w = w := by omega
 generalize hyw : y * w = a at *
 refine FnOk.of_vc Tryz.func59 rfl (by decide) (by simp [Tryz.f59]) [.tmp 4] rfl fun w0 T0 _ => ?_
 simp only [Tryz.f59, argEnv]
 have f1 : ((y : Int) < 0) = False := eq_false (by omega)
 (repeat' with_reducible first | intro _ | refine rz ?_ | refine ra ?_ ?_ | omega | simp (maxSteps := 9^7) only [go_sem, e1, e2, f1])
 refine Ret.auto 0 ?_ rfl ?_ <;> simp only [go_sem, Int.natCast_succ, Post, rowP, hyw, e3]
theorem rowOfN_ok (w h : Nat) (hw : w ≤ 4000) (p : List Bool) :
  FnOk Tryz.prog 59 [.agg [.int .i64 w, .int .i64 h, .ro (.bools p)], .int .i64 (-1)] (.own 0) [(0, .row 4 (.bools (List.replicate w false)))] := by
 refine FnOk.of_vc Tryz.func59 rfl (by decide) (by simp [Tryz.f59]) [.tmp 4] rfl fun w0 T0 _ => ?_
 simp only [Tryz.f59, argEnv]
 (repeat' with_reducible first | intro _ | refine rz ?_ | refine ra ?_ ?_ | omega | simp (maxSteps := 9^7) only [go_sem])
 refine Ret.auto 1 ?_ rfl ?_ <;> simp only [go_sem, Int.natCast_succ, Post]
end Go.Fv.H
