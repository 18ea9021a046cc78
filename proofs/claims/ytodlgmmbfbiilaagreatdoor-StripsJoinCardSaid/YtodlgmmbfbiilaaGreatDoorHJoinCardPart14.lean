/-
  A part of the proof of the claim: walks over the program's functions and the plain laws that these need. No condition of its own.
-/
import Derived.Test.YtodlgmmbfbiilaaGreatDoorHJoinCardPart7
import Derived.Test.YtodlgmmbfbiilaaGreatDoorHJoinCardPart13
/- The laws' first question. -/
namespace Go.Fv.H
open Go Go.Proofs
set_option linter.unusedSimpArgs false
set_option linter.unusedVariables false
set_option maxRecDepth 8000
theorem landed_ok : FnOk Tryz.prog 11 [] (.bool true) [] := by
 have k := isName_ok [97]
 refine FnOk.of_vc Tryz.func11 rfl (by decide) (by simp [Tryz.f11]) [.tmp 0] rfl fun w0 T0 _ => ?_
 simp only [Tryz.f11, argEnv]
 have e : nameOk [97] = true := by decide
 rw [e] at k
 (repeat' with_reducible first | intro _ | refine rz ?_ | refine ra ?_ ?_ | omega | simp (maxSteps := 9^7) only [go_sem])
 refine VcCall.k k ?_
 (repeat' with_reducible first | intro _ | refine rz ?_ | refine ra ?_ ?_ | omega | simp (maxSteps := 9^7) only [go_sem])
 refine Ret.auto 0 ?_ rfl ?_ <;> simp only [go_sem, Int.natCast_succ, Post]
end Go.Fv.H
/- StripsJoin: the law. -/
namespace Go.Fv.H
open Go Go.Proofs
set_option linter.unusedSimpArgs false
set_option linter.unusedVariables false
set_option linter.unnecessarySimpa false
set_option maxRecDepth 8000
def fitE (x : Pg) (k : Nat) : Bytes := encB (fitG x.W x.H x.p).w (fitG x.W x.H x.p).h (fitG x.W x.H x.p).p (k : Int)
def kOf (ks : List Int) (i : Nat) : Nat := if ks.length = 0 then 1 else fitN (ks.getD (i % ks.length) 0) 3
theorem kOf_bd (ks : List Int) (i : Nat) : 1 ≤ kOf ks i ∧ kOf ks i ≤ 4 := by
 unfold kOf
 split
 ·omega
 ·have := fitN_bd (ks.getD (i % ks.length) 0) 3 (by decide); omega
def cds (q : List Pg) (ks : List Int) (n : Nat) : List Bytes := (List.range n).map fun i => fitE (q.getD i Pg.zero) (kOf ks i)
theorem cds_succ (q : List Pg) (ks : List Int) (n : Nat) : cds q ks (n + 1) = cds q ks n ++ [fitE (q.getD n Pg.zero) (kOf ks n)] := by
 unfold cds; rw [List.range_succ, List.map_append]; rfl
theorem cds_len (q : List Pg) (ks : List Int) (n : Nat) : (cds q ks n).length = n := by unfold cds; simp
theorem cds_short (q : List Pg) (ks : List Int) (n : Nat) : ∀ s, s ∈ cds q ks n → s.length ≤ 200000000000000 := by
 intro s hs
 unfold cds at hs
 obtain ⟨i, _, rfl⟩ := List.mem_map.1 hs
 have := encB_short (fitG_ok (q.getD i Pg.zero).W (q.getD i Pg.zero).H (q.getD i Pg.zero).p).g (kOf ks i : Int)
 unfold fitE; omega
set_option maxHeartbeats 16000000 in
theorem stripsJoin_ok (ps : List Pg) (ks : List Int) : FnOk Tryz.prog 4 [.ro (pgs ps), .ro (.ints .i64 ks)] (.bool true) [] := by
 have hl5 : (ps.take 5).length = min ps.length 5 := by simp [Nat.min_comm]
 have hsub : List.take (min ps.length 5 - 0) (ps.map Pg.av) = (ps.take 5).map Pg.av := by
  simp only [← List.map_take, Nat.sub_zero]
  rcases Nat.le_total ps.length 5 with h | h
  ·rw [Nat.min_eq_left h, List.take_of_length_le (Nat.le_refl _), List.take_of_length_le h]
  ·rw [Nat.min_eq_right h]
 have hmin : min (ps.length : Int) 5 = ((min ps.length 5 : Nat) : Int) := by omega
 generalize ps.take 5 = q at *
 refine FnOk.of_vc Tryz.func4 rfl (by decide) (by simp [Tryz.f4]) [.tmp 4] rfl fun w0 T0 _ => ?_
 simp only [Tryz.f4, argEnv]
 (repeat' with_reducible first | intro _ | refine rz ?_ | refine ra ?_ ?_ | omega | simp (maxSteps := 9^7) only [go_sem])
 refine VcCall.k landed_ok ?_
 (repeat' with_reducible first | intro _ | refine rz ?_ | refine ra ?_ ?_ | omega | simp (maxSteps := 9^7) only [go_sem, minmax, hmin, Int.toNat_natCast, hsub, List.length_map])
 refine VcLoop.intro (fun i : Nat => ⟨61, [(21, .int .i64 i), (20, .int .i64 q.length), (19, .ro (pgs q)), (5, .own 0), (1, .ro (.ints .i64 ks))], [(0, .row 9 (.strs (cds q ks i)))], 1⟩) (fun i => i ≤ q.length) (fun i => q.length - i) 0 ?_ (Nat.zero_le _) fun i hi => ?_
 ·refine Ent.auto0 rfl ?_ ?_ <;> simp only [go_sem, Int.natCast_succ, cds, List.range_zero, List.map_nil, List.length_map]
  all_goals first | rfl | exact ⟨rfl, rfl⟩ | trace_state
 by_cases hlt : i < q.length
 ·have f1 : ((i : Int) < (q.length : Int)) = True := eq_true (by omega)
  have he := pg_elem q hlt
  have hst := cds_succ q ks i
  have hn := cds_len q ks i
  have hkb := kOf_bd ks i
  have hk0 : kOf ks i = if ks.length = 0 then 1 else fitN (ks.getD (i % ks.length) 0) 3 := rfl
  unfold fitE at hst
  generalize q.getD i Pg.zero = x at *
  have kf := fit_fr x.W x.H x.p
  have hb := (fitG_ok x.W x.H x.p).g
  generalize fitG x.W x.H x.p = b at *
  have ke := refEncode_ok b.w b.h hb.w0 hb.w1 hb.h1 hb.wh b.p hb.p (kOf ks i : Int) (by omega)
  generalize encB b.w b.h b.p (kOf ks i : Int) = E at *
  by_cases hks : ks.length = 0
  ·have f2 : ((0 : Int) < (ks.length : Int)) = False := eq_false (by omega)
   rw [if_pos hks] at hk0
   rw [hk0, show ((1 : Nat) : Int) = 1 from rfl] at ke
   (repeat' with_reducible first | intro _ | refine rz ?_ | refine ra ?_ ?_ | omega | simp (maxSteps := 9^7) only [go_sem, f1, he, f2])
   refine VcCall.f kf 0 ?_
   (repeat' with_reducible first | intro _ | refine rz ?_ | refine ra ?_ ?_ | omega | simp (maxSteps := 9^7) only [go_sem])
   refine VcCall.k ke ?_
   (repeat' with_reducible first | intro _ | refine rz ?_ | refine ra ?_ ?_ | omega | simp (maxSteps := 9^7) only [go_sem, hn])
   refine ⟨i + 1, Ent.auto0 rfl ?_ ?_, by omega, by omega⟩ <;> simp only [go_sem, Int.natCast_succ, hst]
   all_goals first | rfl | trace_state
  ·have f2 : ((0 : Int) < (ks.length : Int)) = True := eq_true (by omega)
   rw [if_neg hks] at hk0
   have hml : i % ks.length < ks.length := Nat.mod_lt _ (by omega)
   obtain ⟨n1, n2, n3⟩ := fitN_bd (ks.getD (i % ks.length) 0) 3 (by decide)
   replace n3 : 1 + bitsI .and .i64 (ks.getD (i % ks.length) 0) 3 = ((kOf ks i : Nat) : Int) := by rw [hk0]; exact n3
   have d1 : (i : Int).tmod (ks.length : Int) = ((i % ks.length : Nat) : Int) := by rw [Int.tmod_eq_emod_of_nonneg (Int.natCast_nonneg _)]; rfl
   have hne : ¬ (ks.length : Int) = 0 := by omega
   generalize kOf ks i = kk at *
   (repeat' with_reducible first | intro _ | refine rz ?_ | refine ra ?_ ?_ | omega | simp (maxSteps := 9^7) only [go_sem, f1, he, f2, d1, hne, n3])
   refine VcCall.f kf 0 ?_
   (repeat' with_reducible first | intro _ | refine rz ?_ | refine ra ?_ ?_ | omega | simp (maxSteps := 9^7) only [go_sem])
   refine VcCall.k ke ?_
   (repeat' with_reducible first | intro _ | refine rz ?_ | refine ra ?_ ?_ | omega | simp (maxSteps := 9^7) only [go_sem, hn])
   refine ⟨i + 1, Ent.auto0 rfl ?_ ?_, by omega, by omega⟩ <;> simp only [go_sem, Int.natCast_succ, hst]
   all_goals first | rfl | trace_state
 ·have f1 : ((i : Int) < (q.length : Int)) = False := eq_false (by omega)
  have hn := cds_len q ks i
  have k1 := fromStrips_ok (cds q ks i) (by omega) (cds_short q ks i)
  have k2 := refFromStrips_ok (cds q ks i) (by omega) (cds_short q ks i)
  have ka := alike_fs (cds q ks i)
  generalize fsR (cds q ks i) = Q at *
  (repeat' with_reducible first | intro _ | refine rz ?_ | refine ra ?_ ?_ | omega | simp (maxSteps := 9^7) only [go_sem, f1])
  refine VcCall.o k1 1 ?_
  (repeat' with_reducible first | intro _ | refine rz ?_ | refine ra ?_ ?_ | omega | simp (maxSteps := 9^7) only [go_sem])
  refine VcCall.o k2 1 ?_
  (repeat' with_reducible first | intro _ | refine rz ?_ | refine ra ?_ ?_ | omega | simp (maxSteps := 9^7) only [go_sem])
  refine VcCall.k ka ?_
  (repeat' with_reducible first | intro _ | refine rz ?_ | refine ra ?_ ?_ | omega | simp (maxSteps := 9^7) only [go_sem])
  refine Ret.auto 0 ?_ rfl ?_ <;> simp only [go_sem, Int.natCast_succ, Post]
end Go.Fv.H
