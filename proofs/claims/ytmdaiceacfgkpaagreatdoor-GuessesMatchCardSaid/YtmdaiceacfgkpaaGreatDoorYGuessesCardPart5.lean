/-
  A part of the proof of the claim: walks over the program's functions and the plain laws that these need. No condition of its own.
-/
import Derived.Test.YtmdaiceacfgkpaaGreatDoorYGuessesCardPart2
import Derived.Test.YtmdaiceacfgkpaaGreatDoorYGuessesCardPart4
import Derived.Test.YtmdaiceacfgkpaaGreatDoorYGuessesCardPart1
namespace Go.Fv.Y
open Go Go.Proofs
set_option linter.unusedSimpArgs false
set_option linter.unusedVariables false
set_option linter.unnecessarySimpa false
set_option maxRecDepth 8000

theorem sw_elem (l : List Sw) {i : Nat} (h : i < l.length) : (l.map Sw.av).getD i [] = [.str (l.getD i Sw.zero).o, .str (l.getD i Sw.zero).n, .int .i64 (l.getD i Sw.zero).c] := by
  rw [getD_lt (by simpa using h), getD_lt h, List.getElem_map]; rfl
theorem minF_step (f : Sw → Bool) (g : Sw → Int) (l : List Sw) {i : Nat} (h : i < l.length) (b : Int) : minF f g b (l.drop i) = minF f g (if f (l.getD i Sw.zero) then min b (g (l.getD i Sw.zero)) else b) (l.drop (i + 1)) := by
  rw [List.drop_eq_getElem_cons h, getD_lt h]; rfl

set_option maxHeartbeats 16000000 in
theorem table_ok (sw : List Sw) (hg : GoodSw sw) (hswl : sw.length ≤ 4000) (a b : List UInt8) (ha : a.length ≤ 2000) (hb : b.length ≤ 2000) :
    FnOk Tryz.prog 89 [.str a, .str b, .mp (kgKs (grp [] sw)) (kgVs (grp [] sw))] (.own 0) [(0, .row 3 (.ints .i64 (tab sw a b 0)))] := by
  refine FnOk.of_vc Tryz.func89 rfl (by decide) (by simp [Tryz.f89]) [.tmp 6] rfl fun w0 T0 _ => ?_
  simp only [Tryz.f89, argEnv]
  have hnn : (a.length + 1) * (b.length + 1) ≤ 2001 * 2001 := Nat.mul_le_mul (by omega) (by omega)
  have up1 : ((a.length : Int) + 1) * ((b.length : Int) + 1) = (((a.length + 1) * (b.length + 1) : Nat) : Int) := by simp
  have hall := tab_all sw a b
  generalize hN : (a.length + 1) * (b.length + 1) = N at *
  (repeat' first | with_reducible (first | intro _ | refine rc ?_ | refine rl ?_ | refine rh ?_ | refine rt ?_ | refine rf ?_ | refine rs ?_ | refine And.intro ?_ ?_) | omega | simp (maxSteps := 1000000) only [go_sem, simprocAttr, ↓reduceIte, up1, Int.toNat_natCast])
  refine VcLoop.intro (fun r : Nat => ⟨173, [(9, .int .i64 ((r : Int) - 1)), (8, .own 0), (7, .int .i64 ((b.length : Int) + 1)), (0, .str a), (1, .str b), (2, .mp (kgKs (grp [] sw)) (kgVs (grp [] sw)))], [(0, .row 3 (.ints .i64 (tab sw a b (r * (b.length + 1)))))], 1⟩) (fun r => r ≤ a.length + 1) (fun r => r) (a.length + 1) ?_ (Nat.le_refl _) fun r hr => ?_
  · refine Ent.auto0 rfl ?_ ?_ <;> simp only [go_sem, reduceCtorEq, reduceIte, Nat.reduceEqDiff, Nat.reduceLT, Nat.reduceLeDiff, Int.natCast_succ, hall, hN]
    omega
  cases r with
  | zero =>
    (repeat' first | with_reducible (first | intro _ | refine rc ?_ | refine rl ?_ | refine rh ?_ | refine rt ?_ | refine rf ?_ | refine rs ?_ | refine And.intro ?_ ?_) | omega | simp (maxSteps := 1000000) only [go_sem, simprocAttr, ↓reduceIte])
    refine Ret.auto 1 ?_ rfl ?_ <;> simp only [go_sem, reduceCtorEq, reduceIte, Nat.reduceEqDiff, Nat.reduceLT, Nat.reduceLeDiff, Int.natCast_succ, Post, Nat.zero_mul]
  | succ i =>
    have er : (((i + 1 : Nat) : Int)) - 1 = (i : Int) := by omega
    (repeat' first | with_reducible (first | intro _ | refine rc ?_ | refine rl ?_ | refine rh ?_ | refine rt ?_ | refine rf ?_ | refine rs ?_ | refine And.intro ?_ ?_) | omega | simp (maxSteps := 1000000) only [go_sem, simprocAttr, ↓reduceIte, er])
    have hPw : (i + 1) * (b.length + 1) = i * (b.length + 1) + (b.length + 1) := by rw [Nat.succ_mul]
    have hPN : i * (b.length + 1) + (b.length + 1) ≤ N := by rw [← hPw, ← hN]; exact Nat.mul_le_mul_right _ hr
    have hPn : i < a.length → i * (b.length + 1) + (b.length + 1) + (b.length + 1) ≤ N := fun h => by
      have : (i + 2) * (b.length + 1) ≤ N := by rw [← hN]; exact Nat.mul_le_mul_right _ (by omega)
      have e : (i + 2) * (b.length + 1) = i * (b.length + 1) + (b.length + 1) + (b.length + 1) := by rw [Nat.succ_mul, Nat.succ_mul]
      omega
    have mul1 : (i : Int) * ((b.length : Int) + 1) = ((i * (b.length + 1) : Nat) : Int) := by simp
    have mul2 : ((i : Int) + 1) * ((b.length : Int) + 1) = ((i * (b.length + 1) + (b.length + 1) : Nat) : Int) := by rw [← hPw]; simp
    have hD0 : ∀ j, j < b.length + 1 → cellD sw a b (i * (b.length + 1) + j) = dist sw (a.drop i) (b.drop j) := fun j h => cellD_at sw a b h
    have hD1 : ∀ j, j < b.length + 1 → cellD sw a b (i * (b.length + 1) + (b.length + 1) + j) = dist sw (a.drop (i + 1)) (b.drop j) := fun j h => by rw [← hPw]; exact cellD_at sw a b h
    rw [hPw]
    refine VcLoop.intro (fun c : Nat => ⟨173, [(10, .int .i64 ((c : Int) - 1)), (9, .int .i64 i), (8, .own 0), (7, .int .i64 ((b.length : Int) + 1)), (0, .str a), (1, .str b), (2, .mp (kgKs (grp [] sw)) (kgVs (grp [] sw)))], [(0, .row 3 (.ints .i64 (tab sw a b (i * (b.length + 1) + c))))], 1⟩) (fun c => c ≤ b.length + 1) (fun c => c) (b.length + 1) ?_ (Nat.le_refl _) fun c hc => ?_
    · refine Ent.auto0 rfl ?_ ?_ <;> simp only [go_sem, reduceCtorEq, reduceIte, Nat.reduceEqDiff, Nat.reduceLT, Nat.reduceLeDiff, Int.natCast_succ, hall, hN]
      omega
    generalize hP : i * (b.length + 1) = P at *
    cases c with
    | zero =>
      (repeat' first | with_reducible (first | intro _ | refine rc ?_ | refine rl ?_ | refine rh ?_ | refine rt ?_ | refine rf ?_ | refine rs ?_ | refine And.intro ?_ ?_) | omega | simp (maxSteps := 1000000) only [go_sem, simprocAttr, ↓reduceIte])
      refine ⟨i, Ent.auto0 rfl ?_ ?_, by omega, by omega⟩ <;> simp only [go_sem, reduceCtorEq, reduceIte, Nat.reduceEqDiff, Nat.reduceLT, Nat.reduceLeDiff, Int.natCast_succ, hP, Nat.add_zero]
    | succ j =>
      have ej : (((j + 1 : Nat) : Int)) - 1 = (j : Int) := by omega
      have hlen := tab_len sw a b (P + (j + 1))
      rw [hN] at hlen
      have hst : ∀ v, v = dist sw (a.drop i) (b.drop j) → (tab sw a b (P + (j + 1))).set (P + j) v = tab sw a b (P + j) := fun v hv => tab_set (hv.trans (hD0 j (by omega)).symm)
      have tn0 : ((P : Int) + j).toNat = P + j := by omega
      by_cases hia : i = a.length
      · have hv : 100 * ((b.length : Int) - j) = dist sw (a.drop i) (b.drop j) := by
          rw [hia, List.drop_length, dist_left hg]; simp; omega
        have hc1 : decide ((i : Int) = (a.length : Int)) = true := by simp [hia]
        (repeat' first | with_reducible (first | intro _ | refine rc ?_ | refine rl ?_ | refine rh ?_ | refine rt ?_ | refine rf ?_ | refine rs ?_ | refine And.intro ?_ ?_) | omega | simp (maxSteps := 1000000) only [go_sem, simprocAttr, ↓reduceIte, ej, mul1, tn0, hlen, hst _ hv, hc1])
        refine ⟨j, Ent.auto0 rfl ?_ ?_, by omega, by omega⟩ <;> simp only [go_sem, reduceCtorEq, reduceIte, Nat.reduceEqDiff, Nat.reduceLT, Nat.reduceLeDiff, Int.natCast_succ]
      · have hc1 : decide ((i : Int) = (a.length : Int)) = false := by simp; omega
        by_cases hjb : j = b.length
        · have hv : 100 * ((a.length : Int) - i) = dist sw (a.drop i) (b.drop j) := by
            rw [hjb, List.drop_length, dist_right hg]; simp; omega
          have hc2 : decide ((j : Int) = (b.length : Int)) = true := by simp [hjb]
          (repeat' first | with_reducible (first | intro _ | refine rc ?_ | refine rl ?_ | refine rh ?_ | refine rt ?_ | refine rf ?_ | refine rs ?_ | refine And.intro ?_ ?_) | omega | simp (maxSteps := 1000000) only [go_sem, simprocAttr, ↓reduceIte, ej, mul1, tn0, hlen, hst _ hv, hc1, hc2])
          refine ⟨j, Ent.auto0 rfl ?_ ?_, by omega, by omega⟩ <;> simp only [go_sem, reduceCtorEq, reduceIte, Nat.reduceEqDiff, Nat.reduceLT, Nat.reduceLeDiff, Int.natCast_succ]
        · have hc2 : decide ((j : Int) = (b.length : Int)) = false := by simp; omega
          have hPn' := hPn (by omega)
          have hxn : a.drop i ≠ [] := by simp; omega
          have hyn : b.drop j ≠ [] := by simp; omega
          have hprog := dist_prog hg hxn hyn
          simp only [List.drop_drop] at hprog
          have hxg : (a.drop i).getD 0 0 = a.getD i 0 := by simp [List.getD]
          have hyg : (b.drop j).getD 0 0 = b.getD j 0 := by simp [List.getD]
          rw [hxg, hyg] at hprog
          have r11 : (tab sw a b (P + (j + 1))).getD (P + (b.length + 1) + j + 1) 0 = dist sw (a.drop (i + 1)) (b.drop (j + 1)) := by rw [tab_get (by omega) (by omega)]; exact hD1 (j + 1) (by omega)
          have r10 : (tab sw a b (P + (j + 1))).getD (P + (b.length + 1) + j) 0 = dist sw (a.drop (i + 1)) (b.drop j) := by rw [tab_get (by omega) (by omega)]; exact hD1 j (by omega)
          have r01 : (tab sw a b (P + (j + 1))).getD (P + j + 1) 0 = dist sw (a.drop i) (b.drop (j + 1)) := by rw [tab_get (by omega) (by omega)]; exact hD0 (j + 1) (by omega)
          have t11 : (((P + (b.length + 1) : Nat) : Int) + j + 1).toNat = P + (b.length + 1) + j + 1 := by omega
          have t10 : (((P + (b.length + 1) : Nat) : Int) + j).toNat = P + (b.length + 1) + j := by omega
          have t01 : ((P : Int) + j + 1).toNat = P + j + 1 := by omega
          have b11 := dist_bd hg _ (a.drop (i + 1)) (b.drop (j + 1)) (Nat.le_refl _)
          have b10 := dist_bd hg _ (a.drop (i + 1)) (b.drop j) (Nat.le_refl _)
          have b01 := dist_bd hg _ (a.drop i) (b.drop (j + 1)) (Nat.le_refl _)
          simp only [List.length_drop] at b11 b10 b01
          generalize dist sw (a.drop (i + 1)) (b.drop (j + 1)) = d11 at *
          generalize dist sw (a.drop (i + 1)) (b.drop j) = d10 at *
          generalize dist sw (a.drop i) (b.drop (j + 1)) = d01 at *
          have hmm : ∀ x y : Int, minmax false x y = min x y := fun _ _ => rfl
          (repeat' first | with_reducible (first | intro _ | refine rc ?_ | refine rl ?_ | refine rh ?_ | refine rt ?_ | refine rf ?_ | refine rs ?_ | refine And.intro ?_ ?_) | omega | simp (maxSteps := 1000000) only [go_sem, simprocAttr, ↓reduceIte, ej, mul1, mul2, tn0, hlen, hc1, hc2])
          refine VcDraw.lex [] [] (by kernel_rfl) (by kernel_rfl) ?_
          (repeat' first | with_reducible (first | intro _ | refine rc ?_ | refine rl ?_ | refine rh ?_ | refine rt ?_ | refine rf ?_ | refine rs ?_ | refine And.intro ?_ ?_) | omega | simp (maxSteps := 1000000) only [go_sem, simprocAttr, ↓reduceIte, mul1, mul2, hlen, t11, t10, t01, elemA, r11, r10, r01])
          have hil : (i : Int) < (a.length : Int) := by omega
          have hjl : (j : Int) < (b.length : Int) := by omega
          have hsa : List.take (a.length - i) (a.drop i) = a.drop i := List.take_of_length_le (by simp)
          have hsb : List.take (b.length - j) (b.drop j) = b.drop j := List.take_of_length_le (by simp)
          have hgr := grp_is sw
          have hks : KeysT Tryz.prog 5 (kgKs (grp [] sw)) := KeysT_map (fun c => .int Tryz.underlying5 _) _
          have hvO := getV_ro (grp [] sw) (a.getD i 0)
          have hUl := under_len sw (a.getD i 0)
          obtain ⟨V, hO, hV⟩ : ∃ V, getO (kgKs (grp [] sw)) (kgVs (grp [] sw)) (.int .u8 ((a.getD i 0).toNat : Int)) .nilS = V ∧ (V = .ro (sws (under sw (a.getD i 0))) ∨ (V = .nilS ∧ under sw (a.getD i 0) = [])) := by
            cases hx : ixOf (kgK (grp [] sw)) (a.getD i 0) with
            | some t =>
              rw [hx] at hvO
              obtain ⟨h1, h2⟩ := hgr.some _ _ hx
              exact ⟨_, getO_some hvO, .inl (by rw [getD_lt h1, h2])⟩
            | none =>
              rw [hx] at hvO
              exact ⟨_, getO_none hvO, .inr ⟨rfl, hgr.none _ hx⟩⟩
          refine VcDraw.lex [] [] (by kernel_rfl) (by kernel_rfl) ?_
          by_cases hce : a.getD i 0 = b.getD j 0
          case' pos =>
            have hcd : decide (((a.getD i 0).toNat : Int) = ((b.getD j 0).toNat : Int)) = true := decide_eq_true (by rw [hce])
            rw [if_pos hce] at hprog
            (repeat' first | with_reducible (first | intro _ | refine rc ?_ | refine rl ?_ | refine rh ?_ | refine rt ?_ | refine rf ?_ | refine rs ?_ | refine And.intro ?_ ?_) | omega | simp (maxSteps := 1000000) only [go_sem, simprocAttr, ↓reduceIte, hcd, mul2, t11, hlen, elemA, r11, hO, eq_true hks])
            have hb0 : 0 ≤ min (100 + min (min d11 d10) d01) d11 ∧ min (100 + min (min d11 d10) d01) d11 ≤ 1000000 := by omega
            generalize min (100 + min (min d11 d10) d01) d11 = b0 at *
          case' neg =>
            have hcd : decide (((a.getD i 0).toNat : Int) = ((b.getD j 0).toNat : Int)) = false := by
              refine decide_eq_false fun e => hce (UInt8.toNat_inj.1 ?_)
              omega
            rw [if_neg hce] at hprog
            (repeat' first | with_reducible (first | intro _ | refine rc ?_ | refine rl ?_ | refine rh ?_ | refine rt ?_ | refine rf ?_ | refine rs ?_ | refine And.intro ?_ ?_) | omega | simp (maxSteps := 1000000) only [go_sem, simprocAttr, ↓reduceIte, hcd, mul2, t11, hlen, elemA, r11, hO, eq_true hks])
            have hb0 : 0 ≤ 100 + min (min d11 d10) d01 ∧ 100 + min (min d11 d10) d01 ≤ 1000000 := by omega
            generalize 100 + min (min d11 d10) d01 = b0 at *
          all_goals
            rcases hV with rfl | ⟨rfl, hU0⟩
            all_goals
              (repeat' first | with_reducible (first | intro _ | refine rc ?_ | refine rl ?_ | refine rh ?_ | refine rt ?_ | refine rf ?_ | refine rs ?_ | refine And.intro ?_ ?_) | omega | simp (maxSteps := 1000000) only [go_sem, simprocAttr, ↓reduceIte, sws, List.length_map])
              refine VcLoop.intro (fun x : Nat × Int => ⟨173, [(124, .int .i64 x.1), (123, .int .i64 (under sw (a.getD i 0)).length), (122, .ro (sws (under sw (a.getD i 0)))), (11, .int .i64 x.2), (10, .int .i64 j), (9, .int .i64 i), (8, .own 0), (7, .int .i64 ((b.length : Int) + 1)), (0, .str a), (1, .str b), (2, .mp (kgKs (grp [] sw)) (kgVs (grp [] sw)))], [(0, .row 3 (.ints .i64 (tab sw a b (P + (j + 1)))))], 1⟩) (fun x => x.1 ≤ (under sw (a.getD i 0)).length ∧ 0 ≤ x.2 ∧ x.2 ≤ 1000000 ∧ minF (fits (a.drop i) (b.drop j)) (by_ sw (a.drop i) (b.drop j)) x.2 ((under sw (a.getD i 0)).drop x.1) = dist sw (a.drop i) (b.drop j)) (fun x => (under sw (a.getD i 0)).length - x.1) (0, b0) ?_ ⟨Nat.zero_le _, hb0.1, hb0.2, hprog⟩ fun x hx => ?_
              · first
                  | (refine Ent.auto0 rfl ?_ ?_ <;> simp only [go_sem, reduceCtorEq, reduceIte, Nat.reduceEqDiff, Nat.reduceLT, Nat.reduceLeDiff, Int.natCast_succ, sws]; done)
                  | (refine Ent.trans (Ent.nilRo 122 (sws (under sw (a.getD i 0))) rfl (by rw [hU0]; exact ⟨by decide, rfl⟩)) ?_
                     refine Ent.auto0 rfl ?_ ?_ <;> simp only [go_sem, reduceCtorEq, reduceIte, Nat.reduceEqDiff, Nat.reduceLT, Nat.reduceLeDiff, Int.natCast_succ, sws, hU0, List.map_nil, List.length_nil])
              obtain ⟨k, best⟩ := x
              dsimp only at hx
              by_cases hk : k < (under sw (a.getD i 0)).length
              · have hel := sw_elem (under sw (a.getD i 0)) hk
                have hstp := minF_step (fits (a.drop i) (b.drop j)) (by_ sw (a.drop i) (b.drop j)) (under sw (a.getD i 0)) hk best
                have hmem : (under sw (a.getD i 0)).getD k Sw.zero ∈ sw := by
                  rw [getD_lt hk]; exact (List.mem_filter.1 (List.getElem_mem hk)).1
                have hso := pos_of_ne (hg.o _ hmem)
                have hsc := hg.c0 _ hmem
                have hsc1 := hg.c1 _ hmem
                generalize (under sw (a.getD i 0)).getD k Sw.zero = s at *
                have hf : fits (a.drop i) (b.drop j) s = (s.o.isPrefixOf (a.drop i) && s.n.isPrefixOf (b.drop j)) := rfl
                have hby : by_ sw (a.drop i) (b.drop j) s = s.c + dist sw ((a.drop i).drop s.o.length) ((b.drop j).drop s.n.length) := rfl
                have k1 := hasPrefix_ok (a.drop i) s.o
                have k2 := hasPrefix_ok (b.drop j) s.n
                rw [hx.2.2.2] at hstp
                rw [List.drop_drop, List.drop_drop] at hby
                (repeat' first | with_reducible (first | intro _ | refine rc ?_ | refine rl ?_ | refine rh ?_ | refine rt ?_ | refine rf ?_ | refine rs ?_ | refine And.intro ?_ ?_) | omega | simp (maxSteps := 1000000) only [go_sem, simprocAttr, ↓reduceIte, elemA, hel, sws, List.length_map])
                refine VcDraw.lex [] [] (by kernel_rfl) (by kernel_rfl) ?_
                (repeat' first | with_reducible (first | intro _ | refine rc ?_ | refine rl ?_ | refine rh ?_ | refine rt ?_ | refine rf ?_ | refine rs ?_ | refine And.intro ?_ ?_) | omega | simp (maxSteps := 1000000) only [go_sem, simprocAttr, ↓reduceIte, hsa, hsb, Int.toNat_natCast])
                refine QV.intro (.bool (s.o.isPrefixOf (a.drop i))) ?_ ?_
                · (repeat' first | with_reducible (first | intro _ | refine rc ?_ | refine rl ?_ | refine rh ?_ | refine rt ?_ | refine rf ?_ | refine rs ?_ | refine And.intro ?_ ?_) | omega | simp (maxSteps := 1000000) only [go_sem, simprocAttr, ↓reduceIte])
                  refine VcCall.k k1 ?_
                  (repeat' first | with_reducible (first | intro _ | refine rc ?_ | refine rl ?_ | refine rh ?_ | refine rt ?_ | refine rf ?_ | refine rs ?_ | refine And.intro ?_ ?_) | omega | simp (maxSteps := 1000000) only [go_sem, simprocAttr, ↓reduceIte])
                cases hp1 : s.o.isPrefixOf (a.drop i) with
                | false =>
                  rw [hp1, Bool.false_and] at hf
                  simp only [hf, Bool.false_eq_true, if_false] at hstp
                  (repeat' first | with_reducible (first | intro _ | refine rc ?_ | refine rl ?_ | refine rh ?_ | refine rt ?_ | refine rf ?_ | refine rs ?_ | refine And.intro ?_ ?_) | omega | simp (maxSteps := 1000000) only [go_sem, simprocAttr, ↓reduceIte, hsa, hsb, Int.toNat_natCast])
                  refine QV.intro (.bool false) ?_ ?_
                  · (repeat' first | with_reducible (first | intro _ | refine rc ?_ | refine rl ?_ | refine rh ?_ | refine rt ?_ | refine rf ?_ | refine rs ?_ | refine And.intro ?_ ?_) | omega | simp (maxSteps := 1000000) only [go_sem, simprocAttr, ↓reduceIte])
                  (repeat' first | with_reducible (first | intro _ | refine rc ?_ | refine rl ?_ | refine rh ?_ | refine rt ?_ | refine rf ?_ | refine rs ?_ | refine And.intro ?_ ?_) | omega | simp (maxSteps := 1000000) only [go_sem, simprocAttr, ↓reduceIte])
                  refine ⟨(k + 1, best), Ent.auto0 rfl ?_ ?_, ⟨by dsimp only; omega, hx.2.1, hx.2.2.1, hstp.symm⟩, by dsimp only; omega⟩ <;> simp only [go_sem, reduceCtorEq, reduceIte, Nat.reduceEqDiff, Nat.reduceLT, Nat.reduceLeDiff, Int.natCast_succ, sws]
                | true =>
                  rw [hp1, Bool.true_and] at hf
                  have hl1 := prefix_len hp1
                  rw [List.length_drop] at hl1
                  (repeat' first | with_reducible (first | intro _ | refine rc ?_ | refine rl ?_ | refine rh ?_ | refine rt ?_ | refine rf ?_ | refine rs ?_ | refine And.intro ?_ ?_) | omega | simp (maxSteps := 1000000) only [go_sem, simprocAttr, ↓reduceIte, hsa, hsb, Int.toNat_natCast])
                  refine QV.intro (.bool (s.n.isPrefixOf (b.drop j))) ?_ ?_
                  · (repeat' first | with_reducible (first | intro _ | refine rc ?_ | refine rl ?_ | refine rh ?_ | refine rt ?_ | refine rf ?_ | refine rs ?_ | refine And.intro ?_ ?_) | omega | simp (maxSteps := 1000000) only [go_sem, simprocAttr, ↓reduceIte, hsa, hsb, Int.toNat_natCast])
                    refine VcCall.k k2 ?_
                    (repeat' first | with_reducible (first | intro _ | refine rc ?_ | refine rl ?_ | refine rh ?_ | refine rt ?_ | refine rf ?_ | refine rs ?_ | refine And.intro ?_ ?_) | omega | simp (maxSteps := 1000000) only [go_sem, simprocAttr, ↓reduceIte])
                  cases hp2 : s.n.isPrefixOf (b.drop j) with
                  | false =>
                    rw [hp2] at hf
                    simp only [hf, Bool.false_eq_true, if_false] at hstp
                    (repeat' first | with_reducible (first | intro _ | refine rc ?_ | refine rl ?_ | refine rh ?_ | refine rt ?_ | refine rf ?_ | refine rs ?_ | refine And.intro ?_ ?_) | omega | simp (maxSteps := 1000000) only [go_sem, simprocAttr, ↓reduceIte])
                    refine ⟨(k + 1, best), Ent.auto0 rfl ?_ ?_, ⟨by dsimp only; omega, hx.2.1, hx.2.2.1, hstp.symm⟩, by dsimp only; omega⟩ <;> simp only [go_sem, reduceCtorEq, reduceIte, Nat.reduceEqDiff, Nat.reduceLT, Nat.reduceLeDiff, Int.natCast_succ, sws]
                  | true =>
                    have hl2 := prefix_len hp2
                    rw [List.length_drop] at hl2
                    rw [hp2] at hf
                    simp only [hf, if_true] at hstp
                    have hQ1 : (i + s.o.length) * (b.length + 1) + (b.length + 1) ≤ N := by
                      rw [← hN, ← Nat.succ_mul]; exact Nat.mul_le_mul_right _ (by omega)
                    have hQ2 : P + (b.length + 1) ≤ (i + s.o.length) * (b.length + 1) := by
                      rw [← hPw]; exact Nat.mul_le_mul_right _ (by omega)
                    have hQ3 : ∀ q, q < b.length + 1 → cellD sw a b ((i + s.o.length) * (b.length + 1) + q) = dist sw (a.drop (i + s.o.length)) (b.drop q) := fun q h => cellD_at sw a b h
                    have mul3 : ((i : Int) + (s.o.length : Int)) * ((b.length : Int) + 1) = (((i + s.o.length) * (b.length + 1) : Nat) : Int) := by simp
                    generalize (i + s.o.length) * (b.length + 1) = Q at *
                    have rs : (tab sw a b (P + (j + 1))).getD (Q + j + s.n.length) 0 = dist sw (a.drop (i + s.o.length)) (b.drop (j + s.n.length)) := by
                      rw [tab_get (by omega) (by omega), Nat.add_assoc]; exact hQ3 _ (by omega)
                    have ts : ((Q : Int) + j + (s.n.length : Int)).toNat = Q + j + s.n.length := by omega
                    have bs := dist_bd hg _ (a.drop (i + s.o.length)) (b.drop (j + s.n.length)) (Nat.le_refl _)
                    simp only [List.length_drop] at bs
                    rw [hby] at hstp
                    generalize dist sw (a.drop (i + s.o.length)) (b.drop (j + s.n.length)) = ds at *
                    (repeat' first | with_reducible (first | intro _ | refine rc ?_ | refine rl ?_ | refine rh ?_ | refine rt ?_ | refine rf ?_ | refine rs ?_ | refine And.intro ?_ ?_) | omega | simp (maxSteps := 1000000) only [go_sem, simprocAttr, ↓reduceIte])
                    refine VcDraw.lex [] [] (by kernel_rfl) (by kernel_rfl) ?_
                    (repeat' first | with_reducible (first | intro _ | refine rc ?_ | refine rl ?_ | refine rh ?_ | refine rt ?_ | refine rf ?_ | refine rs ?_ | refine And.intro ?_ ?_) | omega | simp (maxSteps := 1000000) only [go_sem, simprocAttr, ↓reduceIte, mul3, hlen, ts, rs, elemA])
                    refine ⟨(k + 1, min best (s.c + ds)), Ent.auto0 rfl ?_ ?_, ⟨by dsimp only; omega, by dsimp only; omega, by dsimp only; omega, hstp.symm⟩, by dsimp only; omega⟩ <;> simp only [go_sem, reduceCtorEq, reduceIte, Nat.reduceEqDiff, Nat.reduceLT, Nat.reduceLeDiff, Int.natCast_succ, sws]
              · have ek : k = (under sw (a.getD i 0)).length := by omega
                have hfin := hx.2.2.2
                rw [ek, List.drop_length] at hfin
                have hfin' : best = dist sw (a.drop i) (b.drop j) := hfin
                (repeat' first | with_reducible (first | intro _ | refine rc ?_ | refine rl ?_ | refine rh ?_ | refine rt ?_ | refine rf ?_ | refine rs ?_ | refine And.intro ?_ ?_) | omega | simp (maxSteps := 1000000) only [go_sem, simprocAttr, ↓reduceIte, sws, List.length_map, mul1, tn0, hlen, hst _ hfin'])
                refine ⟨j, Ent.auto0 rfl ?_ ?_, by omega, by omega⟩ <;> simp only [go_sem, reduceCtorEq, reduceIte, Nat.reduceEqDiff, Nat.reduceLT, Nat.reduceLeDiff, Int.natCast_succ]
end Go.Fv.Y

namespace Go.Fv.Y
open Go Go.Proofs
set_option linter.unusedSimpArgs false
set_option linter.unusedVariables false
set_option linter.unnecessarySimpa false
set_option maxRecDepth 8000

end Go.Fv.Y

namespace Go.Fv.Y
open Go Go.Proofs
set_option linter.unusedSimpArgs false
set_option linter.unusedVariables false
set_option linter.unnecessarySimpa false
set_option maxRecDepth 8000

instance : FNoId Mx.av := ⟨fun _ => rfl⟩
instance {l : List Mx} : RowNoId (mxs l) := inferInstanceAs (RowNoId (.objs 3 (l.map Mx.av)))

theorem seenK_mem (l : List Mx) {i : Nat} (h : i ≤ l.length) (k : Key) : k ∈ seenK l i ↔ ∃ q, q < i ∧ (l.getD q Mx.zero).key = k := by
  unfold seenK
  simp only [List.mem_map]
  constructor
  · rintro ⟨m, hm, rfl⟩
    obtain ⟨q, hq, rfl⟩ := List.mem_iff_getElem.1 hm
    simp only [List.length_take] at hq
    refine ⟨q, by omega, ?_⟩
    rw [getD_lt (by omega), List.getElem_take]
  · rintro ⟨q, hq, rfl⟩
    refine ⟨l.getD q Mx.zero, ?_, rfl⟩
    rw [getD_lt (by omega)]
    exact List.mem_take_iff_getElem.2 ⟨q, by omega, rfl⟩

set_option maxHeartbeats 4000000 in
theorem mixesError_ok (l : List Mx) : FnOk Tryz.prog 46 [.ro (mxs l)] (.int .i64 (mixErr l)) [] := by
  unfold mixErr
  refine FnOk.of_vc Tryz.func46 rfl (by decide) (by simp [Tryz.f46]) [.tmp 2] rfl fun w0 T0 _ => ?_
  simp only [Tryz.f46, argEnv]
  (repeat' first | with_reducible (first | intro _ | refine rc ?_ | refine rl ?_ | refine rh ?_ | refine rt ?_ | refine rf ?_ | refine rs ?_ | refine And.intro ?_ ?_) | omega | simp (maxSteps := 1000000) only [go_sem, simprocAttr, ↓reduceIte, List.length_map, mxs])
  · refine Ret.auto 0 ?_ rfl ?_ <;> simp only [go_sem, reduceCtorEq, reduceIte, Nat.reduceEqDiff, Nat.reduceLT, Nat.reduceLeDiff, Int.natCast_succ, Post]
    rw [if_pos (by omega)]
  rw [if_neg (by omega)]
  refine VcLoop.intro (fun i : Nat => ⟨78, [(12, .int .i64 i), (11, .int .i64 l.length), (10, .ro (mxs l)), (0, .ro (mxs l))], [], 0⟩) (fun i => i ≤ l.length ∧ mixEs (seenK l i) (l.drop i) = mixEs [] l) (fun i => l.length - i) 0 ?_ ⟨Nat.zero_le _, rfl⟩ fun i hi => ?_
  · refine Ent.auto0 rfl ?_ ?_ <;> simp only [go_sem, reduceCtorEq, reduceIte, Nat.reduceEqDiff, Nat.reduceLT, Nat.reduceLeDiff, Int.natCast_succ, mxs]
  by_cases hlt : i < l.length
  · have he := mx_elem l hlt
    have hs := seenK_succ l hlt
    have hd := mixEs_drop l hlt (seenK l i)
    have hm := seenK_mem l hi.1 (l.getD i Mx.zero).key
    generalize l.getD i Mx.zero = m at *
    have hE : mixE (seenK l i) m = if partOk m.f = false ∨ partOk m.t = false ∨ m.f = m.t then 2 else if m.c < 0 ∨ 100 < m.c then 3 else if m.key ∈ seenK l i then 6 else 0 := rfl
    have hp : ∀ s, partOk s = false ↔ ((s.length : Int) < 1 ∨ 3 < (s.length : Int)) := fun s => by
      unfold partOk
      rw [Bool.and_eq_false_iff, decide_eq_false_iff_not, decide_eq_false_iff_not]; omega
    simp only [hp] at hE
    (repeat' first | with_reducible (first | intro _ | refine rc ?_ | refine rl ?_ | refine rh ?_ | refine rt ?_ | refine rf ?_ | refine rs ?_ | refine And.intro ?_ ?_) | omega | simp (maxSteps := 1000000) only [go_sem, simprocAttr, ↓reduceIte, elemA, he, mxs, List.length_map])
    · rename_i h1
      refine Ret.auto 0 ?_ rfl ?_ <;> simp only [go_sem, reduceCtorEq, reduceIte, Nat.reduceEqDiff, Nat.reduceLT, Nat.reduceLeDiff, Int.natCast_succ, Post]
      have h0 : mixE (seenK l i) m = 2 := by rw [hE, if_pos (by grind)]
      rw [← hi.2, hd, h0]; rfl
    · rename_i h1 _ h2
      refine Ret.auto 0 ?_ rfl ?_ <;> simp only [go_sem, reduceCtorEq, reduceIte, Nat.reduceEqDiff, Nat.reduceLT, Nat.reduceLeDiff, Int.natCast_succ, Post]
      have h0 : mixE (seenK l i) m = 3 := by rw [hE, if_neg (by grind), if_pos h2]
      rw [← hi.2, hd, h0]; rfl
    · rename_i h1 _ h2
      have hno : ¬ ((((m.f.length : Int) < 1 ∨ 3 < (m.f.length : Int)) ∨ ((m.t.length : Int) < 1 ∨ 3 < (m.t.length : Int)) ∨ m.f = m.t)) := by grind
      have hnr : ¬ (m.c < 0 ∨ 100 < m.c) := by assumption
      rw [if_neg hno, if_neg hnr] at hE
      have e1 : List.take (i - 0) (l.map Mx.av) = (l.take i).map Mx.av := by simp
      have hL : (l.take i).length = i := by simp; omega
      have hsk : seenK l i = (l.take i).map Mx.key := rfl
      rw [hsk] at hE
      refine VcLoop.intro (fun j : Nat => ⟨78, [(60, .int .i64 j), (59, .int .i64 i), (58, .ro (mxs (l.take i))), (4, .ptr 0 0), (12, .int .i64 i), (11, .int .i64 l.length), (10, .ro (mxs l)), (0, .ro (mxs l))], [(0, .box 54 [.str m.f, .str m.t, .int .i64 m.c])], 1⟩) (fun j => j ≤ i ∧ ∀ q, q < j → ((l.take i).getD q Mx.zero).key ≠ m.key) (fun j => i - j) 0 ?_ ⟨Nat.zero_le _, fun q hq => by omega⟩ fun j hj => ?_
      · refine Ent.auto0 rfl ?_ ?_ <;> simp only [go_sem, reduceCtorEq, reduceIte, Nat.reduceEqDiff, Nat.reduceLT, Nat.reduceLeDiff, Int.natCast_succ, mxs, e1, hL, List.length_map]
      generalize l.take i = L at *
      by_cases hjl : j < i
      · have he2 := mx_elem L (i := j) (by omega)
        generalize hx : L.getD j Mx.zero = x at *
        (repeat' first | with_reducible (first | intro _ | refine rc ?_ | refine rl ?_ | refine rh ?_ | refine rt ?_ | refine rf ?_ | refine rs ?_ | refine And.intro ?_ ?_) | omega | simp (maxSteps := 1000000) only [go_sem, simprocAttr, ↓reduceIte, elemA, he2, mxs, List.length_map, hL])
        · rename_i h3
          refine Ret.auto 0 ?_ rfl ?_ <;> simp only [go_sem, reduceCtorEq, reduceIte, Nat.reduceEqDiff, Nat.reduceLT, Nat.reduceLeDiff, Int.natCast_succ, Post]
          have hmem : m.key ∈ L.map Mx.key := List.mem_map.2 ⟨x, by rw [← hx, getD_lt (by omega)]; exact List.getElem_mem _, by unfold Mx.key; rw [h3.1, h3.2]⟩
          rw [if_pos hmem, ← hsk] at hE
          rw [← hi.2, hd, hE]; rfl
        · rename_i h3
          refine ⟨j + 1, Ent.auto0 rfl ?_ ?_, ⟨by omega, fun q hq => ?_⟩, by omega⟩
          · simp only [go_sem, reduceCtorEq, reduceIte, Nat.reduceEqDiff, Nat.reduceLT, Nat.reduceLeDiff, Int.natCast_succ, mxs]
          · simp only [go_sem, reduceCtorEq, reduceIte, Nat.reduceEqDiff, Nat.reduceLT, Nat.reduceLeDiff, Int.natCast_succ, mxs]
          · by_cases e : q = j
            · subst e; rw [hx]; intro e; injection e with e4 e5; exact h3 ⟨e4, e5⟩
            · exact hj.2 q (by omega)
      · have ej : j = i := by omega
        subst ej
        have hmem : m.key ∉ L.map Mx.key := by
          intro hm'
          obtain ⟨x, hx, hk⟩ := List.mem_map.1 hm'
          obtain ⟨q, hq, rfl⟩ := List.mem_iff_getElem.1 hx
          exact hj.2 q (by omega) (by rw [getD_lt hq]; exact hk)
        rw [if_neg hmem, ← hsk] at hE
        rw [if_pos hE, hi.2, ← hs] at hd
        (repeat' first | with_reducible (first | intro _ | refine rc ?_ | refine rl ?_ | refine rh ?_ | refine rt ?_ | refine rf ?_ | refine rs ?_ | refine And.intro ?_ ?_) | omega | simp (maxSteps := 1000000) only [go_sem, simprocAttr, ↓reduceIte, elemA, mxs, List.length_map, hL])
        refine ⟨j + 1, Ent.auto0 rfl ?_ ?_, ⟨by omega, hd.symm⟩, by omega⟩ <;> simp only [go_sem, reduceCtorEq, reduceIte, Nat.reduceEqDiff, Nat.reduceLT, Nat.reduceLeDiff, Int.natCast_succ, mxs]
  · have e : i = l.length := by omega
    have h0 := hi.2
    rw [e, List.drop_length] at h0
    (repeat' first | with_reducible (first | intro _ | refine rc ?_ | refine rl ?_ | refine rh ?_ | refine rt ?_ | refine rf ?_ | refine rs ?_ | refine And.intro ?_ ?_) | omega | simp (maxSteps := 1000000) only [go_sem, simprocAttr, ↓reduceIte, mxs, List.length_map])
    refine Ret.auto 0 ?_ rfl ?_ <;> simp only [go_sem, reduceCtorEq, reduceIte, Nat.reduceEqDiff, Nat.reduceLT, Nat.reduceLeDiff, Int.natCast_succ, Post]
    rw [← h0]; rfl

theorem cloneMix_ok (l : List Mx) (hl : l.length ≤ 137438953472) : FnOk Tryz.prog 47 [.ro (mxs l)] (.own 0) [(0, .row 54 (mxs l))] := by
  refine FnOk.of_vc Tryz.func47 rfl (by decide) (by simp [Tryz.f47]) [.tmp 2] rfl fun w0 T0 _ => ?_
  simp only [Tryz.f47, argEnv]
  (repeat' first | with_reducible (first | intro _ | refine rc ?_ | refine rl ?_ | refine rh ?_ | refine rt ?_ | refine rf ?_ | refine rs ?_ | refine And.intro ?_ ?_) | omega | simp (maxSteps := 1000000) only [go_sem, simprocAttr, ↓reduceIte, mxs, List.length_map])
  · rename_i h
    have : l = [] := List.eq_nil_of_length_eq_zero (by simpa using h)
    refine Ret.auto 1 ?_ rfl ?_ <;> simp only [go_sem, reduceCtorEq, reduceIte, Nat.reduceEqDiff, Nat.reduceLT, Nat.reduceLeDiff, Int.natCast_succ, Post, this, zrow, List.replicate_zero, mxs]
  · refine Ret.auto 1 ?_ rfl ?_ <;> simp only [go_sem, reduceCtorEq, reduceIte, Nat.reduceEqDiff, Nat.reduceLT, Nat.reduceLeDiff, Int.natCast_succ, Post, zrow, List.replicate_zero, mxs]

theorem mixSel_step (acc l : List Mx) {i : Nat} (h : i < l.length) : mixSel acc (l.drop i) = mixSel (if mixErr (acc ++ [l.getD i Mx.zero]) = 0 then acc ++ [l.getD i Mx.zero] else acc) (l.drop (i + 1)) := by
  rw [List.drop_eq_getElem_cons h, getD_lt h]; rfl
theorem mxs_snoc (l : List Mx) (m : Mx) : l.map Mx.av ++ [[.str m.f, .str m.t, .int .i64 m.c]] = (l ++ [m]).map Mx.av := by simp [Mx.av]

set_option maxHeartbeats 4000000 in
theorem mixes_ok (l : List Mx) : FnOk Tryz.prog 11 [.ro (mxs l)] (.own 0) [(0, .row 54 (mxs (mixSel [] (l.take 12))))] := by
  refine FnOk.of_vc Tryz.func11 rfl (by decide) (by simp [Tryz.f11]) [.tmp 2] rfl fun w0 T0 _ => ?_
  simp only [Tryz.f11, argEnv]
  have hmin : min (l.length : Int) 12 = ((min l.length 12 : Nat) : Int) := by omega
  have hsub : List.take (min l.length 12 - 0) (l.map Mx.av) = (l.take 12).map Mx.av := by
    simp only [← List.map_take, Nat.sub_zero]
    rcases Nat.le_total l.length 12 with h | h
    · rw [Nat.min_eq_left h, List.take_of_length_le (Nat.le_refl _), List.take_of_length_le h]
    · rw [Nat.min_eq_right h]
  have hl12 : (l.take 12).length ≤ 12 := by simp; omega
  generalize l.take 12 = q at *
  (repeat' first | with_reducible (first | intro _ | refine rc ?_ | refine rl ?_ | refine rh ?_ | refine rt ?_ | refine rf ?_ | refine rs ?_ | refine And.intro ?_ ?_) | omega | simp (maxSteps := 1000000) only [go_sem, simprocAttr, ↓reduceIte, minmax, hmin, Int.toNat_natCast, hsub, List.length_map, mxs])
  refine VcLoop.intro (fun x : Nat × List Mx => ⟨29, [(12, .int .i64 x.1), (11, .int .i64 q.length), (10, .ro (mxs q)), (3, .own 0)], [(0, .row 54 (mxs x.2))], 1⟩) (fun x => x.1 ≤ q.length ∧ x.2.length ≤ x.1 ∧ mixSel x.2 (q.drop x.1) = mixSel [] q) (fun x => q.length - x.1) (0, []) ?_ ⟨Nat.zero_le _, Nat.le_refl _, rfl⟩ fun x hx => ?_
  · refine Ent.auto0 rfl ?_ ?_ <;> simp only [go_sem, reduceCtorEq, reduceIte, Nat.reduceEqDiff, Nat.reduceLT, Nat.reduceLeDiff, Int.natCast_succ, mxs]
  obtain ⟨i, acc⟩ := x
  dsimp only at hx
  by_cases hlt : i < q.length
  · have he := mx_elem q hlt
    have hs := mixSel_step acc q hlt
    generalize q.getD i Mx.zero = m at *
    have k1 := cloneMix_ok acc (by omega)
    have k2 := mixesError_ok (acc ++ [m])
    have es := mxs_snoc acc m
    (repeat' first | with_reducible (first | intro _ | refine rc ?_ | refine rl ?_ | refine rh ?_ | refine rt ?_ | refine rf ?_ | refine rs ?_ | refine And.intro ?_ ?_) | omega | simp (maxSteps := 1000000) only [go_sem, simprocAttr, ↓reduceIte, elemA, he, mxs, List.length_map])
    refine VcDraw.cut (.first 0 (.cons 1 (.cons 2 (.cons 3 (.cons 4 (.cons 5 (.cons 6 .done .stop) .stop) .stop) .stop) .stop) (.cons 2 (.cons 1 (.cons 3 (.cons 4 (.cons 5 (.cons 6 .done .stop) .stop) .stop) .stop) (.cons 3 (.cons 1 (.cons 4 (.cons 5 (.cons 6 .done .stop) .stop) .stop) .stop) .stop)) .stop))) (by kernel_rfl) (by kernel_rfl) (by kernel_rfl)
      ⟨29, [(22, .bool (decide (mixErr (acc ++ [m]) = 0))), (12, .int .i64 i), (11, .int .i64 q.length), (10, .ro (mxs q)), (3, .own 0), (5, .ptr 1 0)], [(0, .row 54 (mxs acc)), (1, .box 54 [.str m.f, .str m.t, .int .i64 m.c])], 2⟩ ?_ ?_
    · (repeat' first | with_reducible (first | intro _ | refine rc ?_ | refine rl ?_ | refine rh ?_ | refine rt ?_ | refine rf ?_ | refine rs ?_ | refine And.intro ?_ ?_) | omega | simp (maxSteps := 1000000) only [go_sem, simprocAttr, ↓reduceIte])
      all_goals
        refine VcCall.fr (FnFr.of_ok k1 rfl (by simp [noRoRows, noRoItem, noRoRow, noRoL, noRo, mxs, Mx.av])) (by simp only [noIdR_ok, argOkL, argOk, allOk, argOkN, List.drop_zero, lk, reduceIte, reduceCtorEq, Nat.reduceEqDiff, Option.some.injEq, Item.row.injEq, Item.box.injEq, AV.ro.injEq, exists_eq_left, exists_and_left, exists_eq_left', exists_eq_right, and_assoc, and_true, true_and, List.cons.injEq, exists_eq', exists_eq, mxs]) 1 rfl (by simp [rowsB, Item.below]) ?_
        (repeat' first | with_reducible (first | intro _ | refine rc ?_ | refine rl ?_ | refine rh ?_ | refine rt ?_ | refine rf ?_ | refine rs ?_ | refine And.intro ?_ ?_) | omega | simp (maxSteps := 1000000) only [go_sem, simprocAttr, ↓reduceIte, mxs, es, List.length_map])
        refine VcCall.fr (FnFr.of_ok k2 rfl rfl) (by simp only [noIdR_ok, argOkL, argOk, allOk, argOkN, List.drop_zero, lk, reduceIte, reduceCtorEq, Nat.reduceEqDiff, Option.some.injEq, Item.row.injEq, Item.box.injEq, AV.ro.injEq, exists_eq_left, exists_and_left, exists_eq_left', exists_eq_right, and_assoc, and_true, true_and, List.cons.injEq, exists_eq', exists_eq, mxs]) 0 rfl (by simp [rowsB]) ?_
        (repeat' first | with_reducible (first | intro _ | refine rc ?_ | refine rl ?_ | refine rh ?_ | refine rt ?_ | refine rf ?_ | refine rs ?_ | refine And.intro ?_ ?_) | omega | simp (maxSteps := 1000000) only [go_sem, simprocAttr, ↓reduceIte])
        refine Ent.auto0 rfl ?_ ?_ <;> simp only [go_sem, reduceCtorEq, reduceIte, Nat.reduceEqDiff, Nat.reduceLT, Nat.reduceLeDiff, Int.natCast_succ, mxs]
    · (repeat' first | with_reducible (first | intro _ | refine rc ?_ | refine rl ?_ | refine rh ?_ | refine rt ?_ | refine rf ?_ | refine rs ?_ | refine And.intro ?_ ?_) | omega | simp (maxSteps := 1000000) only [go_sem, simprocAttr, ↓reduceIte, mxs, es, List.length_map])
      · rename_i h1
        rw [if_pos h1, hx.2.2] at hs
        refine ⟨(i + 1, acc ++ [m]), Ent.auto0 rfl ?_ ?_, ⟨by omega, ?_, hs.symm⟩, by omega⟩
        · simp only [go_sem, reduceCtorEq, reduceIte, Nat.reduceEqDiff, Nat.reduceLT, Nat.reduceLeDiff, Int.natCast_succ, mxs]
        · simp only [go_sem, reduceCtorEq, reduceIte, Nat.reduceEqDiff, Nat.reduceLT, Nat.reduceLeDiff, Int.natCast_succ, mxs]
        · simp; omega
      · rename_i h1
        rw [if_neg h1, hx.2.2] at hs
        refine ⟨(i + 1, acc), Ent.auto0 rfl ?_ ?_, ⟨by omega, ?_, hs.symm⟩, by omega⟩
        · simp only [go_sem, reduceCtorEq, reduceIte, Nat.reduceEqDiff, Nat.reduceLT, Nat.reduceLeDiff, Int.natCast_succ, mxs]
        · simp only [go_sem, reduceCtorEq, reduceIte, Nat.reduceEqDiff, Nat.reduceLT, Nat.reduceLeDiff, Int.natCast_succ, mxs]
        · dsimp only; omega
  · have e : i = q.length := by omega
    have h0 := hx.2.2
    rw [e, List.drop_length] at h0
    (repeat' first | with_reducible (first | intro _ | refine rc ?_ | refine rl ?_ | refine rh ?_ | refine rt ?_ | refine rf ?_ | refine rs ?_ | refine And.intro ?_ ?_) | omega | simp (maxSteps := 1000000) only [go_sem, simprocAttr, ↓reduceIte, mxs, List.length_map])
    refine Ret.auto 1 ?_ rfl ?_ <;> simp only [go_sem, reduceCtorEq, reduceIte, Nat.reduceEqDiff, Nat.reduceLT, Nat.reduceLeDiff, Int.natCast_succ, Post, ← h0, mixSel, mxs]
end Go.Fv.Y

namespace Go.Fv.Y
open Go Go.Proofs
set_option linter.unusedSimpArgs false
set_option linter.unusedVariables false
set_option linter.unnecessarySimpa false
set_option maxRecDepth 8000

def kgRs (kg : KG) : List RowV := kg.map fun p => sws p.2
def kgI (kg : KG) : List Item := (kgRs kg).map (Item.row 134)
theorem kgRs_len (kg : KG) : (kgRs kg).length = kg.length := by simp [kgRs]

theorem put_out {b n : Nat} {L : List Item} (h : L.length = n) {q : Nat} (hq : n + b ≤ q) (x : Item) : put (famI b L) q x = famI b L := by
  have : ∀ (L : List Item) (b : Nat), L.length + b ≤ q → put (famI b L) q x = famI b L := by
    intro L
    induction L with
    | nil => intro b _; rfl
    | cons y L ih =>
      intro b hb
      simp only [List.length_cons] at hb
      simp only [famI, put]
      rw [if_neg (by omega), ih (b + 1) (by omega)]
  exact this L b (by omega)
theorem kgI_len (kg : KG) : (kgI kg).length = kg.length := by simp [kgI, kgRs]
theorem kgI_noid (kg : KG) : ∀ r, r ∈ kgRs kg → noIdR r = true := by
  intro r hr
  obtain ⟨p, _, rfl⟩ := List.mem_map.1 hr
  exact noIdR_ok _
theorem kgI_get (kg : KG) {j : Nat} (h : j < (kgRs kg).length) : (kgI kg)[j]? = some (.row 134 (kgRs kg)[j]) := by simp [kgI, h]
theorem below_famN (b n N : Nat) (h : n + b ≤ N) : belowL N (famN b n) = true := by
  have : ∀ (f : Nat → AV) (l : List Nat), (∀ i, i ∈ l → Fv.below N (f i) = true) → belowL N (l.map f) = true := by
    intro f l
    induction l with
    | nil => intro _; rfl
    | cons x l ih => intro hf; simp only [List.map_cons, belowL, hf x (.head _), Bool.true_and]; exact ih fun i hi => hf i (.tail _ hi)
  refine this _ _ fun i hi => ?_
  have := List.mem_range.1 hi
  simp [Fv.below]; omega
theorem ren_famN (p : Nat → Nat) (b n : Nat) : renL p (famN b n) = (List.range n).map fun i => .own (p (i + b)) := by
  unfold famN
  have : ∀ l : List Nat, renL p (l.map fun i => .own (i + b)) = l.map fun i => .own (p (i + b)) := by
    intro l
    induction l with
    | nil => rfl
    | cons x l ih => simp only [List.map_cons, renL, ren, ih]
  exact this _
theorem ren_famN_low {p : Nat → Nat} {b n : Nat} (h : ∀ i, i < n → p (i + b) = i + b) : renL p (famN b n) = famN b n := by
  rw [ren_famN]
  exact List.map_congr_left fun i hi => by rw [h i (List.mem_range.1 hi)]
theorem kgKs_ren (p : Nat → Nat) (kg : KG) : renL p (kgKs kg) = kgKs kg := renL_kmap p (fun _ => rfl) _
theorem kgKs_below (n : Nat) (kg : KG) : belowL n (kgKs kg) = true := belowL_kmap n (fun _ => rfl) _

theorem ren_famN_set {b n t K : Nat} (h : t < n) : renL (p1 (t + b) K) (famN b n) = (famN b n).set t (.own K) := by
  rw [ren_famN]
  refine List.ext_getElem (by simp [famN]) fun i h1 h2 => ?_
  simp only [List.getElem_map, List.getElem_range, List.getElem_set]
  split
  · rename_i e; subst e; rw [p1_at]
  · rename_i e
    rw [p1_ne (by omega)]; simp [famN]
theorem ren_famN_snoc {b n K : Nat} : renL (p1 (n + b) K) (famN b (n + 1)) = famN b n ++ [.own K] := by
  rw [ren_famN, List.range_succ, List.map_append]
  simp only [List.map_cons, List.map_nil, p1_at]
  congr 1
  exact List.map_congr_left fun i hi => by rw [p1_ne (by have := List.mem_range.1 hi; omega)]

set_option maxHeartbeats 8000000 in
theorem swaps_ok (l : List Mx) (hp : ∀ m, m ∈ l → m.f ≠ [] ∧ m.t ≠ []) (hl : l.length ≤ 1000) : FnOk Tryz.prog 51 [.ro (mxs l)] (.mp (kgKs (grp [] (swL l))) (kgVs (grp [] (swL l)))) [] := by
  refine FnOk.of_vc Tryz.func51 rfl (by decide) (by simp [Tryz.f51]) [.tmp 2] rfl fun w0 T0 _ => ?_
  simp only [Tryz.f51, argEnv]
  (repeat' first | with_reducible (first | intro _ | refine rc ?_ | refine rl ?_ | refine rh ?_ | refine rt ?_ | refine rf ?_ | refine rs ?_ | refine And.intro ?_ ?_) | omega | simp (maxSteps := 1000000) only [go_sem, simprocAttr, ↓reduceIte, List.length_map, mxs])
  refine VcLoop.intro (fun i : Nat => ⟨50, [(11, .int .i64 i), (10, .int .i64 l.length), (9, .ro (mxs l)), (3, .own 0)], (0, .map (kgKs (grp [] (swL (l.take i)))) (famN 100 (grp [] (swL (l.take i))).length)) :: famI 100 (kgI (grp [] (swL (l.take i)))), (grp [] (swL (l.take i))).length + 100⟩) (fun i => i ≤ l.length) (fun i => l.length - i) 0 ?_ (Nat.zero_le _) fun i hi => ?_
  · refine Ent.famR1 id (by simp [kgRs_len]) rfl (Nat.zero_le _) (fun i hi => rfl) (by decide) ?_ ?_ (kgI_noid _) ?_ (fun i j _ _ e => e)
    · simp only [go_sem, reduceCtorEq, reduceIte, Nat.reduceEqDiff, Nat.reduceLT, Nat.reduceLeDiff, Int.natCast_succ, id]
      simp [mxs]
    · simp [subP, lk, Item.ren, Item.below, kgKs, kgK, grp, swL, famN, renL, belowL]
    · intro j hj; simp [kgRs, swL, grp] at hj
  have hgk := grp_is (swL (l.take i))
  have hsl := swL_len (l.take i)
  by_cases hlt : i < l.length
  · have he := mx_elem l hlt
    have hst := swL_take l hlt Mx.zero
    have hpm := hp (l.getD i Mx.zero) (by rw [getD_lt hlt]; exact List.getElem_mem _)
    generalize l.getD i Mx.zero = m at *
    generalize swL (l.take i) = q at *
    have hp0 := fun x => put_out (kgI_len (grp [] q)) (Nat.le_refl ((grp [] q).length + 100)) x
    have hp1 := fun x => put_out (kgI_len (grp [] q)) (Nat.le_add_right ((grp [] q).length + 100) 1) x
    (repeat' first | with_reducible (first | intro _ | refine rc ?_ | refine rl ?_ | refine rh ?_ | refine rt ?_ | refine rf ?_ | refine rs ?_ | refine And.intro ?_ ?_) | omega | simp (maxSteps := 1000000) only [go_sem, simprocAttr, ↓reduceIte, elemA, he, List.length_map, mxs, hp0, hp1])
    refine VcLoop.intro (fun j : Nat => ⟨50, [(31, .int .i64 j), (30, .int .i64 2), (29, .own 1), (11, .int .i64 i), (10, .int .i64 l.length), (9, .ro (mxs l)), (3, .own 0)], (0, .map (kgKs (grp [] (q ++ [⟨m.f, m.t, m.c⟩, ⟨m.t, m.f, m.c⟩].take j))) (famN 100 (grp [] (q ++ [⟨m.f, m.t, m.c⟩, ⟨m.t, m.f, m.c⟩].take j)).length)) :: (1, .row 134 (.objs 3 [[.str m.f, .str m.t, .int .i64 m.c], [.str m.t, .str m.f, .int .i64 m.c]])) :: famI 100 (kgI (grp [] (q ++ [⟨m.f, m.t, m.c⟩, ⟨m.t, m.f, m.c⟩].take j))), (grp [] (q ++ [⟨m.f, m.t, m.c⟩, ⟨m.t, m.f, m.c⟩].take j)).length + 100⟩) (fun j => j ≤ 2) (fun j => 2 - j) 0 ?_ (Nat.zero_le _) fun j hj => ?_
    · rw [List.take_zero, List.append_nil]
      generalize grp [] q = kg at *
      refine Ent.famR2 (p1 1 (kg.length + 100 + 1)) (by simp [kgRs_len]) rfl (Nat.zero_le _) (fun i hi => by omega) (by decide) ?_ ?_ (kgI_noid _) ?_ ?_
      · simp only [go_sem, reduceCtorEq, reduceIte, Nat.reduceEqDiff, Nat.reduceLT, Nat.reduceLeDiff, Int.natCast_succ, mxs, p1]
        first | exact ⟨rfl, by omega, by omega⟩ | exact ⟨by omega, by omega⟩ | omega
      · simp only [go_sem, reduceCtorEq, reduceIte, Nat.reduceEqDiff, Nat.reduceLT, Nat.reduceLeDiff, Int.natCast_succ, subP, kgKs_ren, kgKs_below, p1_at, p1_ne (show (0 : Nat) ≠ 1 by decide)]
        rw [ren_famN_low (fun i hi => p1_ne (by omega)), below_famN _ _ _ (Nat.le_refl _)]
        exact ⟨rfl, rfl⟩
      · intro j hj
        rw [p1_ne (by omega)]
        rw [kgRs_len] at hj
        repeat rw [lk_ne (by omega)]
        exact lk_fam (kgI_get kg (by rw [kgRs_len]; exact hj))
      · exact p1_inj (by omega)
    have hg0 := grp_all ([⟨m.f, m.t, m.c⟩, ⟨m.t, m.f, m.c⟩].take j) _ _ hgk
    have hjj : j < 2 → ∃ s : Sw, [⟨m.f, m.t, m.c⟩, ⟨m.t, m.f, m.c⟩].take (j + 1) = [⟨m.f, m.t, m.c⟩, ⟨m.t, m.f, m.c⟩].take j ++ [s] ∧ s.o ≠ [] ∧ [[AV.str m.f, .str m.t, .int .i64 m.c], [.str m.t, .str m.f, .int .i64 m.c]].getD j [] = [.str s.o, .str s.n, .int .i64 s.c] := by
      intro h
      rcases (by omega : j = 0 ∨ j = 1) with rfl | rfl
      · exact ⟨⟨m.f, m.t, m.c⟩, rfl, hpm.1, rfl⟩
      · exact ⟨⟨m.t, m.f, m.c⟩, rfl, hpm.2, rfl⟩
    by_cases hj2 : j < 2
    · obtain ⟨s, hts, hso, hel⟩ := hjj hj2
      have hlen : (q ++ ([⟨m.f, m.t, m.c⟩, ⟨m.t, m.f, m.c⟩] : List Sw).take j).length ≤ 3000 := by simp; simp at hsl; omega
      have hgj := grp_is (q ++ ([⟨m.f, m.t, m.c⟩, ⟨m.t, m.f, m.c⟩] : List Sw).take j)
      have hsn : grp [] (q ++ ([⟨m.f, m.t, m.c⟩, ⟨m.t, m.f, m.c⟩] : List Sw).take (j + 1)) = kgIns (grp [] (q ++ ([⟨m.f, m.t, m.c⟩, ⟨m.t, m.f, m.c⟩] : List Sw).take j)) s := by rw [hts, ← List.append_assoc, grp_snoc]
      clear hp0 hp1 hgk hg0 hjj hst
      generalize q ++ ([⟨m.f, m.t, m.c⟩, ⟨m.t, m.f, m.c⟩] : List Sw).take j = qj at *
      generalize grp [] qj = kg at *
      have hp0 := fun x => put_out (kgI_len kg) (Nat.le_refl (kg.length + 100)) x
      have hgO := getV_own kg 100 (s.o.getD 0 0)
      have hks : KeysT Tryz.prog 5 (kgKs kg) := KeysT_map (fun c => .int Tryz.underlying5 _) _
      have hso2 : 0 < s.o.length := by cases ho : s.o with
        | nil => exact absurd ho hso
        | cons => simp
      have hkB : AV.int .u8 ((s.o.getD 0 0).toNat : Int) = kB (s.o.getD 0 0) := rfl
      cases hx : ixOf (kgK kg) (s.o.getD 0 0) with
      | some t =>
        rw [hx] at hgO
        have htl := ixOf_lt hx
        rw [kgK_len] at htl
        have hO : getO (kgKs kg) (famN 100 kg.length) (.int .u8 ((s.o.getD 0 0).toNat : Int)) .nilS = .own (t + 100) := getO_some hgO
        have hlk : lk (famI 100 (kgI kg)) (t + 100) = some (.row 134 (.objs 3 ((kgRs kg)[t]'(by rw [kgRs_len]; exact htl) |> fun _ => (kg[t].2.map Sw.av)))) := by
          rw [lk_fam (kgI_get kg (by rw [kgRs_len]; exact htl))]
          simp [kgRs, sws]
        have hne : (kg.length = t) = False := eq_false (by omega)
        have hne1 : (kg.length + 1 = t) = False := eq_false (by omega)
        have hne2 : (kg.length + 2 = t) = False := eq_false (by omega)
        obtain ⟨_, hund⟩ := hgj.some _ _ hx
        have hul := under_len qj (s.o.getD 0 0)
        rw [← hund] at hul
        have hki : keyIdx (kgKs kg) (.int .u8 ((s.o.getD 0 0).toNat : Int)) = some t := (keyIdx_map eqKeyB _ _).trans hx
        have hK : updKs (kgKs kg) (.int .u8 ((s.o.getD 0 0).toNat : Int)) = kgKs kg := by unfold updKs; rw [hki]
        have hV : ∀ v, updVs (kgKs kg) (famN 100 kg.length) (.int .u8 ((s.o.getD 0 0).toNat : Int)) v = (famN 100 kg.length).set t v := fun v => by unfold updVs; rw [hki]
        have hins : kgIns kg s = kg.set t (s.o.getD 0 0, (kg.getD t (0, [])).2 ++ [s]) := by unfold kgIns; rw [hx]
        (repeat' first | with_reducible (first | intro _ | refine rc ?_ | refine rl ?_ | refine rh ?_ | refine rt ?_ | refine rf ?_ | refine rs ?_ | refine And.intro ?_ ?_) | omega | simp (maxSteps := 1000000) only [go_sem, simprocAttr, ↓reduceIte, elemA, hel, hp0])
        refine VcDraw.lex [10, 11, 12] [(0, [1, 2]), (1, [1, 2]), (2, [1, 2]), (3, [1, 2]), (4, [1]), (5, [1]), (6, [1]), (7, [1]), (8, [1])] (by kernel_rfl) (by kernel_rfl) ?_
        (repeat' first | with_reducible (first | intro _ | refine rc ?_ | refine rl ?_ | refine rh ?_ | refine rt ?_ | refine rf ?_ | refine rs ?_ | refine And.intro ?_ ?_) | omega | simp (maxSteps := 1000000) only [go_sem, simprocAttr, ↓reduceIte, hO, hlk, hne, hne1, hp0, hK, hV, eq_true hks, Nat.add_eq_left, Nat.left_eq_add, List.length_map])
        refine ⟨j + 1, ?_, by omega, by omega⟩
        rw [hsn, hins]
        have h0 : p1 (t + 100) (kg.length + 100 + 1 + 1) 0 = 0 := p1_ne (by omega)
        have h1 : p1 (t + 100) (kg.length + 100 + 1 + 1) 1 = 1 := p1_ne (by omega)
        have hkk : kgKs (kg.set t (s.o.getD 0 0, (kg.getD t (0, [])).2 ++ [s])) = kgKs kg := congrArg (List.map kB) (kgK_set kg t _ _ (ixOf_some hx))
        refine Ent.famR2 (p1 (t + 100) (kg.length + 100 + 1 + 1)) (by simp [kgRs_len]) rfl (Nat.zero_le _) (fun i hi => by omega) (by decide) ?_ ?_ (kgI_noid _) ?_ ?_
        · simp only [go_sem, reduceCtorEq, reduceIte, Nat.reduceEqDiff, Nat.reduceLT, Nat.reduceLeDiff, Int.natCast_succ, h0, h1, List.length_set]
          exact ⟨by omega, by omega⟩
        · simp only [go_sem, reduceCtorEq, reduceIte, Nat.reduceEqDiff, Nat.reduceLT, Nat.reduceLeDiff, Int.natCast_succ, subP, kgKs_ren, kgKs_below, h0, h1, hkk, List.length_set]
          rw [ren_famN_set htl, below_famN _ _ _ (Nat.le_refl _)]
          exact ⟨rfl, rfl⟩
        · intro i hi
          rw [kgRs_len, List.length_set] at hi
          by_cases e : i = t
          · subst e
            rw [p1_at, lk_eq]
            have hgd : kg.getD i (0, []) = kg[i] := getD_lt htl
            simp only [kgRs, List.map_set, List.getElem_set_self, hgd]
            simp [sws, Sw.av]
          · rw [p1_ne (by omega)]
            repeat rw [lk_ne (by omega)]
            rw [lk_put, if_neg (by omega), lk_del, if_neg (by omega), lk_fam (kgI_get kg (by rw [kgRs_len]; exact hi))]
            simp [kgRs, List.getElem_set, if_neg (show ¬ t = i from fun h => e h.symm)]
        · refine p1_inj ?_
          simp
      | none =>
        rw [hx] at hgO
        have hO : getO (kgKs kg) (famN 100 kg.length) (.int .u8 ((s.o.getD 0 0).toNat : Int)) .nilS = .nilS := getO_none hgO
        have hki : keyIdx (kgKs kg) (.int .u8 ((s.o.getD 0 0).toNat : Int)) = none := (keyIdx_map eqKeyB _ _).trans hx
        have hK : updKs (kgKs kg) (.int .u8 ((s.o.getD 0 0).toNat : Int)) = kgKs kg ++ [.int .u8 ((s.o.getD 0 0).toNat : Int)] := by unfold updKs; rw [hki]
        have hV : ∀ v, updVs (kgKs kg) (famN 100 kg.length) (.int .u8 ((s.o.getD 0 0).toNat : Int)) v = famN 100 kg.length ++ [v] := fun v => by unfold updVs; rw [hki]
        have hins : kgIns kg s = kg ++ [(s.o.getD 0 0, [s])] := by unfold kgIns; rw [hx]
        (repeat' first | with_reducible (first | intro _ | refine rc ?_ | refine rl ?_ | refine rh ?_ | refine rt ?_ | refine rf ?_ | refine rs ?_ | refine And.intro ?_ ?_) | omega | simp (maxSteps := 1000000) only [go_sem, simprocAttr, ↓reduceIte, elemA, hel, hp0])
        refine VcDraw.lex [10, 11, 12] [(0, [1, 2]), (1, [1, 2]), (2, [1, 2]), (3, [1, 2]), (4, [1]), (5, [1]), (6, [1]), (7, [1]), (8, [1])] (by kernel_rfl) (by kernel_rfl) ?_
        (repeat' first | with_reducible (first | intro _ | refine rc ?_ | refine rl ?_ | refine rh ?_ | refine rt ?_ | refine rf ?_ | refine rs ?_ | refine And.intro ?_ ?_) | omega | simp (maxSteps := 1000000) only [go_sem, simprocAttr, ↓reduceIte, hO, hp0, hK, hV, eq_true hks, Nat.add_eq_left, Nat.left_eq_add, List.length_map])
        refine ⟨j + 1, ?_, by omega, by omega⟩
        rw [hsn, hins]
        have h0 : p1 (kg.length + 100) (kg.length + 100 + 1 + 1 + 1) 0 = 0 := p1_ne (by omega)
        have h1 : p1 (kg.length + 100) (kg.length + 100 + 1 + 1 + 1) 1 = 1 := p1_ne (by omega)
        have hll : (kg ++ [(s.o.getD 0 0, [s])]).length = kg.length + 1 := by simp
        have hkk : kgKs (kg ++ [(s.o.getD 0 0, [s])]) = kgKs kg ++ [.int .u8 ((s.o.getD 0 0).toNat : Int)] := by simp [kgKs, kgK, kB]
        refine Ent.famR2 (p1 (kg.length + 100) (kg.length + 100 + 1 + 1 + 1)) (by simp [kgRs_len]) rfl (Nat.zero_le _) (fun i hi => by omega) (by decide) ?_ ?_ (kgI_noid _) ?_ ?_
        · simp only [go_sem, reduceCtorEq, reduceIte, Nat.reduceEqDiff, Nat.reduceLT, Nat.reduceLeDiff, Int.natCast_succ, h0, h1, hll]
          exact ⟨by omega, by omega⟩
        · simp only [go_sem, reduceCtorEq, reduceIte, Nat.reduceEqDiff, Nat.reduceLT, Nat.reduceLeDiff, Int.natCast_succ, subP, h0, h1, hll]
          rw [kgKs_ren, kgKs_below, ren_famN_snoc, below_famN _ _ _ (Nat.le_refl _), hkk]
          exact ⟨rfl, rfl, rfl⟩
        · intro i hi
          rw [kgRs_len, hll] at hi
          by_cases e : i = kg.length
          · subst e
            rw [p1_at, lk_eq]
            simp [kgRs, sws, Sw.av]
          · rw [p1_ne (by omega)]
            repeat rw [lk_ne (by omega)]
            rw [lk_put, if_neg (by omega), lk_del, if_neg (by omega), lk_fam (kgI_get kg (by rw [kgRs_len]; omega))]
            have hlt2 : i < kg.length := by omega
            simp only [kgRs, List.map_append, List.map_cons, List.map_nil]
            rw [List.getElem_append_left (by simp; omega)]
        · refine p1_inj ?_
          simp
    · have ej : j = 2 := by omega
      subst ej
      have et : [(⟨m.f, m.t, m.c⟩ : Sw), ⟨m.t, m.f, m.c⟩].take 2 = [⟨m.f, m.t, m.c⟩, ⟨m.t, m.f, m.c⟩] := rfl
      rw [et, ← hst]
      (repeat' first | with_reducible (first | intro _ | refine rc ?_ | refine rl ?_ | refine rh ?_ | refine rt ?_ | refine rf ?_ | refine rs ?_ | refine And.intro ?_ ?_) | omega | simp (maxSteps := 1000000) only [go_sem, simprocAttr, ↓reduceIte])
      refine ⟨i + 1, ?_, by omega, by omega⟩
      refine Ent.famR1 id (by simp [kgRs_len]) rfl (Nat.zero_le _) (fun i hi => rfl) (by decide) ?_ ?_ (kgI_noid _) ?_ (fun i j _ _ e => e)
      · simp only [go_sem, reduceCtorEq, reduceIte, Nat.reduceEqDiff, Nat.reduceLT, Nat.reduceLeDiff, Int.natCast_succ, mxs, id]
        omega
      · simp only [go_sem, reduceCtorEq, reduceIte, Nat.reduceEqDiff, Nat.reduceLT, Nat.reduceLeDiff, Int.natCast_succ, subP, kgKs_ren, kgKs_below, id]
        rw [ren_famN_low (fun i hi => rfl), below_famN _ _ _ (Nat.le_refl _)]
        exact ⟨rfl, rfl⟩
      · intro j hj
        simp only [id, lk]
        repeat rw [if_neg (by omega)]
        exact lk_fam (kgI_get _ hj)
  · have e : i = l.length := by omega
    subst e
    rw [List.take_length] at *
    generalize grp [] (swL l) = kg at *
    (repeat' first | with_reducible (first | intro _ | refine rc ?_ | refine rl ?_ | refine rh ?_ | refine rt ?_ | refine rf ?_ | refine rs ?_ | refine And.intro ?_ ?_) | omega | simp (maxSteps := 1000000) only [go_sem, simprocAttr, ↓reduceIte, List.length_map, mxs])
    refine Ret.ro ?_
    simp only [go_sem, reduceCtorEq, reduceIte, Nat.reduceEqDiff, Nat.reduceLT, Nat.reduceLeDiff, Int.natCast_succ, outOk, argOk]
    refine argOkN_map lk_eq ?_ ?_
    · exact allOk_get rfl fun j h1 h2 => by simp [kgKs, kB, argOkN]
    · refine allOk_get (by simp [famN, kgVs]) fun j h1 h2 => ?_
      have hjl : j < kg.length := by simpa [famN] using h1
      have e1 : (famN 100 kg.length)[j] = .own (j + 100) := by simp [famN]
      have e2 : (kgVs kg)[j] = .ro (sws kg[j].2) := by simp [kgVs]
      rw [e1, e2]
      refine argOkN_row (e := 134) ?_ (noIdR_ok _)
      rw [lk_ne (by omega), lk_fam (kgI_get kg (by rw [kgRs_len]; exact hjl))]
      simp [kgRs]
end Go.Fv.Y

namespace Go.Fv.Y
open Go Go.Proofs
set_option linter.unusedSimpArgs false
set_option linter.unusedVariables false
set_option linter.unnecessarySimpa false
set_option maxRecDepth 8000

def wordsErr (l : List Mx) (ws : List (List UInt8)) : Int := if ws.any (fun s => decide (200 < s.length)) then 4 else mixErr l
theorem checkWords_ok (l : List Mx) (ws : List (List UInt8)) (hw : ws.length ≤ 2) : FnOk Tryz.prog 49 [.ro (mxs l), .ro (.strs ws)] (.int .i64 (wordsErr l ws)) [] := by
  have k := checkMixes_ok l
  have hany : ∀ i, (∀ j, j < i → ¬ 200 < (ws.getD j []).length) → i < ws.length → 200 < (ws.getD i []).length → wordsErr l ws = 4 := by
    intro i _ hi h
    unfold wordsErr
    rw [if_pos]
    rw [List.any_eq_true]
    exact ⟨ws.getD i [], by rw [getD_lt hi]; exact List.getElem_mem hi, by simpa using h⟩
  have hnone : (∀ j, j < ws.length → ¬ 200 < (ws.getD j []).length) → wordsErr l ws = mixErr l := by
    intro h
    unfold wordsErr
    rw [if_neg]
    intro ha
    obtain ⟨s, hs, hl⟩ := List.any_eq_true.1 ha
    obtain ⟨j, hj, rfl⟩ := List.mem_iff_getElem.1 hs
    refine h j hj ?_
    rw [getD_lt hj]; simpa using hl
  generalize wordsErr l ws = e at *
  refine FnOk.of_vc Tryz.func49 rfl (by decide) (by simp [Tryz.f49]) [.tmp 4] rfl fun w0 T0 _ => ?_
  simp only [Tryz.f49, argEnv]
  (repeat' first | with_reducible (first | intro _ | refine rc ?_ | refine rl ?_ | refine rh ?_ | refine rt ?_ | refine rf ?_ | refine rs ?_ | refine And.intro ?_ ?_) | omega | simp (maxSteps := 1000000) only [go_sem, simprocAttr, ↓reduceIte])
  refine VcLoop.intro (fun i : Nat => ⟨19, [(9, .int .i64 i), (8, .int .i64 ws.length), (7, .ro (.strs ws)), (0, .ro (mxs l))], [], 0⟩) (fun i => i ≤ ws.length ∧ ∀ j, j < i → ¬ 200 < (ws.getD j []).length) (fun i => ws.length - i) 0 ?_ ⟨Nat.zero_le _, fun j hj => by omega⟩ fun i hi => ?_
  · refine Ent.auto0 rfl ?_ ?_ <;> simp only [go_sem, reduceCtorEq, reduceIte, Nat.reduceEqDiff, Nat.reduceLT, Nat.reduceLeDiff, Int.natCast_succ]
  by_cases hlt : i < ws.length
  · generalize hx : ws.getD i [] = x at *
    (repeat' first | with_reducible (first | intro _ | refine rc ?_ | refine rl ?_ | refine rh ?_ | refine rt ?_ | refine rf ?_ | refine rs ?_ | refine And.intro ?_ ?_) | omega | simp (maxSteps := 1000000) only [go_sem, simprocAttr, ↓reduceIte, elemA, hx])
    · rename_i h
      rw [hany i hi.2 hlt (by rw [hx]; omega)]
      refine Ret.auto 0 ?_ rfl ?_ <;> simp only [go_sem, reduceCtorEq, reduceIte, Nat.reduceEqDiff, Nat.reduceLT, Nat.reduceLeDiff, Int.natCast_succ, Post]
    · rename_i h
      refine ⟨i + 1, Ent.auto0 rfl ?_ ?_, ⟨by omega, fun j hj => ?_⟩, by omega⟩
      · simp only [go_sem, reduceCtorEq, reduceIte, Nat.reduceEqDiff, Nat.reduceLT, Nat.reduceLeDiff, Int.natCast_succ]
      · simp only [go_sem, reduceCtorEq, reduceIte, Nat.reduceEqDiff, Nat.reduceLT, Nat.reduceLeDiff, Int.natCast_succ]
      · by_cases e : j = i
        · subst e; rw [hx]; omega
        · exact hi.2 j (by omega)
  · have e : i = ws.length := by omega
    subst e
    rw [hnone hi.2]
    (repeat' first | with_reducible (first | intro _ | refine rc ?_ | refine rl ?_ | refine rh ?_ | refine rt ?_ | refine rf ?_ | refine rs ?_ | refine And.intro ?_ ?_) | omega | simp (maxSteps := 1000000) only [go_sem, simprocAttr, ↓reduceIte])
    refine VcCall.k k ?_
    (repeat' first | with_reducible (first | intro _ | refine rc ?_ | refine rl ?_ | refine rh ?_ | refine rt ?_ | refine rf ?_ | refine rs ?_ | refine And.intro ?_ ?_) | omega | simp (maxSteps := 1000000) only [go_sem, simprocAttr, ↓reduceIte])
    refine Ret.auto 0 ?_ rfl ?_ <;> simp only [go_sem, reduceCtorEq, reduceIte, Nat.reduceEqDiff, Nat.reduceLT, Nat.reduceLeDiff, Int.natCast_succ, Post]
theorem mix_good {l : List Mx} (h : mixErr l = 0) : GoodSw (swL l) ∧ (swL l).length ≤ 400 ∧ (∀ m, m ∈ l → m.f ≠ [] ∧ m.t ≠ []) := by
  obtain ⟨h1, h2⟩ := mixErr_zero h
  exact ⟨good_swL h2, by rw [swL_len]; omega, fun m hm => ⟨part_ne (h2 m hm).1, part_ne (h2 m hm).2.1⟩⟩
theorem tab_first (sw : List Sw) (a b : List UInt8) : (tab sw a b 0).getD 0 0 = dist sw a b := by
  rw [tab_get (by simp [Nat.mul_pos_iff_of_pos_left]; try omega) (Nat.le_refl _)]
  have := cellD_at sw a b (i := 0) (j := 0) (by omega)
  simpa using this

end Go.Fv.Y
