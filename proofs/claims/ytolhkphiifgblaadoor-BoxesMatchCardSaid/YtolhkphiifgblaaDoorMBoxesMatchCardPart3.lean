/-
  A part of the proof of the claim: walks over the program's functions and the plain laws that these need. No condition of its own.
-/
import Derived.Test.YtolhkphiifgblaaDoorMBoxesMatchCardPart2
import Derived.Test.YtolhkphiifgblaaDoorMBoxesMatchCardPart1
import Derived.Test.YtolhkphiifgblaaDoorFvPart9
/- Groups and the reference's: the walk. -/
namespace Go.Fv.M
open Go Go.Proofs
set_option linter.unusedSimpArgs false
set_option linter.unusedVariables false
set_option linter.unnecessarySimpa false
set_option maxRecDepth 8000

theorem near_t {a : Bool} {P Q : Prop} [Decidable P] [Decidable Q] (h : (!a && decide P && decide Q) = true) : (P ∧ Q) ∧ ¬ (a = true ∨ true = false) := by
  revert h
  by_cases hp : P <;> by_cases hq : Q <;> cases a <;> simp [hp, hq]
theorem near_f {a : Bool} {P Q : Prop} [Decidable P] [Decidable Q] (h : (!a && decide P && decide Q) = false) : ¬ (P ∧ Q) ∨ (a = true ∨ true = false) := by
  revert h
  by_cases hp : P <;> by_cases hq : Q <;> cases a <;> simp [hp, hq]
set_option maxHeartbeats 8000000 in
theorem groups_ok (l : List Bx) (dx dy : Int) (hl : l.length ≤ 5000) (hok : ∀ b, b ∈ l → BxOk b) (hd : (0 ≤ dx ∧ dx ≤ 1048576) ∧ (0 ≤ dy ∧ dy ≤ 1048576)) :
    FnOk Tryd.prog 18 [.ro (bxs l), .int .i64 dx, .int .i64 dy] (.tup [.own 0, .int .i64 0]) [(0, .row 53 (.objs 1 (((groupsOf l dx dy).map sortI).map gAv)))] := by
  have hst := grpStep_ok l dx dy
  have hRl := groups_len l dx dy
  have hat : ∀ c0 c s j, RInv allB l.length c0 s → j < l.length → RInv allB l.length c0 (grpAt l dx dy c s j) ∧ RLe s (grpAt l dx dy c s j) := fun c0 c s j h hj => grpAt_inv h hj
  generalize hR : groupsOf l dx dy = R at *
  refine FnOk.of_vc Tryd.func18 rfl (by decide) (by simp [Tryd.f18]) [.tmp 6, .tmp 7] rfl fun w0 T0 _ => ?_
  simp only [Tryd.f18, argEnv]
  have kc := checkList_ok l
  rw [if_neg (by omega), firstBad_zero.2 hok] at kc
  (repeat' first | with_reducible (first | refine Asm.intro fun _ => ?_ | refine Chk.g ?_ | refine AnyI.i64 fun _ _ => ?_ | refine LetW.g ?_ | refine LetW.h ?_ | refine Ite.t fun _ => ?_ | refine Ite.f fun _ => ?_ | refine Ite.decide (fun _ => ?_) fun _ => ?_ | refine Ite.bool (fun _ => ?_) fun _ => ?_ | refine And.intro ?_ ?_) | omega | simp (maxSteps := 1000000) only [go_sem, reduceCtorEq, Nat.reduceLT, Nat.reduceLeDiff, reduceIte, ↓reduceIte, Nat.reduceEqDiff, Nat.reduceAdd, Nat.reduceMul, Nat.reduceSub, Int.reduceLE, Int.reduceLT, Int.reduceNeg, Int.reduceToNat])
  refine VcCall.fr (FnFr.of_ok (kc) rfl rfl) (by simp only [noIdR_ok, argOkL, argOk, allOk, argOkN, List.drop_zero, lk, reduceIte, reduceCtorEq, Nat.reduceEqDiff, Option.some.injEq, Item.row.injEq, Item.box.injEq, AV.ro.injEq, exists_eq_left, exists_and_left, exists_eq_left', exists_eq_right, and_assoc, and_true, true_and, List.cons.injEq, exists_eq', exists_eq]) 0 rfl (by simp [rowsB]) ?_
  (repeat' first | with_reducible (first | refine Asm.intro fun _ => ?_ | refine Chk.g ?_ | refine AnyI.i64 fun _ _ => ?_ | refine LetW.g ?_ | refine LetW.h ?_ | refine Ite.t fun _ => ?_ | refine Ite.f fun _ => ?_ | refine Ite.decide (fun _ => ?_) fun _ => ?_ | refine Ite.bool (fun _ => ?_) fun _ => ?_ | refine And.intro ?_ ?_) | omega | simp (maxSteps := 1000000) only [go_sem, reduceCtorEq, Nat.reduceLT, Nat.reduceLeDiff, reduceIte, ↓reduceIte, Nat.reduceEqDiff, Nat.reduceAdd, Nat.reduceMul, Nat.reduceSub, Int.reduceLE, Int.reduceLT, Int.reduceNeg, Int.reduceToNat, List.length_map])
  refine VcLoop.intro (fun x : Nat × List Bool × List (List Int) => ⟨110, [(41, .int .i64 (x.1 : Nat)), (40, .int .i64 l.length), (10, .own 1), (9, .own 0), (0, .ro (bxs l)), (1, .int .i64 dx), (2, .int .i64 dy)], [(0, .row 4 (.bools x.2.1)), (1, .row 53 (.objs 1 ((x.2.2.map sortI).map gAv)))], 2⟩) (fun x => x.1 ≤ l.length ∧ SInv allB l.length x.1 x.2.1 ∧ x.2.2 ++ regs allB (grpStep l dx dy) l.length (l.length - x.1) x.1 x.2.1 = R) (fun x => l.length - x.1) (0, List.replicate l.length false, []) ?_ ⟨Nat.zero_le _, SInv.zero _ _, ?_⟩ fun x hx => ?_
  · refine Ent.auto0 rfl ?_ ?_ <;> simp only [go_sem, reduceCtorEq, reduceIte, Nat.reduceEqDiff, Nat.reduceLT, Nat.reduceLeDiff, Int.natCast_succ, zrow, List.map_nil, Int.toNat_natCast]
  · dsimp only
    rw [Nat.sub_zero, List.nil_append]
    exact hR
  obtain ⟨i, seen, D⟩ := x
  obtain ⟨hi, hS, hD⟩ := hx
  dsimp only at hi hS hD ⊢
  have hsl := hS.len
  by_cases hlt : i < l.length
  · obtain ⟨m, hm⟩ : ∃ m, l.length - i = m + 1 := ⟨l.length - i - 1, by omega⟩
    have hm' : l.length - (i + 1) = m := by omega
    rw [hm] at hD
    simp only [regs] at hD
    have hDl : D.length ≤ l.length := by
      have : (D ++ (if seen.getD i false = true ∨ allB i = false then regs allB (grpStep l dx dy) l.length m (i + 1) seen else (bfs (grpStep l dx dy) l.length 0 ⟨seen.set i true, [(i : Int)]⟩).l :: regs allB (grpStep l dx dy) l.length m (i + 1) (bfs (grpStep l dx dy) l.length 0 ⟨seen.set i true, [(i : Int)]⟩).seen)).length ≤ l.length := by rw [hD]; exact hRl
      rw [List.length_append] at this
      omega
    (repeat' first | with_reducible (first | refine Asm.intro fun _ => ?_ | refine Chk.g ?_ | refine AnyI.i64 fun _ _ => ?_ | refine LetW.g ?_ | refine LetW.h ?_ | refine Ite.t fun _ => ?_ | refine Ite.f fun _ => ?_ | refine Ite.decide (fun _ => ?_) fun _ => ?_ | refine Ite.bool (fun _ => ?_) fun _ => ?_ | refine And.intro ?_ ?_) | omega | simp (maxSteps := 1000000) only [go_sem, reduceCtorEq, Nat.reduceLT, Nat.reduceLeDiff, reduceIte, ↓reduceIte, Nat.reduceEqDiff, Nat.reduceAdd, Nat.reduceMul, Nat.reduceSub, Int.reduceLE, Int.reduceLT, Int.reduceNeg, Int.reduceToNat, Int.toNat_natCast, hsl])
    · rename_i hc
      have hs : seen.getD i false = true ∨ allB i = false := .inl hc
      rw [if_pos hs] at hD
      (repeat' first | with_reducible (first | refine Asm.intro fun _ => ?_ | refine Chk.g ?_ | refine AnyI.i64 fun _ _ => ?_ | refine LetW.g ?_ | refine LetW.h ?_ | refine Ite.t fun _ => ?_ | refine Ite.f fun _ => ?_ | refine Ite.decide (fun _ => ?_) fun _ => ?_ | refine Ite.bool (fun _ => ?_) fun _ => ?_ | refine And.intro ?_ ?_) | omega | simp (maxSteps := 1000000) only [go_sem, reduceCtorEq, Nat.reduceLT, Nat.reduceLeDiff, reduceIte, ↓reduceIte, Nat.reduceEqDiff, Nat.reduceAdd, Nat.reduceMul, Nat.reduceSub, Int.reduceLE, Int.reduceLT, Int.reduceNeg, Int.reduceToNat])
      refine ⟨(i + 1, seen, D), Ent.auto0 rfl ?_ ?_, ⟨by omega, hS.skip hs, by dsimp only; rw [hm']; exact hD⟩, by dsimp only; omega⟩ <;> simp only [go_sem, reduceCtorEq, reduceIte, Nat.reduceEqDiff, Nat.reduceLT, Nat.reduceLeDiff, Int.natCast_succ]
    · rename_i hc
      have hs : ¬ (seen.getD i false = true ∨ allB i = false) := by rw [hc]; simp [allB]
      rw [if_neg hs] at hD
      have hI := hS.start hlt hs
      obtain ⟨hS2, hO2, _⟩ := hS.region hst hlt hs l.length
      generalize hF : bfs (grpStep l dx dy) l.length 0 ⟨seen.set i true, [(i : Int)]⟩ = F at *
      generalize seen.count true = c0 at *
      (repeat' first | with_reducible (first | refine Asm.intro fun _ => ?_ | refine Chk.g ?_ | refine AnyI.i64 fun _ _ => ?_ | refine LetW.g ?_ | refine LetW.h ?_ | refine Ite.t fun _ => ?_ | refine Ite.f fun _ => ?_ | refine Ite.decide (fun _ => ?_) fun _ => ?_ | refine Ite.bool (fun _ => ?_) fun _ => ?_ | refine And.intro ?_ ?_) | omega | simp (maxSteps := 1000000) only [go_sem, reduceCtorEq, Nat.reduceLT, Nat.reduceLeDiff, reduceIte, ↓reduceIte, Nat.reduceEqDiff, Nat.reduceAdd, Nat.reduceMul, Nat.reduceSub, Int.reduceLE, Int.reduceLT, Int.reduceNeg, Int.reduceToNat, Int.toNat_natCast, hsl])
      refine VcLoop.intro (fun x : Nat × RS => ⟨110, [(13, .int .i64 (x.1 : Nat)), (12, .own 2), (41, .int .i64 (i : Nat)), (40, .int .i64 l.length), (10, .own 1), (9, .own 0), (0, .ro (bxs l)), (1, .int .i64 dx), (2, .int .i64 dy)], [(0, .row 4 (.bools x.2.seen)), (1, .row 53 (.objs 1 ((D.map sortI).map gAv))), (2, .row 3 (.ints .i64 x.2.l))], 3⟩) (fun x => x.1 ≤ x.2.l.length ∧ RInv allB l.length c0 x.2 ∧ bfs (grpStep l dx dy) (l.length - x.1) x.1 x.2 = F) (fun x => l.length - x.1) (0, ⟨seen.set i true, [(i : Int)]⟩) ?_ ⟨Nat.zero_le _, hI, hF⟩ fun x hx => ?_
      · refine Ent.auto0 rfl ?_ ?_ <;> simp only [go_sem, reduceCtorEq, reduceIte, Nat.reduceEqDiff, Nat.reduceLT, Nat.reduceLeDiff, Int.natCast_succ]
      obtain ⟨k, s⟩ := x
      obtain ⟨hk, hI, hF⟩ := hx
      dsimp only at hk hI hF ⊢
      have hll := hI.le
      by_cases hlk : k < s.l.length
      · obtain ⟨hb1, hb2⟩ := hI.bd _ (getD_mem hlk)
        obtain ⟨m2, hm2⟩ : ∃ m2, l.length - k = m2 + 1 := ⟨l.length - k - 1, by omega⟩
        have hm2' : l.length - (k + 1) = m2 := by omega
        rw [hm2, bfs_step _ hlk] at hF
        obtain ⟨c, hc⟩ : ∃ c : Nat, s.l.getD k 0 = c := ⟨(s.l.getD k 0).toNat, by omega⟩
        rw [hc] at hF hb2
        generalize hQ : grpStep l dx dy s (c : Int) = Q at *
        unfold grpStep at hQ
        have hcl : c < l.length := by omega
        (repeat' first | with_reducible (first | refine Asm.intro fun _ => ?_ | refine Chk.g ?_ | refine AnyI.i64 fun _ _ => ?_ | refine LetW.g ?_ | refine LetW.h ?_ | refine Ite.t fun _ => ?_ | refine Ite.f fun _ => ?_ | refine Ite.decide (fun _ => ?_) fun _ => ?_ | refine Ite.bool (fun _ => ?_) fun _ => ?_ | refine And.intro ?_ ?_) | omega | simp (maxSteps := 1000000) only [go_sem, reduceCtorEq, Nat.reduceLT, Nat.reduceLeDiff, reduceIte, ↓reduceIte, Nat.reduceEqDiff, Nat.reduceAdd, Nat.reduceMul, Nat.reduceSub, Int.reduceLE, Int.reduceLT, Int.reduceNeg, Int.reduceToNat, Int.toNat_natCast, List.length_map])
        refine VcLoop.intro (fun z : Nat × RS => ⟨110, [(61, .int .i64 (z.1 : Nat)), (60, .int .i64 l.length), (13, .int .i64 (k : Nat)), (12, .own 2), (41, .int .i64 (i : Nat)), (40, .int .i64 l.length), (10, .own 1), (9, .own 0), (0, .ro (bxs l)), (1, .int .i64 dx), (2, .int .i64 dy)], [(0, .row 4 (.bools z.2.seen)), (1, .row 53 (.objs 1 ((D.map sortI).map gAv))), (2, .row 3 (.ints .i64 z.2.l))], 3⟩) (fun z => z.1 ≤ l.length ∧ RInv allB l.length c0 z.2 ∧ (k < z.2.l.length ∧ z.2.l.getD k 0 = (c : Int)) ∧ ((List.range l.length).drop z.1).foldl (grpAt l dx dy c) z.2 = Q) (fun z => l.length - z.1) (0, s) ?_ ⟨Nat.zero_le _, hI, ⟨hlk, hc⟩, hQ⟩ fun z hz => ?_
        · refine Ent.auto0 rfl ?_ ?_ <;> simp only [go_sem, reduceCtorEq, reduceIte, Nat.reduceEqDiff, Nat.reduceLT, Nat.reduceLeDiff, Int.natCast_succ]
        obtain ⟨j, t⟩ := z
        obtain ⟨hj, hIt, ⟨hkt, hct⟩, hrest⟩ := hz
        dsimp only at hj hIt hkt hct hrest ⊢
        have hlt2 := hIt.le
        have hsu := hIt.len
        by_cases hjl : j < l.length
        · rw [range_drop hjl, List.foldl_cons] at hrest
          obtain ⟨hI4, hL4⟩ := hat c0 c t j hIt hjl
          have hl4 := hL4.len
          obtain ⟨r4, hr4⟩ := hL4.pre
          have hg4 : (grpAt l dx dy c t j).l.getD k 0 = (c : Int) := by
            rw [hr4, List.getD_eq_getElem?_getD, List.getElem?_append_left hkt, ← List.getD_eq_getElem?_getD]; exact hct
          have kn := near_ok (l.getD c Bx.zero) (l.getD j Bx.zero) (hok _ (bx_mem hcl)) (hok _ (bx_mem hjl))
          have he1 := bx_elem l hcl
          have he2 := bx_elem l hjl
          have hdef : grpAt l dx dy c t j = if nx (l.getD c Bx.zero) (l.getD j Bx.zero) ≤ dx ∧ ny (l.getD c Bx.zero) (l.getD j Bx.zero) ≤ dy then (if t.seen.getD j false = true ∨ true = false then t else ⟨t.seen.set j true, t.l ++ [(j : Int)]⟩) else t := by
            unfold grpAt RS.vis allB
            rw [Int.toNat_natCast]
          generalize grpAt l dx dy c t j = t' at *
          generalize l.getD c Bx.zero = A at *
          generalize l.getD j Bx.zero = B at *
          generalize nx A B = u at *
          generalize ny A B = v at *
          unfold Bx.av at kn
          (repeat' first | with_reducible (first | refine Asm.intro fun _ => ?_ | refine Chk.g ?_ | refine AnyI.i64 fun _ _ => ?_ | refine LetW.g ?_ | refine LetW.h ?_ | refine Ite.t fun _ => ?_ | refine Ite.f fun _ => ?_ | refine Ite.decide (fun _ => ?_) fun _ => ?_ | refine Ite.bool (fun _ => ?_) fun _ => ?_ | refine And.intro ?_ ?_) | omega | simp (maxSteps := 1000000) only [go_sem, reduceCtorEq, Nat.reduceLT, Nat.reduceLeDiff, reduceIte, ↓reduceIte, Nat.reduceEqDiff, Nat.reduceAdd, Nat.reduceMul, Nat.reduceSub, Int.reduceLE, Int.reduceLT, Int.reduceNeg, Int.reduceToNat, Int.toNat_natCast, List.length_map])
          refine VcDraw.lex [] [] (by kernel_rfl) (by kernel_rfl) ?_
          (repeat' first | with_reducible (first | refine Asm.intro fun _ => ?_ | refine Chk.g ?_ | refine AnyI.i64 fun _ _ => ?_ | refine LetW.g ?_ | refine LetW.h ?_ | refine Ite.t fun _ => ?_ | refine Ite.f fun _ => ?_ | refine Ite.decide (fun _ => ?_) fun _ => ?_ | refine Ite.bool (fun _ => ?_) fun _ => ?_ | refine And.intro ?_ ?_) | omega | simp (maxSteps := 1000000) only [go_sem, reduceCtorEq, Nat.reduceLT, Nat.reduceLeDiff, reduceIte, ↓reduceIte, Nat.reduceEqDiff, Nat.reduceAdd, Nat.reduceMul, Nat.reduceSub, Int.reduceLE, Int.reduceLT, Int.reduceNeg, Int.reduceToNat, Int.toNat_natCast, List.length_map, hct, elemA, he1, he2])
          (refine QV.intro (.tup [.int .i64 u, .int .i64 v]) ?_ ?_; focus ((repeat' first | with_reducible (first | refine Asm.intro fun _ => ?_ | refine Chk.g ?_ | refine AnyI.i64 fun _ _ => ?_ | refine LetW.g ?_ | refine LetW.h ?_ | refine Ite.t fun _ => ?_ | refine Ite.f fun _ => ?_ | refine Ite.decide (fun _ => ?_) fun _ => ?_ | refine Ite.bool (fun _ => ?_) fun _ => ?_ | refine And.intro ?_ ?_) | omega | simp (maxSteps := 1000000) only [go_sem, reduceCtorEq, Nat.reduceLT, Nat.reduceLeDiff, reduceIte, ↓reduceIte, Nat.reduceEqDiff, Nat.reduceAdd, Nat.reduceMul, Nat.reduceSub, Int.reduceLE, Int.reduceLT, Int.reduceNeg, Int.reduceToNat]); refine VcCall.fr (FnFr.of_ok (kn) rfl rfl) (by simp only [noIdR_ok, argOkL, argOk, allOk, argOkN, List.drop_zero, lk, reduceIte, reduceCtorEq, Nat.reduceEqDiff, Option.some.injEq, Item.row.injEq, Item.box.injEq, AV.ro.injEq, exists_eq_left, exists_and_left, exists_eq_left', exists_eq_right, and_assoc, and_true, true_and, List.cons.injEq, exists_eq', exists_eq]) 0 rfl (by simp [rowsB]) ?_; (repeat' first | with_reducible (first | refine Asm.intro fun _ => ?_ | refine Chk.g ?_ | refine AnyI.i64 fun _ _ => ?_ | refine LetW.g ?_ | refine LetW.h ?_ | refine Ite.t fun _ => ?_ | refine Ite.f fun _ => ?_ | refine Ite.decide (fun _ => ?_) fun _ => ?_ | refine Ite.bool (fun _ => ?_) fun _ => ?_ | refine And.intro ?_ ?_) | omega | simp (maxSteps := 1000000) only [go_sem, reduceCtorEq, Nat.reduceLT, Nat.reduceLeDiff, reduceIte, ↓reduceIte, Nat.reduceEqDiff, Nat.reduceAdd, Nat.reduceMul, Nat.reduceSub, Int.reduceLE, Int.reduceLT, Int.reduceNeg, Int.reduceToNat])))
          (repeat' first | with_reducible (first | refine Asm.intro fun _ => ?_ | refine Chk.g ?_ | refine AnyI.i64 fun _ _ => ?_ | refine LetW.g ?_ | refine LetW.h ?_ | refine Ite.t fun _ => ?_ | refine Ite.f fun _ => ?_ | refine Ite.decide (fun _ => ?_) fun _ => ?_ | refine Ite.bool (fun _ => ?_) fun _ => ?_ | refine And.intro ?_ ?_) | omega | simp (maxSteps := 1000000) only [go_sem, reduceCtorEq, Nat.reduceLT, Nat.reduceLeDiff, reduceIte, ↓reduceIte, Nat.reduceEqDiff, Nat.reduceAdd, Nat.reduceMul, Nat.reduceSub, Int.reduceLE, Int.reduceLT, Int.reduceNeg, Int.reduceToNat, Int.toNat_natCast, List.length_map, hct, elemA, he1, he2])
          · rename_i hc4
            obtain ⟨q1, q2⟩ := near_t hc4
            rw [if_pos q1, if_neg q2] at hdef
            refine ⟨(j + 1, t'), Ent.auto0 rfl ?_ ?_, ⟨by dsimp only; omega, hI4, ⟨by dsimp only; omega, hg4⟩, hrest⟩, by dsimp only; omega⟩ <;> simp only [go_sem, reduceCtorEq, reduceIte, Nat.reduceEqDiff, Nat.reduceLT, Nat.reduceLeDiff, Int.natCast_succ, hdef]
          · rename_i hc4
            have hdef2 : t' = t := by
              rw [hdef]
              rcases near_f hc4 with q | q
              · rw [if_neg q]
              · rw [if_pos q, ite_self]
            refine ⟨(j + 1, t'), Ent.auto0 rfl ?_ ?_, ⟨by dsimp only; omega, hI4, ⟨by dsimp only; omega, hg4⟩, hrest⟩, by dsimp only; omega⟩ <;> simp only [go_sem, reduceCtorEq, reduceIte, Nat.reduceEqDiff, Nat.reduceLT, Nat.reduceLeDiff, Int.natCast_succ, hdef2]
        · have ej : j = l.length := by omega
          subst ej
          rw [range_drop_end] at hrest
          have e : t = Q := hrest
          subst e
          (repeat' first | with_reducible (first | refine Asm.intro fun _ => ?_ | refine Chk.g ?_ | refine AnyI.i64 fun _ _ => ?_ | refine LetW.g ?_ | refine LetW.h ?_ | refine Ite.t fun _ => ?_ | refine Ite.f fun _ => ?_ | refine Ite.decide (fun _ => ?_) fun _ => ?_ | refine Ite.bool (fun _ => ?_) fun _ => ?_ | refine And.intro ?_ ?_) | omega | simp (maxSteps := 1000000) only [go_sem, reduceCtorEq, Nat.reduceLT, Nat.reduceLeDiff, reduceIte, ↓reduceIte, Nat.reduceEqDiff, Nat.reduceAdd, Nat.reduceMul, Nat.reduceSub, Int.reduceLE, Int.reduceLT, Int.reduceNeg, Int.reduceToNat, Int.toNat_natCast])
          refine ⟨(k + 1, t), Ent.auto0 rfl ?_ ?_, ⟨by dsimp only; omega, hIt, by dsimp only; rw [hm2']; exact hF⟩, by dsimp only; omega⟩ <;> simp only [go_sem, reduceCtorEq, reduceIte, Nat.reduceEqDiff, Nat.reduceLT, Nat.reduceLeDiff, Int.natCast_succ]
      · have e : F = s := by rw [← hF, bfs_end _ _ _ _ hlk]
        subst e
        have kS := sortR_ok F.l (by omega)
        have hsl2 := sortI_len F.l
        (repeat' first | with_reducible (first | refine Asm.intro fun _ => ?_ | refine Chk.g ?_ | refine AnyI.i64 fun _ _ => ?_ | refine LetW.g ?_ | refine LetW.h ?_ | refine Ite.t fun _ => ?_ | refine Ite.f fun _ => ?_ | refine Ite.decide (fun _ => ?_) fun _ => ?_ | refine Ite.bool (fun _ => ?_) fun _ => ?_ | refine And.intro ?_ ?_) | omega | simp (maxSteps := 1000000) only [go_sem, reduceCtorEq, Nat.reduceLT, Nat.reduceLeDiff, reduceIte, ↓reduceIte, Nat.reduceEqDiff, Nat.reduceAdd, Nat.reduceMul, Nat.reduceSub, Int.reduceLE, Int.reduceLT, Int.reduceNeg, Int.reduceToNat])
        refine VcCall.io [2] kS (by decide) (by simp [renL, ren, ioN]) rfl (by simp [subOk, ioN, lk, Item.ren, Item.below, ren, renL, belowL, Fv.below, renR, belowR]) cov1 1 (by decide) rfl (by simp [rowsB, Item.below, Fv.below, belowL, belowR]) ?_
        (repeat' first | with_reducible (first | refine Asm.intro fun _ => ?_ | refine Chk.g ?_ | refine AnyI.i64 fun _ _ => ?_ | refine LetW.g ?_ | refine LetW.h ?_ | refine Ite.t fun _ => ?_ | refine Ite.f fun _ => ?_ | refine Ite.decide (fun _ => ?_) fun _ => ?_ | refine Ite.bool (fun _ => ?_) fun _ => ?_ | refine And.intro ?_ ?_) | omega | simp (maxSteps := 1000000) only [go_sem, reduceCtorEq, Nat.reduceLT, Nat.reduceLeDiff, reduceIte, ↓reduceIte, Nat.reduceEqDiff, Nat.reduceAdd, Nat.reduceMul, Nat.reduceSub, Int.reduceLE, Int.reduceLT, Int.reduceNeg, Int.reduceToNat, S.ioS, ioRows, ioN, delL, Item.ren, ren, renL, renR, List.map_nil, List.length_cons, List.length_nil, List.getElem?_cons_zero, List.getElem?_nil, List.cons_append, List.nil_append, Nat.reduceAdd, Nat.sub_self, Nat.add_zero, List.filter])
        refine ⟨(i + 1, F.seen, D ++ [F.l]), Ent.auto0 rfl ?_ ?_, ⟨by omega, hS2, by dsimp only; rw [hm', List.append_assoc]; exact hD⟩, by dsimp only; omega⟩ <;> simp only [go_sem, reduceCtorEq, reduceIte, Nat.reduceEqDiff, Nat.reduceLT, Nat.reduceLeDiff, Int.natCast_succ, List.map_append, gAv]
  · have e : i = l.length := by omega
    subst e
    rw [Nat.sub_self] at hD
    simp only [regs, List.append_nil] at hD
    subst hD
    (repeat' first | with_reducible (first | refine Asm.intro fun _ => ?_ | refine Chk.g ?_ | refine AnyI.i64 fun _ _ => ?_ | refine LetW.g ?_ | refine LetW.h ?_ | refine Ite.t fun _ => ?_ | refine Ite.f fun _ => ?_ | refine Ite.decide (fun _ => ?_) fun _ => ?_ | refine Ite.bool (fun _ => ?_) fun _ => ?_ | refine And.intro ?_ ?_) | omega | simp (maxSteps := 1000000) only [go_sem, reduceCtorEq, Nat.reduceLT, Nat.reduceLeDiff, reduceIte, ↓reduceIte, Nat.reduceEqDiff, Nat.reduceAdd, Nat.reduceMul, Nat.reduceSub, Int.reduceLE, Int.reduceLT, Int.reduceNeg, Int.reduceToNat])
    refine Ret.auto 1 ?_ rfl ?_ <;> simp only [go_sem, reduceCtorEq, reduceIte, Nat.reduceEqDiff, Nat.reduceLT, Nat.reduceLeDiff, Int.natCast_succ, Post]
set_option maxHeartbeats 8000000 in
theorem refGroups_ok (l : List Bx) (dx dy : Int) (hl : l.length ≤ 5000) (hok : ∀ b, b ∈ l → BxOk b) :
    FnOk Tryd.prog 23 [.ro (bxs l), .int .i64 dx, .int .i64 dy] (.own 0) [(0, .row 53 (.objs 1 (((groupsOf l dx dy).map sortI).map gAv)))] := by
  have hst := grpStep_ok l dx dy
  have hRl := groups_len l dx dy
  have hat : ∀ c0 c s j, RInv allB l.length c0 s → j < l.length → RInv allB l.length c0 (grpAt l dx dy c s j) ∧ RLe s (grpAt l dx dy c s j) := fun c0 c s j h hj => grpAt_inv h hj
  generalize hR : groupsOf l dx dy = R at *
  refine FnOk.of_vc Tryd.func23 rfl (by decide) (by simp [Tryd.f23]) [.tmp 6] rfl fun w0 T0 _ => ?_
  simp only [Tryd.f23, argEnv]
  (repeat' first | with_reducible (first | refine Asm.intro fun _ => ?_ | refine Chk.g ?_ | refine AnyI.i64 fun _ _ => ?_ | refine LetW.g ?_ | refine LetW.h ?_ | refine Ite.t fun _ => ?_ | refine Ite.f fun _ => ?_ | refine Ite.decide (fun _ => ?_) fun _ => ?_ | refine Ite.bool (fun _ => ?_) fun _ => ?_ | refine And.intro ?_ ?_) | omega | simp (maxSteps := 1000000) only [go_sem, reduceCtorEq, Nat.reduceLT, Nat.reduceLeDiff, reduceIte, ↓reduceIte, Nat.reduceEqDiff, Nat.reduceAdd, Nat.reduceMul, Nat.reduceSub, Int.reduceLE, Int.reduceLT, Int.reduceNeg, Int.reduceToNat, List.length_map])
  refine VcLoop.intro (fun x : Nat × List Bool × List (List Int) => ⟨89, [(20, .int .i64 (x.1 : Nat)), (19, .int .i64 l.length), (8, .own 1), (7, .own 0), (0, .ro (bxs l)), (1, .int .i64 dx), (2, .int .i64 dy)], [(0, .row 4 (.bools x.2.1)), (1, .row 53 (.objs 1 ((x.2.2.map sortI).map gAv)))], 2⟩) (fun x => x.1 ≤ l.length ∧ SInv allB l.length x.1 x.2.1 ∧ x.2.2 ++ regs allB (grpStep l dx dy) l.length (l.length - x.1) x.1 x.2.1 = R) (fun x => l.length - x.1) (0, List.replicate l.length false, []) ?_ ⟨Nat.zero_le _, SInv.zero _ _, ?_⟩ fun x hx => ?_
  · refine Ent.auto0 rfl ?_ ?_ <;> simp only [go_sem, reduceCtorEq, reduceIte, Nat.reduceEqDiff, Nat.reduceLT, Nat.reduceLeDiff, Int.natCast_succ, zrow, List.map_nil, Int.toNat_natCast]
  · dsimp only
    rw [Nat.sub_zero, List.nil_append]
    exact hR
  obtain ⟨i, seen, D⟩ := x
  obtain ⟨hi, hS, hD⟩ := hx
  dsimp only at hi hS hD ⊢
  have hsl := hS.len
  by_cases hlt : i < l.length
  · obtain ⟨m, hm⟩ : ∃ m, l.length - i = m + 1 := ⟨l.length - i - 1, by omega⟩
    have hm' : l.length - (i + 1) = m := by omega
    rw [hm] at hD
    simp only [regs] at hD
    have hDl : D.length ≤ l.length := by
      have : (D ++ (if seen.getD i false = true ∨ allB i = false then regs allB (grpStep l dx dy) l.length m (i + 1) seen else (bfs (grpStep l dx dy) l.length 0 ⟨seen.set i true, [(i : Int)]⟩).l :: regs allB (grpStep l dx dy) l.length m (i + 1) (bfs (grpStep l dx dy) l.length 0 ⟨seen.set i true, [(i : Int)]⟩).seen)).length ≤ l.length := by rw [hD]; exact hRl
      rw [List.length_append] at this
      omega
    (repeat' first | with_reducible (first | refine Asm.intro fun _ => ?_ | refine Chk.g ?_ | refine AnyI.i64 fun _ _ => ?_ | refine LetW.g ?_ | refine LetW.h ?_ | refine Ite.t fun _ => ?_ | refine Ite.f fun _ => ?_ | refine Ite.decide (fun _ => ?_) fun _ => ?_ | refine Ite.bool (fun _ => ?_) fun _ => ?_ | refine And.intro ?_ ?_) | omega | simp (maxSteps := 1000000) only [go_sem, reduceCtorEq, Nat.reduceLT, Nat.reduceLeDiff, reduceIte, ↓reduceIte, Nat.reduceEqDiff, Nat.reduceAdd, Nat.reduceMul, Nat.reduceSub, Int.reduceLE, Int.reduceLT, Int.reduceNeg, Int.reduceToNat, Int.toNat_natCast, hsl])
    · rename_i hc
      have hs : seen.getD i false = true ∨ allB i = false := .inl hc
      rw [if_pos hs] at hD
      (repeat' first | with_reducible (first | refine Asm.intro fun _ => ?_ | refine Chk.g ?_ | refine AnyI.i64 fun _ _ => ?_ | refine LetW.g ?_ | refine LetW.h ?_ | refine Ite.t fun _ => ?_ | refine Ite.f fun _ => ?_ | refine Ite.decide (fun _ => ?_) fun _ => ?_ | refine Ite.bool (fun _ => ?_) fun _ => ?_ | refine And.intro ?_ ?_) | omega | simp (maxSteps := 1000000) only [go_sem, reduceCtorEq, Nat.reduceLT, Nat.reduceLeDiff, reduceIte, ↓reduceIte, Nat.reduceEqDiff, Nat.reduceAdd, Nat.reduceMul, Nat.reduceSub, Int.reduceLE, Int.reduceLT, Int.reduceNeg, Int.reduceToNat])
      refine ⟨(i + 1, seen, D), Ent.auto0 rfl ?_ ?_, ⟨by omega, hS.skip hs, by dsimp only; rw [hm']; exact hD⟩, by dsimp only; omega⟩ <;> simp only [go_sem, reduceCtorEq, reduceIte, Nat.reduceEqDiff, Nat.reduceLT, Nat.reduceLeDiff, Int.natCast_succ]
    · rename_i hc
      have hs : ¬ (seen.getD i false = true ∨ allB i = false) := by rw [hc]; simp [allB]
      rw [if_neg hs] at hD
      have hI := hS.start hlt hs
      obtain ⟨hS2, hO2, _⟩ := hS.region hst hlt hs l.length
      generalize hF : bfs (grpStep l dx dy) l.length 0 ⟨seen.set i true, [(i : Int)]⟩ = F at *
      generalize seen.count true = c0 at *
      (repeat' first | with_reducible (first | refine Asm.intro fun _ => ?_ | refine Chk.g ?_ | refine AnyI.i64 fun _ _ => ?_ | refine LetW.g ?_ | refine LetW.h ?_ | refine Ite.t fun _ => ?_ | refine Ite.f fun _ => ?_ | refine Ite.decide (fun _ => ?_) fun _ => ?_ | refine Ite.bool (fun _ => ?_) fun _ => ?_ | refine And.intro ?_ ?_) | omega | simp (maxSteps := 1000000) only [go_sem, reduceCtorEq, Nat.reduceLT, Nat.reduceLeDiff, reduceIte, ↓reduceIte, Nat.reduceEqDiff, Nat.reduceAdd, Nat.reduceMul, Nat.reduceSub, Int.reduceLE, Int.reduceLT, Int.reduceNeg, Int.reduceToNat, Int.toNat_natCast, hsl])
      refine VcLoop.intro (fun x : Nat × RS => ⟨89, [(11, .int .i64 (x.1 : Nat)), (10, .own 2), (20, .int .i64 (i : Nat)), (19, .int .i64 l.length), (8, .own 1), (7, .own 0), (0, .ro (bxs l)), (1, .int .i64 dx), (2, .int .i64 dy)], [(0, .row 4 (.bools x.2.seen)), (1, .row 53 (.objs 1 ((D.map sortI).map gAv))), (2, .row 3 (.ints .i64 x.2.l))], 3⟩) (fun x => x.1 ≤ x.2.l.length ∧ RInv allB l.length c0 x.2 ∧ bfs (grpStep l dx dy) (l.length - x.1) x.1 x.2 = F) (fun x => l.length - x.1) (0, ⟨seen.set i true, [(i : Int)]⟩) ?_ ⟨Nat.zero_le _, hI, hF⟩ fun x hx => ?_
      · refine Ent.auto0 rfl ?_ ?_ <;> simp only [go_sem, reduceCtorEq, reduceIte, Nat.reduceEqDiff, Nat.reduceLT, Nat.reduceLeDiff, Int.natCast_succ]
      obtain ⟨k, s⟩ := x
      obtain ⟨hk, hI, hF⟩ := hx
      dsimp only at hk hI hF ⊢
      have hll := hI.le
      by_cases hlk : k < s.l.length
      · obtain ⟨hb1, hb2⟩ := hI.bd _ (getD_mem hlk)
        obtain ⟨m2, hm2⟩ : ∃ m2, l.length - k = m2 + 1 := ⟨l.length - k - 1, by omega⟩
        have hm2' : l.length - (k + 1) = m2 := by omega
        rw [hm2, bfs_step _ hlk] at hF
        obtain ⟨c, hc⟩ : ∃ c : Nat, s.l.getD k 0 = c := ⟨(s.l.getD k 0).toNat, by omega⟩
        rw [hc] at hF hb2
        generalize hQ : grpStep l dx dy s (c : Int) = Q at *
        unfold grpStep at hQ
        have hcl : c < l.length := by omega
        (repeat' first | with_reducible (first | refine Asm.intro fun _ => ?_ | refine Chk.g ?_ | refine AnyI.i64 fun _ _ => ?_ | refine LetW.g ?_ | refine LetW.h ?_ | refine Ite.t fun _ => ?_ | refine Ite.f fun _ => ?_ | refine Ite.decide (fun _ => ?_) fun _ => ?_ | refine Ite.bool (fun _ => ?_) fun _ => ?_ | refine And.intro ?_ ?_) | omega | simp (maxSteps := 1000000) only [go_sem, reduceCtorEq, Nat.reduceLT, Nat.reduceLeDiff, reduceIte, ↓reduceIte, Nat.reduceEqDiff, Nat.reduceAdd, Nat.reduceMul, Nat.reduceSub, Int.reduceLE, Int.reduceLT, Int.reduceNeg, Int.reduceToNat, Int.toNat_natCast, List.length_map])
        refine VcLoop.intro (fun z : Nat × RS => ⟨89, [(40, .int .i64 (z.1 : Nat)), (39, .int .i64 l.length), (11, .int .i64 (k : Nat)), (10, .own 2), (20, .int .i64 (i : Nat)), (19, .int .i64 l.length), (8, .own 1), (7, .own 0), (0, .ro (bxs l)), (1, .int .i64 dx), (2, .int .i64 dy)], [(0, .row 4 (.bools z.2.seen)), (1, .row 53 (.objs 1 ((D.map sortI).map gAv))), (2, .row 3 (.ints .i64 z.2.l))], 3⟩) (fun z => z.1 ≤ l.length ∧ RInv allB l.length c0 z.2 ∧ (k < z.2.l.length ∧ z.2.l.getD k 0 = (c : Int)) ∧ ((List.range l.length).drop z.1).foldl (grpAt l dx dy c) z.2 = Q) (fun z => l.length - z.1) (0, s) ?_ ⟨Nat.zero_le _, hI, ⟨hlk, hc⟩, hQ⟩ fun z hz => ?_
        · refine Ent.auto0 rfl ?_ ?_ <;> simp only [go_sem, reduceCtorEq, reduceIte, Nat.reduceEqDiff, Nat.reduceLT, Nat.reduceLeDiff, Int.natCast_succ]
        obtain ⟨j, t⟩ := z
        obtain ⟨hj, hIt, ⟨hkt, hct⟩, hrest⟩ := hz
        dsimp only at hj hIt hkt hct hrest ⊢
        have hlt2 := hIt.le
        have hsu := hIt.len
        by_cases hjl : j < l.length
        · rw [range_drop hjl, List.foldl_cons] at hrest
          obtain ⟨hI4, hL4⟩ := hat c0 c t j hIt hjl
          have hl4 := hL4.len
          obtain ⟨r4, hr4⟩ := hL4.pre
          have hg4 : (grpAt l dx dy c t j).l.getD k 0 = (c : Int) := by
            rw [hr4, List.getD_eq_getElem?_getD, List.getElem?_append_left hkt, ← List.getD_eq_getElem?_getD]; exact hct
          have kn := refNear_ok (l.getD c Bx.zero) (l.getD j Bx.zero) (hok _ (bx_mem hcl)) (hok _ (bx_mem hjl))
          have he1 := bx_elem l hcl
          have he2 := bx_elem l hjl
          have hdef : grpAt l dx dy c t j = if nx (l.getD c Bx.zero) (l.getD j Bx.zero) ≤ dx ∧ ny (l.getD c Bx.zero) (l.getD j Bx.zero) ≤ dy then (if t.seen.getD j false = true ∨ true = false then t else ⟨t.seen.set j true, t.l ++ [(j : Int)]⟩) else t := by
            unfold grpAt RS.vis allB
            rw [Int.toNat_natCast]
          generalize grpAt l dx dy c t j = t' at *
          generalize l.getD c Bx.zero = A at *
          generalize l.getD j Bx.zero = B at *
          generalize nx A B = u at *
          generalize ny A B = v at *
          unfold Bx.av at kn
          (repeat' first | with_reducible (first | refine Asm.intro fun _ => ?_ | refine Chk.g ?_ | refine AnyI.i64 fun _ _ => ?_ | refine LetW.g ?_ | refine LetW.h ?_ | refine Ite.t fun _ => ?_ | refine Ite.f fun _ => ?_ | refine Ite.decide (fun _ => ?_) fun _ => ?_ | refine Ite.bool (fun _ => ?_) fun _ => ?_ | refine And.intro ?_ ?_) | omega | simp (maxSteps := 1000000) only [go_sem, reduceCtorEq, Nat.reduceLT, Nat.reduceLeDiff, reduceIte, ↓reduceIte, Nat.reduceEqDiff, Nat.reduceAdd, Nat.reduceMul, Nat.reduceSub, Int.reduceLE, Int.reduceLT, Int.reduceNeg, Int.reduceToNat, Int.toNat_natCast, List.length_map])
          refine VcDraw.lex [] [] (by kernel_rfl) (by kernel_rfl) ?_
          (repeat' first | with_reducible (first | refine Asm.intro fun _ => ?_ | refine Chk.g ?_ | refine AnyI.i64 fun _ _ => ?_ | refine LetW.g ?_ | refine LetW.h ?_ | refine Ite.t fun _ => ?_ | refine Ite.f fun _ => ?_ | refine Ite.decide (fun _ => ?_) fun _ => ?_ | refine Ite.bool (fun _ => ?_) fun _ => ?_ | refine And.intro ?_ ?_) | omega | simp (maxSteps := 1000000) only [go_sem, reduceCtorEq, Nat.reduceLT, Nat.reduceLeDiff, reduceIte, ↓reduceIte, Nat.reduceEqDiff, Nat.reduceAdd, Nat.reduceMul, Nat.reduceSub, Int.reduceLE, Int.reduceLT, Int.reduceNeg, Int.reduceToNat, Int.toNat_natCast, List.length_map, hct, elemA, he1, he2])
          (refine QV.intro (.tup [.int .i64 u, .int .i64 v]) ?_ ?_; focus ((repeat' first | with_reducible (first | refine Asm.intro fun _ => ?_ | refine Chk.g ?_ | refine AnyI.i64 fun _ _ => ?_ | refine LetW.g ?_ | refine LetW.h ?_ | refine Ite.t fun _ => ?_ | refine Ite.f fun _ => ?_ | refine Ite.decide (fun _ => ?_) fun _ => ?_ | refine Ite.bool (fun _ => ?_) fun _ => ?_ | refine And.intro ?_ ?_) | omega | simp (maxSteps := 1000000) only [go_sem, reduceCtorEq, Nat.reduceLT, Nat.reduceLeDiff, reduceIte, ↓reduceIte, Nat.reduceEqDiff, Nat.reduceAdd, Nat.reduceMul, Nat.reduceSub, Int.reduceLE, Int.reduceLT, Int.reduceNeg, Int.reduceToNat]); refine VcCall.fr (FnFr.of_ok (kn) rfl rfl) (by simp only [noIdR_ok, argOkL, argOk, allOk, argOkN, List.drop_zero, lk, reduceIte, reduceCtorEq, Nat.reduceEqDiff, Option.some.injEq, Item.row.injEq, Item.box.injEq, AV.ro.injEq, exists_eq_left, exists_and_left, exists_eq_left', exists_eq_right, and_assoc, and_true, true_and, List.cons.injEq, exists_eq', exists_eq]) 0 rfl (by simp [rowsB]) ?_; (repeat' first | with_reducible (first | refine Asm.intro fun _ => ?_ | refine Chk.g ?_ | refine AnyI.i64 fun _ _ => ?_ | refine LetW.g ?_ | refine LetW.h ?_ | refine Ite.t fun _ => ?_ | refine Ite.f fun _ => ?_ | refine Ite.decide (fun _ => ?_) fun _ => ?_ | refine Ite.bool (fun _ => ?_) fun _ => ?_ | refine And.intro ?_ ?_) | omega | simp (maxSteps := 1000000) only [go_sem, reduceCtorEq, Nat.reduceLT, Nat.reduceLeDiff, reduceIte, ↓reduceIte, Nat.reduceEqDiff, Nat.reduceAdd, Nat.reduceMul, Nat.reduceSub, Int.reduceLE, Int.reduceLT, Int.reduceNeg, Int.reduceToNat])))
          (repeat' first | with_reducible (first | refine Asm.intro fun _ => ?_ | refine Chk.g ?_ | refine AnyI.i64 fun _ _ => ?_ | refine LetW.g ?_ | refine LetW.h ?_ | refine Ite.t fun _ => ?_ | refine Ite.f fun _ => ?_ | refine Ite.decide (fun _ => ?_) fun _ => ?_ | refine Ite.bool (fun _ => ?_) fun _ => ?_ | refine And.intro ?_ ?_) | omega | simp (maxSteps := 1000000) only [go_sem, reduceCtorEq, Nat.reduceLT, Nat.reduceLeDiff, reduceIte, ↓reduceIte, Nat.reduceEqDiff, Nat.reduceAdd, Nat.reduceMul, Nat.reduceSub, Int.reduceLE, Int.reduceLT, Int.reduceNeg, Int.reduceToNat, Int.toNat_natCast, List.length_map, hct, elemA, he1, he2])
          · rename_i hc4
            obtain ⟨q1, q2⟩ := near_t hc4
            rw [if_pos q1, if_neg q2] at hdef
            refine ⟨(j + 1, t'), Ent.auto0 rfl ?_ ?_, ⟨by dsimp only; omega, hI4, ⟨by dsimp only; omega, hg4⟩, hrest⟩, by dsimp only; omega⟩ <;> simp only [go_sem, reduceCtorEq, reduceIte, Nat.reduceEqDiff, Nat.reduceLT, Nat.reduceLeDiff, Int.natCast_succ, hdef]
          · rename_i hc4
            have hdef2 : t' = t := by
              rw [hdef]
              rcases near_f hc4 with q | q
              · rw [if_neg q]
              · rw [if_pos q, ite_self]
            refine ⟨(j + 1, t'), Ent.auto0 rfl ?_ ?_, ⟨by dsimp only; omega, hI4, ⟨by dsimp only; omega, hg4⟩, hrest⟩, by dsimp only; omega⟩ <;> simp only [go_sem, reduceCtorEq, reduceIte, Nat.reduceEqDiff, Nat.reduceLT, Nat.reduceLeDiff, Int.natCast_succ, hdef2]
        · have ej : j = l.length := by omega
          subst ej
          rw [range_drop_end] at hrest
          have e : t = Q := hrest
          subst e
          (repeat' first | with_reducible (first | refine Asm.intro fun _ => ?_ | refine Chk.g ?_ | refine AnyI.i64 fun _ _ => ?_ | refine LetW.g ?_ | refine LetW.h ?_ | refine Ite.t fun _ => ?_ | refine Ite.f fun _ => ?_ | refine Ite.decide (fun _ => ?_) fun _ => ?_ | refine Ite.bool (fun _ => ?_) fun _ => ?_ | refine And.intro ?_ ?_) | omega | simp (maxSteps := 1000000) only [go_sem, reduceCtorEq, Nat.reduceLT, Nat.reduceLeDiff, reduceIte, ↓reduceIte, Nat.reduceEqDiff, Nat.reduceAdd, Nat.reduceMul, Nat.reduceSub, Int.reduceLE, Int.reduceLT, Int.reduceNeg, Int.reduceToNat, Int.toNat_natCast])
          refine ⟨(k + 1, t), Ent.auto0 rfl ?_ ?_, ⟨by dsimp only; omega, hIt, by dsimp only; rw [hm2']; exact hF⟩, by dsimp only; omega⟩ <;> simp only [go_sem, reduceCtorEq, reduceIte, Nat.reduceEqDiff, Nat.reduceLT, Nat.reduceLeDiff, Int.natCast_succ]
      · have e : F = s := by rw [← hF, bfs_end _ _ _ _ hlk]
        subst e
        have kS := sortR_ok F.l (by omega)
        have hsl2 := sortI_len F.l
        (repeat' first | with_reducible (first | refine Asm.intro fun _ => ?_ | refine Chk.g ?_ | refine AnyI.i64 fun _ _ => ?_ | refine LetW.g ?_ | refine LetW.h ?_ | refine Ite.t fun _ => ?_ | refine Ite.f fun _ => ?_ | refine Ite.decide (fun _ => ?_) fun _ => ?_ | refine Ite.bool (fun _ => ?_) fun _ => ?_ | refine And.intro ?_ ?_) | omega | simp (maxSteps := 1000000) only [go_sem, reduceCtorEq, Nat.reduceLT, Nat.reduceLeDiff, reduceIte, ↓reduceIte, Nat.reduceEqDiff, Nat.reduceAdd, Nat.reduceMul, Nat.reduceSub, Int.reduceLE, Int.reduceLT, Int.reduceNeg, Int.reduceToNat])
        refine VcCall.io [2] kS (by decide) (by simp [renL, ren, ioN]) rfl (by simp [subOk, ioN, lk, Item.ren, Item.below, ren, renL, belowL, Fv.below, renR, belowR]) cov1 1 (by decide) rfl (by simp [rowsB, Item.below, Fv.below, belowL, belowR]) ?_
        (repeat' first | with_reducible (first | refine Asm.intro fun _ => ?_ | refine Chk.g ?_ | refine AnyI.i64 fun _ _ => ?_ | refine LetW.g ?_ | refine LetW.h ?_ | refine Ite.t fun _ => ?_ | refine Ite.f fun _ => ?_ | refine Ite.decide (fun _ => ?_) fun _ => ?_ | refine Ite.bool (fun _ => ?_) fun _ => ?_ | refine And.intro ?_ ?_) | omega | simp (maxSteps := 1000000) only [go_sem, reduceCtorEq, Nat.reduceLT, Nat.reduceLeDiff, reduceIte, ↓reduceIte, Nat.reduceEqDiff, Nat.reduceAdd, Nat.reduceMul, Nat.reduceSub, Int.reduceLE, Int.reduceLT, Int.reduceNeg, Int.reduceToNat, S.ioS, ioRows, ioN, delL, Item.ren, ren, renL, renR, List.map_nil, List.length_cons, List.length_nil, List.getElem?_cons_zero, List.getElem?_nil, List.cons_append, List.nil_append, Nat.reduceAdd, Nat.sub_self, Nat.add_zero, List.filter])
        refine ⟨(i + 1, F.seen, D ++ [F.l]), Ent.auto0 rfl ?_ ?_, ⟨by omega, hS2, by dsimp only; rw [hm', List.append_assoc]; exact hD⟩, by dsimp only; omega⟩ <;> simp only [go_sem, reduceCtorEq, reduceIte, Nat.reduceEqDiff, Nat.reduceLT, Nat.reduceLeDiff, Int.natCast_succ, List.map_append, gAv]
  · have e : i = l.length := by omega
    subst e
    rw [Nat.sub_self] at hD
    simp only [regs, List.append_nil] at hD
    subst hD
    (repeat' first | with_reducible (first | refine Asm.intro fun _ => ?_ | refine Chk.g ?_ | refine AnyI.i64 fun _ _ => ?_ | refine LetW.g ?_ | refine LetW.h ?_ | refine Ite.t fun _ => ?_ | refine Ite.f fun _ => ?_ | refine Ite.decide (fun _ => ?_) fun _ => ?_ | refine Ite.bool (fun _ => ?_) fun _ => ?_ | refine And.intro ?_ ?_) | omega | simp (maxSteps := 1000000) only [go_sem, reduceCtorEq, Nat.reduceLT, Nat.reduceLeDiff, reduceIte, ↓reduceIte, Nat.reduceEqDiff, Nat.reduceAdd, Nat.reduceMul, Nat.reduceSub, Int.reduceLE, Int.reduceLT, Int.reduceNeg, Int.reduceToNat])
    refine Ret.auto 1 ?_ rfl ?_ <;> simp only [go_sem, reduceCtorEq, reduceIte, Nat.reduceEqDiff, Nat.reduceLT, Nat.reduceLeDiff, Int.natCast_succ, Post]
end Go.Fv.M

namespace Go.Fv.M
open Go Go.Proofs
set_option linter.unusedSimpArgs false
set_option linter.unusedVariables false
set_option maxRecDepth 8000
theorem drop_bools {tab : List Bool} {n : Nat} (h : n < tab.length) : (tab.map AV.bool).drop n = .bool (tab.getD n false) :: (tab.map AV.bool).drop (n + 1) := by
  rw [List.drop_eq_getElem_cons (by simpa using h)]
  simp [List.getD, h]

set_option maxHeartbeats 1000000 in
theorem contains_ok (tab : List Bool) (b : Int) (hl : tab.length = 256) (h0 : 0 ≤ b) (h1 : b < 256) : FnOk Tryd.prog 122 [.cell (tab.map .bool), .int .u8 b] (.bool (tab.getD b.toNat false)) [] := by
  refine FnOk.of_vc Tryd.func122 rfl (by decide) (by simp [Tryd.f122]) [.tmp 4] rfl fun w0 T0 _ => ?_
  simp only [Tryd.f122, argEnv]
  have hd := drop_bools (tab := tab) (n := b.toNat) (by omega)
  simp (maxSteps := 1000000) only [go_sem, reduceCtorEq, Nat.reduceLT, Nat.reduceLeDiff, reduceIte, ↓reduceIte, Nat.reduceEqDiff, Nat.reduceAdd, Nat.reduceMul, Nat.reduceSub, Int.reduceLE, Int.reduceLT, Int.reduceNeg, Int.reduceToNat, Nat.mul_one, hd]
  (repeat' first | (with_reducible refine Asm.intro fun _ => ?_) | ((with_reducible refine Chk.intro ?_ ?_); (· first | omega | (with_reducible refine Chk.intro ?_ ?_ <;> omega) | (simp; done) | (simp; omega))) | ((with_reducible refine LetW.i64 ?_ ?_ ?_); (· omega); (· omega)) | ((with_reducible refine Ite.decide (fun _ => ?_) (fun _ => ?_)) <;> first | (exfalso; omega) | simp (maxSteps := 1000000) only [go_sem, reduceCtorEq, Nat.reduceLT, Nat.reduceLeDiff, reduceIte, ↓reduceIte, Nat.reduceEqDiff, Nat.reduceAdd, Nat.reduceMul, Nat.reduceSub, Int.reduceLE, Int.reduceLT, Int.reduceNeg, Int.reduceToNat]) | ((with_reducible refine Ite.bool (fun _ => ?_) (fun _ => ?_)) <;> simp (maxSteps := 1000000) only [go_sem, reduceCtorEq, Nat.reduceLT, Nat.reduceLeDiff, reduceIte, ↓reduceIte, Nat.reduceEqDiff, Nat.reduceAdd, Nat.reduceMul, Nat.reduceSub, Int.reduceLE, Int.reduceLT, Int.reduceNeg, Int.reduceToNat]) | (with_reducible refine And.intro ?_ ?_))
  refine Ret.auto 0 ?_ rfl ?_ <;> simp only [go_sem, reduceCtorEq, reduceIte, Nat.reduceEqDiff, Nat.reduceLT, Nat.reduceLeDiff, Int.natCast_succ, Post]

set_option maxHeartbeats 1000000 in
theorem trimRight_a (tab : List Bool) (hl : tab.length = 256) (ha : tab.getD 97 false = true) : FnOk Tryd.prog 108 [.str [97], .cell (tab.map .bool)] (.str []) [] := by
  refine FnOk.of_vc Tryd.func108 rfl (by decide) (by simp [Tryd.f108]) [.tmp 4] rfl fun w0 T0 _ => ?_
  simp only [Tryd.f108, argEnv]
  simp (maxSteps := 1000000) only [go_sem, reduceCtorEq, Nat.reduceLT, Nat.reduceLeDiff, reduceIte, ↓reduceIte, Nat.reduceEqDiff, Nat.reduceAdd, Nat.reduceMul, Nat.reduceSub, Int.reduceLE, Int.reduceLT, Int.reduceNeg, Int.reduceToNat]
  refine VcLoop.intro (fun k : Bool => ⟨22, [(0, .str (cond k [97] [])), (1, .cell (tab.map .bool))], [], 0⟩) (fun _ => True) (fun k => cond k 1 0) true ?_ trivial fun k _ => ?_
  · refine Ent.auto0 rfl ?_ ?_ <;> simp only [go_sem, reduceCtorEq, reduceIte, Nat.reduceEqDiff, Nat.reduceLT, Nat.reduceLeDiff, Int.natCast_succ, cond_true]
  cases k with
  | true =>
    simp (maxSteps := 1000000) only [go_sem, reduceCtorEq, Nat.reduceLT, Nat.reduceLeDiff, reduceIte, ↓reduceIte, Nat.reduceEqDiff, Nat.reduceAdd, Nat.reduceMul, Nat.reduceSub, Int.reduceLE, Int.reduceLT, Int.reduceNeg, Int.reduceToNat]
    (repeat' first | (with_reducible refine Asm.intro fun _ => ?_) | ((with_reducible refine Chk.intro ?_ ?_); (· first | omega | (with_reducible refine Chk.intro ?_ ?_ <;> omega) | (simp; done) | (simp; omega))) | ((with_reducible refine LetW.i64 ?_ ?_ ?_); (· omega); (· omega)) | ((with_reducible refine Ite.decide (fun _ => ?_) (fun _ => ?_)) <;> first | (exfalso; omega) | simp (maxSteps := 1000000) only [go_sem, reduceCtorEq, Nat.reduceLT, Nat.reduceLeDiff, reduceIte, ↓reduceIte, Nat.reduceEqDiff, Nat.reduceAdd, Nat.reduceMul, Nat.reduceSub, Int.reduceLE, Int.reduceLT, Int.reduceNeg, Int.reduceToNat]) | ((with_reducible refine Ite.bool (fun _ => ?_) (fun _ => ?_)) <;> simp (maxSteps := 1000000) only [go_sem, reduceCtorEq, Nat.reduceLT, Nat.reduceLeDiff, reduceIte, ↓reduceIte, Nat.reduceEqDiff, Nat.reduceAdd, Nat.reduceMul, Nat.reduceSub, Int.reduceLE, Int.reduceLT, Int.reduceNeg, Int.reduceToNat]) | (with_reducible refine And.intro ?_ ?_))
    have e : ((([97] : List UInt8).getD (((1 : Nat) : Int) - 1).toNat 0).toNat : Int) = 97 := rfl
    rw [e]
    refine VcCall.fr (args' := [.cell (tab.map .bool), .int .u8 97]) (FnFr.of_ok (contains_ok tab 97 hl (by omega) (by omega)) rfl rfl) (by simp [argOkL, allOk, argOkN]) 0 rfl (by simp [rowsB]) ?_
    simp (maxSteps := 1000000) only [go_sem, reduceCtorEq, Nat.reduceLT, Nat.reduceLeDiff, reduceIte, ↓reduceIte, Nat.reduceEqDiff, Nat.reduceAdd, Nat.reduceMul, Nat.reduceSub, Int.reduceLE, Int.reduceLT, Int.reduceNeg, Int.reduceToNat, ha]
    (repeat' first | (with_reducible refine Asm.intro fun _ => ?_) | ((with_reducible refine Chk.intro ?_ ?_); (· first | omega | (with_reducible refine Chk.intro ?_ ?_ <;> omega) | (simp; done) | (simp; omega))) | ((with_reducible refine LetW.i64 ?_ ?_ ?_); (· omega); (· omega)) | ((with_reducible refine Ite.decide (fun _ => ?_) (fun _ => ?_)) <;> first | (exfalso; omega) | simp (maxSteps := 1000000) only [go_sem, reduceCtorEq, Nat.reduceLT, Nat.reduceLeDiff, reduceIte, ↓reduceIte, Nat.reduceEqDiff, Nat.reduceAdd, Nat.reduceMul, Nat.reduceSub, Int.reduceLE, Int.reduceLT, Int.reduceNeg, Int.reduceToNat]) | ((with_reducible refine Ite.bool (fun _ => ?_) (fun _ => ?_)) <;> simp (maxSteps := 1000000) only [go_sem, reduceCtorEq, Nat.reduceLT, Nat.reduceLeDiff, reduceIte, ↓reduceIte, Nat.reduceEqDiff, Nat.reduceAdd, Nat.reduceMul, Nat.reduceSub, Int.reduceLE, Int.reduceLT, Int.reduceNeg, Int.reduceToNat]) | (with_reducible refine And.intro ?_ ?_))
    refine ⟨false, Ent.auto0 rfl ?_ ?_, Nat.zero_lt_one⟩ <;> simp only [go_sem, reduceCtorEq, reduceIte, Nat.reduceEqDiff, Nat.reduceLT, Nat.reduceLeDiff, Int.natCast_succ, cond_false]
    simp
  | false =>
    simp (maxSteps := 1000000) only [go_sem, reduceCtorEq, Nat.reduceLT, Nat.reduceLeDiff, reduceIte, ↓reduceIte, Nat.reduceEqDiff, Nat.reduceAdd, Nat.reduceMul, Nat.reduceSub, Int.reduceLE, Int.reduceLT, Int.reduceNeg, Int.reduceToNat]
    (repeat' first | (with_reducible refine Asm.intro fun _ => ?_) | ((with_reducible refine Chk.intro ?_ ?_); (· first | omega | (with_reducible refine Chk.intro ?_ ?_ <;> omega) | (simp; done) | (simp; omega))) | ((with_reducible refine LetW.i64 ?_ ?_ ?_); (· omega); (· omega)) | ((with_reducible refine Ite.decide (fun _ => ?_) (fun _ => ?_)) <;> first | (exfalso; omega) | simp (maxSteps := 1000000) only [go_sem, reduceCtorEq, Nat.reduceLT, Nat.reduceLeDiff, reduceIte, ↓reduceIte, Nat.reduceEqDiff, Nat.reduceAdd, Nat.reduceMul, Nat.reduceSub, Int.reduceLE, Int.reduceLT, Int.reduceNeg, Int.reduceToNat]) | ((with_reducible refine Ite.bool (fun _ => ?_) (fun _ => ?_)) <;> simp (maxSteps := 1000000) only [go_sem, reduceCtorEq, Nat.reduceLT, Nat.reduceLeDiff, reduceIte, ↓reduceIte, Nat.reduceEqDiff, Nat.reduceAdd, Nat.reduceMul, Nat.reduceSub, Int.reduceLE, Int.reduceLT, Int.reduceNeg, Int.reduceToNat]) | (with_reducible refine And.intro ?_ ?_))
    refine Ret.auto 0 ?_ rfl ?_ <;> simp only [go_sem, reduceCtorEq, reduceIte, Nat.reduceEqDiff, Nat.reduceLT, Nat.reduceLeDiff, Int.natCast_succ, Post]

set_option maxHeartbeats 1000000 in
theorem trimLeft_nil (tab : List Bool) : FnOk Tryd.prog 107 [.str [], .cell (tab.map .bool)] (.str []) [] := by
  refine FnOk.of_vc Tryd.func107 rfl (by decide) (by simp [Tryd.f107]) [.tmp 4] rfl fun w0 T0 _ => ?_
  simp only [Tryd.f107, argEnv]
  simp (maxSteps := 1000000) only [go_sem, reduceCtorEq, Nat.reduceLT, Nat.reduceLeDiff, reduceIte, ↓reduceIte, Nat.reduceEqDiff, Nat.reduceAdd, Nat.reduceMul, Nat.reduceSub, Int.reduceLE, Int.reduceLT, Int.reduceNeg, Int.reduceToNat]
  refine VcLoop.intro (fun k : Unit => ⟨16, [(0, .str [])], [], 0⟩) (fun _ => True) (fun k => 0) () ?_ trivial fun k _ => ?_
  · refine Ent.auto0 rfl ?_ ?_ <;> simp only [go_sem, reduceCtorEq, reduceIte, Nat.reduceEqDiff, Nat.reduceLT, Nat.reduceLeDiff, Int.natCast_succ]
  simp (maxSteps := 1000000) only [go_sem, reduceCtorEq, Nat.reduceLT, Nat.reduceLeDiff, reduceIte, ↓reduceIte, Nat.reduceEqDiff, Nat.reduceAdd, Nat.reduceMul, Nat.reduceSub, Int.reduceLE, Int.reduceLT, Int.reduceNeg, Int.reduceToNat]
  (repeat' first | (with_reducible refine Asm.intro fun _ => ?_) | ((with_reducible refine Chk.intro ?_ ?_); (· first | omega | (with_reducible refine Chk.intro ?_ ?_ <;> omega) | (simp; done) | (simp; omega))) | ((with_reducible refine LetW.i64 ?_ ?_ ?_); (· omega); (· omega)) | ((with_reducible refine Ite.decide (fun _ => ?_) (fun _ => ?_)) <;> first | (exfalso; omega) | simp (maxSteps := 1000000) only [go_sem, reduceCtorEq, Nat.reduceLT, Nat.reduceLeDiff, reduceIte, ↓reduceIte, Nat.reduceEqDiff, Nat.reduceAdd, Nat.reduceMul, Nat.reduceSub, Int.reduceLE, Int.reduceLT, Int.reduceNeg, Int.reduceToNat]) | ((with_reducible refine Ite.bool (fun _ => ?_) (fun _ => ?_)) <;> simp (maxSteps := 1000000) only [go_sem, reduceCtorEq, Nat.reduceLT, Nat.reduceLeDiff, reduceIte, ↓reduceIte, Nat.reduceEqDiff, Nat.reduceAdd, Nat.reduceMul, Nat.reduceSub, Int.reduceLE, Int.reduceLT, Int.reduceNeg, Int.reduceToNat]) | (with_reducible refine And.intro ?_ ?_))
  refine Ret.auto 0 ?_ rfl ?_ <;> simp only [go_sem, reduceCtorEq, reduceIte, Nat.reduceEqDiff, Nat.reduceLT, Nat.reduceLeDiff, Int.natCast_succ, Post]

theorem z123 : zeroOf Tryd.prog 123 = some (.agg (Array.replicate 256 (.bool false))) := by kernel_rfl
theorem c123 : Tryd.prog.cellsOf 123 = 256 := by kernel_rfl

attribute [go_sem] z123 c123
def asciiAt (s : List UInt8) : Nat → List Bool
  | 0 => List.replicate 256 false
  | i + 1 => (asciiAt s i).set (s.getD i 0).toNat true
theorem asciiAt_len (s : List UInt8) : ∀ i, (asciiAt s i).length = 256
  | 0 => by simp [asciiAt]
  | i + 1 => by simp [asciiAt, asciiAt_len s i]

set_option maxHeartbeats 1000000 in
theorem makeAscii_ok (s : List UInt8) (hs : ∀ i, i < s.length → (s.getD i 0).toNat < 128) : FnOk Tryd.prog 106 [.str s] (.tup [.agg ((asciiAt s s.length).map .bool), .bool true]) [] := by
  refine FnOk.of_vc Tryd.func106 rfl (by decide) (by simp [Tryd.f106]) [.cell 2 123, .tmp 3] rfl fun w0 T0 _ => ?_
  simp only [Tryd.f106, argEnv]
  simp (maxSteps := 1000000) only [go_sem, reduceCtorEq, Nat.reduceLT, Nat.reduceLeDiff, reduceIte, ↓reduceIte, Nat.reduceEqDiff, Nat.reduceAdd, Nat.reduceMul, Nat.reduceSub, Int.reduceLE, Int.reduceLT, Int.reduceNeg, Int.reduceToNat]
  refine VcLoop.intro (fun i : Nat => ⟨21, [(0, .str s), (2, .ptr 0 0), (4, .int .i64 i)], [(0, .box 123 ((asciiAt s i).map .bool))], 1⟩) (fun i => i ≤ s.length) (fun i => s.length - i) 0 ?_ (Nat.zero_le _) fun i hi => ?_
  · refine Ent.auto0 rfl ?_ ?_ <;> simp only [go_sem, reduceCtorEq, reduceIte, Nat.reduceEqDiff, Nat.reduceLT, Nat.reduceLeDiff, Int.natCast_succ, asciiAt]
  have hlen := asciiAt_len s i
  simp (maxSteps := 1000000) only [go_sem, reduceCtorEq, Nat.reduceLT, Nat.reduceLeDiff, reduceIte, ↓reduceIte, Nat.reduceEqDiff, Nat.reduceAdd, Nat.reduceMul, Nat.reduceSub, Int.reduceLE, Int.reduceLT, Int.reduceNeg, Int.reduceToNat]
  (repeat' first | (with_reducible refine Asm.intro fun _ => ?_) | ((with_reducible refine Chk.intro ?_ ?_); (· first | omega | (with_reducible refine Chk.intro ?_ ?_ <;> omega) | (simp; done) | (simp; omega))) | ((with_reducible refine LetW.i64 ?_ ?_ ?_); (· omega); (· omega)) | ((with_reducible refine Ite.decide (fun _ => ?_) (fun _ => ?_)) <;> first | (exfalso; omega) | simp (maxSteps := 1000000) only [go_sem, reduceCtorEq, Nat.reduceLT, Nat.reduceLeDiff, reduceIte, ↓reduceIte, Nat.reduceEqDiff, Nat.reduceAdd, Nat.reduceMul, Nat.reduceSub, Int.reduceLE, Int.reduceLT, Int.reduceNeg, Int.reduceToNat]) | ((with_reducible refine Ite.bool (fun _ => ?_) (fun _ => ?_)) <;> simp (maxSteps := 1000000) only [go_sem, reduceCtorEq, Nat.reduceLT, Nat.reduceLeDiff, reduceIte, ↓reduceIte, Nat.reduceEqDiff, Nat.reduceAdd, Nat.reduceMul, Nat.reduceSub, Int.reduceLE, Int.reduceLT, Int.reduceNeg, Int.reduceToNat]) | (with_reducible refine And.intro ?_ ?_))
  · have := hs i (by omega)
    omega
  · refine ⟨i + 1, Ent.auto0 rfl ?_ ?_, by omega, by omega⟩
    · simp only [go_sem, reduceCtorEq, reduceIte, Nat.reduceEqDiff, Nat.reduceLT, Nat.reduceLeDiff, Int.natCast_succ]
    · simp only [go_sem, reduceCtorEq, reduceIte, Nat.reduceEqDiff, Nat.reduceLT, Nat.reduceLeDiff, Int.natCast_succ, asciiAt]
  · have e : i = s.length := by omega
    subst e
    have e2 : ((asciiAt s s.length).map AV.bool).take 256 = (asciiAt s s.length).map AV.bool := List.take_of_length_le (by simp [hlen])
    have e3 : spl ((asciiAt s s.length).map AV.bool) 0 ((asciiAt s s.length).map AV.bool) = (asciiAt s s.length).map AV.bool := spl_all rfl
    refine Ret.auto 0 ?_ ?_ ?_ <;> simp only [go_sem, reduceCtorEq, reduceIte, Nat.reduceEqDiff, Nat.reduceLT, Nat.reduceLeDiff, Int.natCast_succ, Post, e2, e3, List.drop_zero]
    simp (maxSteps := 1000000) only [go_sem, reduceCtorEq, Nat.reduceLT, Nat.reduceLeDiff, reduceIte, ↓reduceIte, Nat.reduceEqDiff, Nat.reduceAdd, Nat.reduceMul, Nat.reduceSub, Int.reduceLE, Int.reduceLT, Int.reduceNeg, Int.reduceToNat, e2, hlen, List.length_map]

def cutset : List UInt8 := [97, 98, 99, 100, 101, 102, 103, 104, 105, 106, 107, 108, 109, 110, 111, 112, 113, 114, 115, 116, 117, 118, 119, 120, 121, 122, 48, 49, 50, 51, 52, 53, 54, 55, 56, 57, 45]
theorem cut_small : ∀ i, i < cutset.length → (cutset.getD i 0).toNat < 128 := by decide
theorem cut_a : (asciiAt cutset cutset.length).getD 97 false = true := by decide

set_option maxHeartbeats 1000000 in
theorem trim_a : FnOk Tryd.prog 89 [.str [97], .str cutset] (.str []) [] := by
  refine FnOk.of_vc Tryd.func89 rfl (by decide) (by simp [Tryd.f89]) [.tmp 4] rfl fun w0 T0 _ => ?_
  simp only [Tryd.f89, argEnv]
  have hc : ¬ cutset = [] := by decide
  have hl : cutset.length = 37 := rfl
  simp (maxSteps := 1000000) only [go_sem, reduceCtorEq, Nat.reduceLT, Nat.reduceLeDiff, reduceIte, ↓reduceIte, Nat.reduceEqDiff, Nat.reduceAdd, Nat.reduceMul, Nat.reduceSub, Int.reduceLE, Int.reduceLT, Int.reduceNeg, Int.reduceToNat, hc, hl]
  (repeat' first | (with_reducible refine Asm.intro fun _ => ?_) | ((with_reducible refine Chk.intro ?_ ?_); (· first | omega | (with_reducible refine Chk.intro ?_ ?_ <;> omega) | (simp; done) | (simp; omega))) | ((with_reducible refine LetW.i64 ?_ ?_ ?_); (· omega); (· omega)) | ((with_reducible refine Ite.decide (fun _ => ?_) (fun _ => ?_)) <;> first | (exfalso; omega) | simp (maxSteps := 1000000) only [go_sem, reduceCtorEq, Nat.reduceLT, Nat.reduceLeDiff, reduceIte, ↓reduceIte, Nat.reduceEqDiff, Nat.reduceAdd, Nat.reduceMul, Nat.reduceSub, Int.reduceLE, Int.reduceLT, Int.reduceNeg, Int.reduceToNat]) | ((with_reducible refine Ite.bool (fun _ => ?_) (fun _ => ?_)) <;> simp (maxSteps := 1000000) only [go_sem, reduceCtorEq, Nat.reduceLT, Nat.reduceLeDiff, reduceIte, ↓reduceIte, Nat.reduceEqDiff, Nat.reduceAdd, Nat.reduceMul, Nat.reduceSub, Int.reduceLE, Int.reduceLT, Int.reduceNeg, Int.reduceToNat]) | (with_reducible refine And.intro ?_ ?_))
  have hlen := asciiAt_len cutset cutset.length
  refine VcCall.fr (args' := [.str cutset]) (FnFr.of_ok (makeAscii_ok cutset cut_small) (by simp [noRo, noRoL, noRoL_bools]) rfl) (by simp [argOkL, allOk, argOkN]) 0 (by simp [Fv.below, belowL, belowL_bools]) (by simp [rowsB]) ?_
  have ha := cut_a
  generalize asciiAt cutset cutset.length = tab at hlen ha ⊢
  simp (maxSteps := 1000000) only [go_sem, reduceCtorEq, Nat.reduceLT, Nat.reduceLeDiff, reduceIte, ↓reduceIte, Nat.reduceEqDiff, Nat.reduceAdd, Nat.reduceMul, Nat.reduceSub, Int.reduceLE, Int.reduceLT, Int.reduceNeg, Int.reduceToNat]
  have e1 : spl (List.replicate 256 (AV.bool false)) 0 (tab.map .bool) = tab.map .bool := spl_all (by simp [hlen])
  refine Chk.intro (by simp [hlen]) ?_
  rw [e1]
  refine Chk.intro (by omega) ?_
  refine VcCall.fr (args' := [.str [97], .cell (tab.map .bool)]) (FnFr.of_ok (trimRight_a tab hlen ha) rfl rfl) ?_ 0 rfl (by simp [rowsB]) ?_
  · exact ⟨_, _, rfl, ⟨_, _, ⟨_, _, _, rfl, allOk_bools _ 4 _, rfl⟩, rfl, rfl⟩, rfl⟩
  simp (maxSteps := 1000000) only [go_sem, reduceCtorEq, Nat.reduceLT, Nat.reduceLeDiff, reduceIte, ↓reduceIte, Nat.reduceEqDiff, Nat.reduceAdd, Nat.reduceMul, Nat.reduceSub, Int.reduceLE, Int.reduceLT, Int.reduceNeg, Int.reduceToNat]
  refine VcCall.fr (args' := [.str [], .cell (tab.map .bool)]) (FnFr.of_ok (trimLeft_nil tab) rfl rfl) ?_ 0 rfl (by simp [rowsB]) ?_
  · exact ⟨_, _, rfl, ⟨_, _, ⟨_, _, _, rfl, allOk_bools _ 4 _, rfl⟩, rfl, rfl⟩, rfl⟩
  simp (maxSteps := 1000000) only [go_sem, reduceCtorEq, Nat.reduceLT, Nat.reduceLeDiff, reduceIte, ↓reduceIte, Nat.reduceEqDiff, Nat.reduceAdd, Nat.reduceMul, Nat.reduceSub, Int.reduceLE, Int.reduceLT, Int.reduceNeg, Int.reduceToNat]
  refine Ret.auto 0 ?_ rfl ?_ <;> simp only [go_sem, reduceCtorEq, reduceIte, Nat.reduceEqDiff, Nat.reduceLT, Nat.reduceLeDiff, Int.natCast_succ, Post]

set_option maxHeartbeats 1000000 in
theorem isName_a : FnOk Tryd.prog 45 [.str [97]] (.bool true) [] := by
  refine FnOk.of_vc Tryd.func45 rfl (by decide) (by simp [Tryd.f45]) [.tmp 2] rfl fun w0 T0 _ => ?_
  simp only [Tryd.f45, argEnv]
  simp (maxSteps := 1000000) only [go_sem, reduceCtorEq, Nat.reduceLT, Nat.reduceLeDiff, reduceIte, ↓reduceIte, Nat.reduceEqDiff, Nat.reduceAdd, Nat.reduceMul, Nat.reduceSub, Int.reduceLE, Int.reduceLT, Int.reduceNeg, Int.reduceToNat]
  (repeat' first | (with_reducible refine Asm.intro fun _ => ?_) | ((with_reducible refine Chk.intro ?_ ?_); (· first | omega | (with_reducible refine Chk.intro ?_ ?_ <;> omega) | (simp; done) | (simp; omega))) | ((with_reducible refine LetW.i64 ?_ ?_ ?_); (· omega); (· omega)) | ((with_reducible refine Ite.decide (fun _ => ?_) (fun _ => ?_)) <;> first | (exfalso; omega) | simp (maxSteps := 1000000) only [go_sem, reduceCtorEq, Nat.reduceLT, Nat.reduceLeDiff, reduceIte, ↓reduceIte, Nat.reduceEqDiff, Nat.reduceAdd, Nat.reduceMul, Nat.reduceSub, Int.reduceLE, Int.reduceLT, Int.reduceNeg, Int.reduceToNat]) | ((with_reducible refine Ite.bool (fun _ => ?_) (fun _ => ?_)) <;> simp (maxSteps := 1000000) only [go_sem, reduceCtorEq, Nat.reduceLT, Nat.reduceLeDiff, reduceIte, ↓reduceIte, Nat.reduceEqDiff, Nat.reduceAdd, Nat.reduceMul, Nat.reduceSub, Int.reduceLE, Int.reduceLT, Int.reduceNeg, Int.reduceToNat]) | (with_reducible refine And.intro ?_ ?_))
  · refine VcCall.fr (args' := [.str [97], .str cutset]) (FnFr.of_ok trim_a rfl rfl) (by simp [argOkL, allOk, argOkN, cutset]) 0 rfl (by simp [rowsB]) ?_
    simp (maxSteps := 1000000) only [go_sem, reduceCtorEq, Nat.reduceLT, Nat.reduceLeDiff, reduceIte, ↓reduceIte, Nat.reduceEqDiff, Nat.reduceAdd, Nat.reduceMul, Nat.reduceSub, Int.reduceLE, Int.reduceLT, Int.reduceNeg, Int.reduceToNat]
    (repeat' first | (with_reducible refine Asm.intro fun _ => ?_) | ((with_reducible refine Chk.intro ?_ ?_); (· first | omega | (with_reducible refine Chk.intro ?_ ?_ <;> omega) | (simp; done) | (simp; omega))) | ((with_reducible refine LetW.i64 ?_ ?_ ?_); (· omega); (· omega)) | ((with_reducible refine Ite.decide (fun _ => ?_) (fun _ => ?_)) <;> first | (exfalso; omega) | simp (maxSteps := 1000000) only [go_sem, reduceCtorEq, Nat.reduceLT, Nat.reduceLeDiff, reduceIte, ↓reduceIte, Nat.reduceEqDiff, Nat.reduceAdd, Nat.reduceMul, Nat.reduceSub, Int.reduceLE, Int.reduceLT, Int.reduceNeg, Int.reduceToNat]) | ((with_reducible refine Ite.bool (fun _ => ?_) (fun _ => ?_)) <;> simp (maxSteps := 1000000) only [go_sem, reduceCtorEq, Nat.reduceLT, Nat.reduceLeDiff, reduceIte, ↓reduceIte, Nat.reduceEqDiff, Nat.reduceAdd, Nat.reduceMul, Nat.reduceSub, Int.reduceLE, Int.reduceLT, Int.reduceNeg, Int.reduceToNat]) | (with_reducible refine And.intro ?_ ?_))
    refine Ret.auto 0 ?_ rfl ?_ <;> simp only [go_sem, reduceCtorEq, reduceIte, Nat.reduceEqDiff, Nat.reduceLT, Nat.reduceLeDiff, Int.natCast_succ, Post]
  · rename_i h
    exact (h (by decide)).elim

theorem landed_ok : FnOk Tryd.prog 8 [] (.bool true) [] := by
  refine FnOk.of_vc Tryd.func8 rfl (by decide) (by simp [Tryd.f8]) [.tmp 0] rfl fun w0 T0 _ => ?_
  simp only [Tryd.f8, argEnv]
  simp (maxSteps := 1000000) only [go_sem, reduceCtorEq, Nat.reduceLT, Nat.reduceLeDiff, reduceIte, ↓reduceIte, Nat.reduceEqDiff, Nat.reduceAdd, Nat.reduceMul, Nat.reduceSub, Int.reduceLE, Int.reduceLT, Int.reduceNeg, Int.reduceToNat]
  refine VcCall.fr (args' := [.str [97]]) (FnFr.of_ok isName_a rfl rfl) (by simp [argOkL, allOk, argOkN]) 0 rfl (by simp [rowsB]) ?_
  simp (maxSteps := 1000000) only [go_sem, reduceCtorEq, Nat.reduceLT, Nat.reduceLeDiff, reduceIte, ↓reduceIte, Nat.reduceEqDiff, Nat.reduceAdd, Nat.reduceMul, Nat.reduceSub, Int.reduceLE, Int.reduceLT, Int.reduceNeg, Int.reduceToNat]
  refine Ret.auto 0 ?_ rfl ?_ <;> simp only [go_sem, reduceCtorEq, reduceIte, Nat.reduceEqDiff, Nat.reduceLT, Nat.reduceLeDiff, Int.natCast_succ, Post]

end Go.Fv.M
