/-
  A part of the proof of the claim: walks over the program's functions and the plain laws that these need. No condition of its own.
-/
import Derived.Test.YtingcghleidhmaaDoorPOrdersMatchCardPart2
import Derived.Test.YtingcghleidhmaaDoorPOrdersMatchCardPart3
import Derived.Shelf.Spec.SlicesGrow
import Derived.Test.YtingcghleidhmaaDoorFvPart9
import Derived.Test.YtingcghleidhmaaDoorPOrdersMatchCardPart1
/-! The order of reading: the reference. The walk. -/
namespace Go.Fv.P
open Go Go.Proofs
set_option linter.unusedSimpArgs false
set_option linter.unusedVariables false
set_option linter.unnecessarySimpa false
set_option maxRecDepth 8000

def OrdR (L : List Bx) (gx gy : Int) (l r : List Int) : Prop :=
  FnIO Tryd.prog 79 [.ro (bxs L), .own 0, .int .i64 gx, .int .i64 gy] [(0, .row 3 (.ints .i64 l))] 1 (.own 1) [(1, .row 3 (.ints .i64 r))]
theorem ordShort_ok (L : List Bx) (gx gy : Int) (l : List Int) (h : l.length < 2) : OrdR L gx gy l l := by
  unfold OrdR
  refine FnIO.of_vc Tryd.func79 rfl (by decide) (by simp [Tryd.f79]) covO1 [.tmp 8] rfl fun w0 T0 _ => ?_
  simp only [Tryd.f79, argEnv]
  (repeat' first | with_reducible (first | intro _ | refine rc ?_ | refine rl ?_ | refine rh ?_ | refine rt ?_ | refine rf ?_ | refine rs ?_ | refine And.intro ?_ ?_) | omega | simp (maxSteps := 1000000) only [go_sem, simprocAttr, ↓reduceIte])
  refine RetK.of [(1, 0)] 2 (by decide) (by decide) ?_ rfl ?_ <;> simp only [go_sem, reduceCtorEq, reduceIte, Nat.reduceEqDiff, Nat.reduceLT, Nat.reduceLeDiff, Int.natCast_succ, renR_ok, belowR_ok]
set_option maxHeartbeats 2000000 in
theorem ordC_ok (L : List Bx) (hL : ∀ b, b ∈ L → BxOk b) (hLn : L.length ≤ 6000) (i k : Int) (hi : InL L i) (hk : InL L k) : FnOk Tryd.prog 112 [.int .i64 i, .int .i64 k, .cell [.ro (bxs L)]] (.int .i64 (orL (List.zipWith (fun a b => a - b) (kI L i) (kI L k)))) [] := by
  have e1 := bAt_elem hi
  have e2 := bAt_elem hk
  have o1 := hL _ (bAt_mem hi)
  have o2 := hL _ (bAt_mem hk)
  have e3 : List.zipWith (fun a b => a - b) (kI L i) (kI L k) = [(bAt L i).y - (bAt L k).y, (bAt L i).x - (bAt L k).x, (bAt L i).h - (bAt L k).h, (bAt L i).w - (bAt L k).w, i - k] := rfl
  rw [e3]
  generalize bAt L i = a at *
  generalize bAt L k = b at *
  obtain ⟨ax, ay, aw, ah⟩ := a
  obtain ⟨bx, by', bw, bh⟩ := b
  unfold BxOk at o1 o2
  dsimp only at *
  have ko := cmpOr_ok [ay - by', ax - bx, ah - bh, aw - bw, i - k]
  generalize orL [ay - by', ax - bx, ah - bh, aw - bw, i - k] = o at *
  unfold InL at hi hk
  refine FnOk.of_vc Tryd.func112 rfl (by decide) (by simp [Tryd.f112]) [.tmp 5] rfl fun w0 T0 _ => ?_
  simp only [Tryd.f112, argEnv]
  (repeat' first | with_reducible (first | intro _ | refine rc ?_ | refine rl ?_ | refine rh ?_ | refine rt ?_ | refine rf ?_ | refine rs ?_ | refine And.intro ?_ ?_) | omega | simp (maxSteps := 1000000) only [go_sem, simprocAttr, ↓reduceIte])
  refine VcDraw.forkCut (.quiet 0 (.quiet 1 (.quiet 2 (.quiet 3 (.quiet 4 (.quiet 5 (.quiet 6 (.quiet 7 (.eff 8 [7, 6, 5, 4, 3, 2, 1, 0] (.eff 9 [7, 6, 5, 4, 3, 2, 1, 0] (.eff 10 [7, 6, 5, 4] (.eff 11 [] .done .none) .none) .none) (.eff 9 [7, 6, 5, 4, 3, 2, 1, 0] (.eff 8 [7, 6, 5, 4, 3, 2, 1, 0] (.eff 10 [7, 6, 5, 4] (.eff 11 [] .done .none) .none) .none) .none)))))))))) (by kernel_rfl) (by kernel_rfl) (by kernel_rfl) ⟨41, [(0, .int .i64 i), (1, .int .i64 k), (6, .ptr 0 0), (7, .ptr 1 0)], [(0, .box 26 [.int .i64 ax, .int .i64 ay, .int .i64 aw, .int .i64 ah]), (1, .box 26 [.int .i64 bx, .int .i64 by', .int .i64 bw, .int .i64 bh])], 2⟩ ?_ ?_
  · (repeat' first | with_reducible (first | intro _ | refine rc ?_ | refine rl ?_ | refine rh ?_ | refine rt ?_ | refine rf ?_ | refine rs ?_ | refine And.intro ?_ ?_) | omega | simp (maxSteps := 1000000) only [go_sem, simprocAttr, ↓reduceIte, List.length_map, elemA, e1, e2])
    all_goals refine Ent.auto0 rfl ?_ ?_ <;> simp only [go_sem, reduceCtorEq, reduceIte, Nat.reduceEqDiff, Nat.reduceLT, Nat.reduceLeDiff, Int.natCast_succ]
  (repeat' first | with_reducible (first | intro _ | refine rc ?_ | refine rl ?_ | refine rh ?_ | refine rt ?_ | refine rf ?_ | refine rs ?_ | refine And.intro ?_ ?_) | omega | simp (maxSteps := 1000000) only [go_sem, simprocAttr, ↓reduceIte])
  refine VcCall.k (ko) ?_
  (repeat' first | with_reducible (first | intro _ | refine rc ?_ | refine rl ?_ | refine rh ?_ | refine rt ?_ | refine rf ?_ | refine rs ?_ | refine And.intro ?_ ?_) | omega | simp (maxSteps := 1000000) only [go_sem, simprocAttr, ↓reduceIte])
  refine Ret.auto 0 ?_ rfl ?_ <;> simp only [go_sem, reduceCtorEq, reduceIte, Nat.reduceEqDiff, Nat.reduceLT, Nat.reduceLeDiff, Int.natCast_succ, Post]
theorem pr_succ (L : List Bx) (f : Bx → Int × Int) (l : List Int) {k : Nat} (h : k < l.length) : ((l.take (k + 1)).map fun i => f (bAt L i)).map prAv = ((l.take k).map fun i => f (bAt L i)).map prAv ++ [prAv (f (bAt L (l.getD k 0)))] := by
  rw [List.take_succ_eq_append_getElem h, getD_lt h, List.map_append, List.map_append]; rfl
set_option maxHeartbeats 16000000 in
theorem ordStep_ok (L : List Bx) (hL : ∀ b, b ∈ L → BxOk b) (hLn : L.length ≤ 6000) (gx gy : Int) (hgx : 1 ≤ gx ∧ gx ≤ 4000) (hgy : 1 ≤ gy ∧ gy ≤ 4000) (l : List Int) (hl : ∀ i, i ∈ l → InL L i) (h2 : ¬ l.length < 2) (hn : l.length ≤ 6000) (c r : Int × Int)
    (hc : gapOf gx (l.map fun i => fx (bAt L i)) = c) (hr : gapOf gy (l.map fun i => fy (bAt L i)) = r) (hc0 : c.2 ≠ 0 → 0 < c.2) (res : List Int)
    (hA : c.2 = 0 ∧ r.2 = 0 → res = sortKey (kI L) l) (hB : ¬ (c.2 = 0 ∧ r.2 = 0) → atG c r gx gy → ∃ s t, res = s ++ t ∧ s.length + t.length ≤ 6000 ∧ OrdR L gx gy (l.filter (befX L c.1)) s ∧ OrdR L gx gy (l.filter (behX L c.1)) t)
    (hC : ¬ (c.2 = 0 ∧ r.2 = 0) → ¬ atG c r gx gy → ∃ s t, res = s ++ t ∧ s.length + t.length ≤ 6000 ∧ OrdR L gx gy (l.filter (befY L r.1)) s ∧ OrdR L gx gy (l.filter (behY L r.1)) t) : OrdR L gx gy l res := by
  obtain ⟨pX, pY⟩ := prBd L hL
  have oX : ∀ p, p ∈ (l.map fun i => fx (bAt L i)) → PrOk p := fun p hp => by
    obtain ⟨i, hi, rfl⟩ := List.mem_map.1 hp
    have := pX _ (bAt_mem (hl i hi))
    unfold fx PrOk; dsimp only; omega
  have oY : ∀ p, p ∈ (l.map fun i => fy (bAt L i)) → PrOk p := fun p hp => by
    obtain ⟨i, hi, rfl⟩ := List.mem_map.1 hp
    have := pY _ (bAt_mem (hl i hi))
    unfold fy PrOk; dsimp only; omega
  have kX := free_ok (l.map fun i => fx (bAt L i)) oX (by rw [List.length_map]; omega) (by rw [List.length_map]; omega) gx hgx.1 hgx.2
  have kY := free_ok (l.map fun i => fy (bAt L i)) oY (by rw [List.length_map]; omega) (by rw [List.length_map]; omega) gy hgy.1 hgy.2
  rw [hc] at kX
  rw [hr] at kY
  have bc : -6000000 ≤ c.2 ∧ c.2 ≤ 6000000 := by rw [← hc]; exact gapOf_bd fun p hp => (oX p hp).1
  have br : -6000000 ≤ r.2 ∧ r.2 ≤ 6000000 := by rw [← hr]; exact gapOf_bd fun p hp => (oY p hp).1
  have hcf : ∀ i k, (InL L i ∧ InK .i64 i) → (InL L k ∧ InK .i64 k) → (orL (List.zipWith (fun a b => a - b) (kI L i) (kI L k)) < 0 ↔ kI L i < kI L k) := fun i k _ _ => orL_lt sub_i rfl
  have hgood : ∀ i, i ∈ l → InL L i ∧ InK .i64 i := fun i hi => ⟨hl i hi, by have := hl i hi; unfold InL at this; exact InK_i64.2 (by omega)⟩
  obtain ⟨q, hqp, hqs, kS⟩ := sortF1_io Tryd.lSoF ⟨_, Tryd.func73, by kernel_rfl, by kernel_rfl⟩ 3 (good := fun i => InL L i ∧ InK .i64 i) (cf := fun i k => orL (List.zipWith (fun a b => a - b) (kI L i) (kI L k)))
    (cmpOrd_key (key := kI L) hcf) 112 [.cell [.ro (bxs L)]] rfl (fun x y hx hy => FnFr.of_ok (ordC_ok L hL hLn x y hx.1 hy.1) rfl rfl) l hgood (fun x h => h.2) (by omega)
  have hq : q = sortKey (kI L) l := sortKey_unique (fun i k _ _ h => kI_inj h) hqp (sortedBy_key (good := fun i => InL L i ∧ InK .i64 i) hcf (fun x hx => hgood x (hqp.mem_iff.1 hx)) hqs)
  have hql := hqp.length_eq
  have hxk := fun k (hk : k < l.length) => pr_succ L fx l hk
  have hyk := fun k (hk : k < l.length) => pr_succ L fy l hk
  have hm : ∀ a g : Int, -6000000 ≤ a → a ≤ 6000000 → 1 ≤ g → g ≤ 4000 → -24000000000 ≤ a * g ∧ a * g ≤ 24000000000 := fun a g h1 h2 h3 h4 => by
    have k1 : a * g ≤ 6000000 * g := Int.mul_le_mul_of_nonneg_right h2 (by omega)
    have k2 : -6000000 * g ≤ a * g := Int.mul_le_mul_of_nonneg_right h1 (by omega)
    omega
  clear hc hr
  obtain ⟨c1, c2⟩ := c
  obtain ⟨r1, r2⟩ := r
  dsimp only at *
  have m1 := hm c2 gy bc.1 bc.2 hgy.1 hgy.2
  have m2 := hm r2 gx br.1 br.2 hgx.1 hgx.2
  unfold OrdR
  refine FnIO.of_vc Tryd.func79 rfl (by decide) (by simp [Tryd.f79]) covO1 [.tmp 8] rfl fun w0 T0 _ => ?_
  simp only [Tryd.f79, argEnv]
  (repeat' first | with_reducible (first | intro _ | refine rc ?_ | refine rl ?_ | refine rh ?_ | refine rt ?_ | refine rf ?_ | refine rs ?_ | refine And.intro ?_ ?_) | omega | simp (maxSteps := 1000000) only [go_sem, simprocAttr, ↓reduceIte])
  refine VcLoop.intro (fun k : Nat => ⟨163, [(29, .int .i64 k), (28, .int .i64 l.length), (27, .own 0), (9, .own 2), (10, .own 3), (4, .ptr 1 0), (1, .own 0), (2, .int .i64 gx), (3, .int .i64 gy)], [(0, .row 3 (.ints .i64 l)), (1, .box 29 [.ro (bxs L)]), (2, .row 156 (prR ((l.take k).map fun i => fx (bAt L i)))), (3, .row 156 (prR ((l.take k).map fun i => fy (bAt L i))))], 4⟩) (fun k => k ≤ l.length) (fun k => l.length - k) 0 ?_ (Nat.zero_le _) fun k hk => ?_
  · refine Ent.autoK 1 rfl (by show 1 ≤ 4; decide) ?_ ?_ <;> simp only [go_sem, reduceCtorEq, reduceIte, Nat.reduceEqDiff, Nat.reduceLT, Nat.reduceLeDiff, Int.natCast_succ, List.take_zero, List.map_nil, fromL]
  by_cases hlt : k < l.length
  · have hik : InL L (l.getD k 0) := hl _ (by rw [getD_lt hlt]; exact List.getElem_mem _)
    have eb := bAt_elem hik
    have b1 := pX _ (bAt_mem hik)
    have b2 := pY _ (bAt_mem hik)
    have s1 := hxk k hlt
    have s2 := hyk k hlt
    unfold InL at hik
    have hlk : (l.take k).length = k := by rw [List.length_take]; omega
    generalize bAt L (l.getD k 0) = b at *
    obtain ⟨bx, by', bw, bh⟩ := b
    change _ = _ ++ [[AV.int .i64 bx, AV.int .i64 (bx + bw)]] at s1
    change _ = _ ++ [[AV.int .i64 by', AV.int .i64 (by' + bh)]] at s2
    dsimp only at eb b1 b2
    (repeat' first | with_reducible (first | intro _ | refine rc ?_ | refine rl ?_ | refine rh ?_ | refine rt ?_ | refine rf ?_ | refine rs ?_ | refine And.intro ?_ ?_) | omega | simp (maxSteps := 1000000) only [go_sem, simprocAttr, ↓reduceIte, Int.toNat_natCast])
    refine VcDraw.forkCut (.quiet 0 (.quiet 1 (.quiet 2 (.quiet 3 (.quiet 4 (.quiet 5 (.quiet 6 (.quiet 7 (.quiet 8 (.quiet 9 (.quiet 10 (.quiet 11 (.quiet 12 (.quiet 13 (.quiet 14 (.quiet 15 (.quiet 16 (.quiet 17 (.quiet 20 (.quiet 21 (.quiet 22 (.quiet 23 (.quiet 24 (.quiet 25 (.quiet 26 (.quiet 27 (.quiet 28 (.quiet 29 (.quiet 30 (.quiet 31 (.quiet 32 (.quiet 33 (.quiet 34 (.quiet 35 (.quiet 36 (.quiet 37 (.eff 18 [37, 36, 35, 34, 33, 32, 31, 30, 29, 28, 27, 26, 25, 24, 23, 22, 21, 20, 0] (.eff 19 [37, 36, 35, 34, 33, 32, 31, 30, 29, 28, 27, 26, 25, 24, 23, 22, 21, 20] (.eff 38 [20] (.eff 39 [] (.quiet 40 (.quiet 41 .done)) .none) .none) (.eff 38 [20, 0] (.eff 19 [20] (.eff 39 [] (.quiet 40 (.quiet 41 .done)) .none) .none) .none)) (.eff 38 [20, 17, 16, 15, 14, 13, 12, 11, 10, 9, 8, 7, 6, 5, 4, 3, 2, 1, 0] (.eff 18 [20, 0] (.eff 19 [20] (.eff 39 [] (.quiet 40 (.quiet 41 .done)) .none) .none) .none) .none)))))))))))))))))))))))))))))))))))))) (by kernel_rfl) (by kernel_rfl) (by kernel_rfl) ⟨163, [(29, .int .i64 k), (28, .int .i64 l.length), (27, .own 0), (9, .own 2), (10, .own 3), (4, .ptr 1 0), (1, .own 0), (2, .int .i64 gx), (3, .int .i64 gy)], [(0, .row 3 (.ints .i64 l)), (1, .box 29 [.ro (bxs L)]), (2, .row 156 (.objs 2 (((l.take k).map fun i => fx (bAt L i)).map prAv ++ [[.int .i64 bx, .int .i64 (bx + bw)]]))), (3, .row 156 (.objs 2 (((l.take k).map fun i => fy (bAt L i)).map prAv ++ [[.int .i64 by', .int .i64 (by' + bh)]])))], 4⟩ ?_ ?_
    · (repeat' first | with_reducible (first | intro _ | refine rc ?_ | refine rl ?_ | refine rh ?_ | refine rt ?_ | refine rf ?_ | refine rs ?_ | refine And.intro ?_ ?_) | omega | simp (maxSteps := 1000000) only [go_sem, simprocAttr, ↓reduceIte, List.length_map, elemA, eb])
      all_goals refine Ent.autoK 1 rfl (by show 1 ≤ 4; decide) ?_ ?_ <;> simp only [go_sem, reduceCtorEq, reduceIte, Nat.reduceEqDiff, Nat.reduceLT, Nat.reduceLeDiff, Int.natCast_succ, fromL]
    (repeat' first | with_reducible (first | intro _ | refine rc ?_ | refine rl ?_ | refine rh ?_ | refine rt ?_ | refine rf ?_ | refine rs ?_ | refine And.intro ?_ ?_) | omega | simp (maxSteps := 1000000) only [go_sem, simprocAttr, ↓reduceIte])
    refine ⟨k + 1, Ent.autoK 1 rfl (by show 1 ≤ 4; decide) ?_ ?_, by omega, by omega⟩ <;> simp only [go_sem, reduceCtorEq, reduceIte, Nat.reduceEqDiff, Nat.reduceLT, Nat.reduceLeDiff, Int.natCast_succ, s1, s2, fromL]
  · have e : k = l.length := by omega
    subst e
    rw [List.take_length]
    (repeat' first | with_reducible (first | intro _ | refine rc ?_ | refine rl ?_ | refine rh ?_ | refine rt ?_ | refine rf ?_ | refine rs ?_ | refine And.intro ?_ ?_) | omega | simp (maxSteps := 1000000) only [go_sem, simprocAttr, ↓reduceIte])
    refine VcCall.k (kX) ?_
    (repeat' first | with_reducible (first | intro _ | refine rc ?_ | refine rl ?_ | refine rh ?_ | refine rt ?_ | refine rf ?_ | refine rs ?_ | refine And.intro ?_ ?_) | omega | simp (maxSteps := 1000000) only [go_sem, simprocAttr, ↓reduceIte])
    refine VcCall.k (kY) ?_
    by_cases hz : c2 = 0 ∧ r2 = 0
    · rw [hA hz, ← hq]
      (repeat' first | with_reducible (first | intro _ | refine rc ?_ | refine rl ?_ | refine rh ?_ | refine rt ?_ | refine rf ?_ | refine rs ?_ | refine And.intro ?_ ?_) | omega | simp (maxSteps := 1000000) only [go_sem, simprocAttr, ↓reduceIte])
      refine VcCall.fr (FnFr.of_ok (cloneI_ok l (by omega)) rfl rfl) (by simp only [noIdR_ok, argOkL, argOk, allOk, argOkN, List.drop_zero, lk, reduceIte, reduceCtorEq, Nat.reduceEqDiff, Option.some.injEq, Item.row.injEq, Item.box.injEq, AV.ro.injEq, exists_eq_left, exists_and_left, exists_eq_left', exists_eq_right, and_assoc, and_true, true_and, List.cons.injEq, exists_eq', exists_eq]) 1 rfl (by simp [rowsB, Item.below, belowR_ok]) ?_
      (repeat' first | with_reducible (first | intro _ | refine rc ?_ | refine rl ?_ | refine rh ?_ | refine rt ?_ | refine rf ?_ | refine rs ?_ | refine And.intro ?_ ?_) | omega | simp (maxSteps := 1000000) only [go_sem, simprocAttr, ↓reduceIte, renR_ok])
      refine VcCall.ioL [4] kS rfl rfl (by decide) ⟨_, _, .inl ⟨rfl, rfl⟩, ⟨_, _, .inr (by simp only [noIdR_ok, argOkL, argOk, allOk, argOkN, List.drop_zero, lk, reduceIte, reduceCtorEq, Nat.reduceEqDiff, Option.some.injEq, Item.row.injEq, Item.box.injEq, AV.ro.injEq, exists_eq_left, exists_and_left, exists_eq_left', exists_eq_right, and_assoc, and_true, true_and, List.cons.injEq, exists_eq', exists_eq, delL, del]), rfl, rfl⟩, rfl⟩ (by simp [subOk, ioN, lk, Item.ren, Item.below, renR_ok, belowR_ok]) covO1 1 (by decide) rfl (by simp [rowsB, Item.below, belowR_ok]) ?_
      (repeat' first | with_reducible (first | intro _ | refine rc ?_ | refine rl ?_ | refine rh ?_ | refine rt ?_ | refine rf ?_ | refine rs ?_ | refine And.intro ?_ ?_) | omega | simp (maxSteps := 1000000) only [go_sem, simprocAttr, ↓reduceIte, S.ioS, ioRows, ioN, delL, Item.ren, renR_ok, List.length_cons, List.length_nil, List.getElem?_cons_zero, List.cons_append, List.nil_append, Nat.sub_self, Nat.add_zero, List.filter])
      refine RetK.of [(1, 4)] 2 (by decide) (by decide) ?_ rfl ?_ <;> simp only [go_sem, reduceCtorEq, reduceIte, Nat.reduceEqDiff, Nat.reduceLT, Nat.reduceLeDiff, Int.natCast_succ, renR_ok, belowR_ok]
    · have n1 : -9223372036854775808 ≤ c2 * gy ∧ c2 * gy ≤ 9223372036854775807 := by omega
      have n2 : -9223372036854775808 ≤ r2 * gx ∧ r2 * gx ≤ 9223372036854775807 := by omega
      (repeat' first | with_reducible (first | intro _ | refine rc ?_ | refine rl ?_ | refine rh ?_ | refine rt ?_ | refine rf ?_ | refine rs ?_ | refine And.intro ?_ ?_) | omega | simp (maxSteps := 1000000) only [go_sem, simprocAttr, ↓reduceIte, eq_true n1.1, eq_true n1.2, eq_true n2.1, eq_true n2.2])
      by_cases hat : atG (c1, c2) (r1, r2) gx gy
      · obtain ⟨s, t, hst, hsl, k1, k2⟩ := hB hz hat
        have hdn : decide (¬ (r2 = 0 ∨ 0 < c2 ∧ r2 * gx < c2 * gy)) = false := decide_eq_false (by unfold atG at hat; dsimp only at hat; omega)
        rw [hst]
        unfold OrdR at k1 k2
        refine VcLoop.intro (fun k : Nat => ⟨163, [(116, .int .i64 k), (115, .int .i64 l.length), (114, .own 0), (20, .own 3), (19, .own 2), (18, .bool false), (4, .ptr 1 0), (1, .own 0), (2, .int .i64 gx), (3, .int .i64 gy), (13, .int .i64 c1), (15, .int .i64 r1)], [(0, .row 3 (.ints .i64 l)), (1, .box 29 [.ro (bxs L)]), (2, .row 3 (.ints .i64 ((l.take k).filter (befX L c1)))), (3, .row 3 (.ints .i64 ((l.take k).filter (behX L c1))))], 4⟩) (fun k => k ≤ l.length) (fun k => l.length - k) 0 ?_ (Nat.zero_le _) fun k hk => ?_
        · refine Ent.autoK 1 rfl (by show 1 ≤ 4; decide) ?_ ?_ <;> simp only [go_sem, reduceCtorEq, reduceIte, Nat.reduceEqDiff, Nat.reduceLT, Nat.reduceLeDiff, Int.natCast_succ, List.take_zero, List.filter_nil, fromL, hdn]
        by_cases hlt : k < l.length
        · have hik : InL L (l.getD k 0) := hl _ (by rw [getD_lt hlt]; exact List.getElem_mem _)
          have eb := bAt_elem hik
          have f1 := filter_app (befX L c1) l (z := 0) hlt
          have f2 := filter_app (behX L c1) l (z := 0) hlt
          have n1 := filter_len_take (befX L c1) l k
          have n2 := filter_len_take (behX L c1) l k
          rw [beh_eqX] at f2
          have hbe : befX L c1 (l.getD k 0) = decide ((bAt L (l.getD k 0)).x < c1) := rfl
          generalize (l.take k).filter (befX L c1) = A at *
          generalize (l.take k).filter (behX L c1) = B at *
          unfold InL at hik
          rw [hbe] at f1 f2
          generalize bAt L (l.getD k 0) = b at *
          by_cases hb : b.x < c1
          · rw [decide_eq_true hb] at f1 f2
            rw [if_pos rfl] at f1
            rw [if_neg (by decide), List.append_nil] at f2
            (repeat' first | with_reducible (first | intro _ | refine rc ?_ | refine rl ?_ | refine rh ?_ | refine rt ?_ | refine rf ?_ | refine rs ?_ | refine And.intro ?_ ?_) | omega | simp (maxSteps := 1000000) only [go_sem, simprocAttr, ↓reduceIte, List.length_map, elemA, eb, Int.toNat_natCast])
            refine ⟨k + 1, Ent.autoK 1 rfl (by show 1 ≤ 4; decide) ?_ ?_, by omega, by omega⟩ <;> simp only [go_sem, reduceCtorEq, reduceIte, Nat.reduceEqDiff, Nat.reduceLT, Nat.reduceLeDiff, Int.natCast_succ, f1, f2, fromL]
          · rw [decide_eq_false hb] at f1 f2
            rw [if_neg (by decide), List.append_nil] at f1
            rw [if_pos (show (!false) = true from rfl)] at f2
            (repeat' first | with_reducible (first | intro _ | refine rc ?_ | refine rl ?_ | refine rh ?_ | refine rt ?_ | refine rf ?_ | refine rs ?_ | refine And.intro ?_ ?_) | omega | simp (maxSteps := 1000000) only [go_sem, simprocAttr, ↓reduceIte, List.length_map, elemA, eb, Int.toNat_natCast])
            refine ⟨k + 1, Ent.autoK 1 rfl (by show 1 ≤ 4; decide) ?_ ?_, by omega, by omega⟩ <;> simp only [go_sem, reduceCtorEq, reduceIte, Nat.reduceEqDiff, Nat.reduceLT, Nat.reduceLeDiff, Int.natCast_succ, f1, f2, fromL]
        · have e : k = l.length := by omega
          subst e
          rw [List.take_length]
          (repeat' first | with_reducible (first | intro _ | refine rc ?_ | refine rl ?_ | refine rh ?_ | refine rt ?_ | refine rf ?_ | refine rs ?_ | refine And.intro ?_ ?_) | omega | simp (maxSteps := 1000000) only [go_sem, simprocAttr, ↓reduceIte])
          refine VcDraw.lex [4, 9, 10] [(5, [0]), (6, [0]), (7, [0]), (8, [0])] (by kernel_rfl) (by kernel_rfl) ?_
          (repeat' first | with_reducible (first | intro _ | refine rc ?_ | refine rl ?_ | refine rh ?_ | refine rt ?_ | refine rf ?_ | refine rs ?_ | refine And.intro ?_ ?_) | omega | simp (maxSteps := 1000000) only [go_sem, simprocAttr, ↓reduceIte])
          refine QE.intro (.own 4) [(4, .row 3 (.ints .i64 s)), (0, .row 3 (.ints .i64 l)), (1, .box 29 [.ro (bxs L)]), (3, .row 3 (.ints .i64 (l.filter (behX L c1))))] 5 ?_ ?_
          · (repeat' first | with_reducible (first | intro _ | refine rc ?_ | refine rl ?_ | refine rh ?_ | refine rt ?_ | refine rf ?_ | refine rs ?_ | refine And.intro ?_ ?_) | omega | simp (maxSteps := 1000000) only [go_sem, simprocAttr, ↓reduceIte])
            refine VcCall.io [2] k1 (by decide) (by simp [renL, ren, ioN]) rfl (by simp [subOk, ioN, lk, Item.ren, Item.below, renR_ok, belowR_ok]) covO1 2 (by decide) rfl (by simp [rowsB, Item.below, belowR_ok]) ?_
            (repeat' first | with_reducible (first | intro _ | refine rc ?_ | refine rl ?_ | refine rh ?_ | refine rt ?_ | refine rf ?_ | refine rs ?_ | refine And.intro ?_ ?_) | omega | simp (maxSteps := 1000000) only [go_sem, simprocAttr, ↓reduceIte, S.ioS, ioRows, ioN, delL, Item.ren, renR_ok, List.length_cons, List.length_nil, List.getElem?_cons_zero, List.getElem?_cons_succ, List.getElem?_nil, List.cons_append, List.nil_append, Nat.sub_self, Nat.add_zero, List.filter])
          (repeat' first | with_reducible (first | intro _ | refine rc ?_ | refine rl ?_ | refine rh ?_ | refine rt ?_ | refine rf ?_ | refine rs ?_ | refine And.intro ?_ ?_) | omega | simp (maxSteps := 1000000) only [go_sem, simprocAttr, ↓reduceIte])
          refine QE.intro (.own 5) [(5, .row 3 (.ints .i64 t)), (4, .row 3 (.ints .i64 s)), (0, .row 3 (.ints .i64 l)), (1, .box 29 [.ro (bxs L)])] 6 ?_ ?_
          · (repeat' first | with_reducible (first | intro _ | refine rc ?_ | refine rl ?_ | refine rh ?_ | refine rt ?_ | refine rf ?_ | refine rs ?_ | refine And.intro ?_ ?_) | omega | simp (maxSteps := 1000000) only [go_sem, simprocAttr, ↓reduceIte])
            refine VcCall.io [3] k2 (by decide) (by simp [renL, ren, ioN]) rfl (by simp [subOk, ioN, lk, Item.ren, Item.below, renR_ok, belowR_ok]) covO1 2 (by decide) rfl (by simp [rowsB, Item.below, belowR_ok]) ?_
            (repeat' first | with_reducible (first | intro _ | refine rc ?_ | refine rl ?_ | refine rh ?_ | refine rt ?_ | refine rf ?_ | refine rs ?_ | refine And.intro ?_ ?_) | omega | simp (maxSteps := 1000000) only [go_sem, simprocAttr, ↓reduceIte, S.ioS, ioRows, ioN, delL, Item.ren, renR_ok, List.length_cons, List.length_nil, List.getElem?_cons_zero, List.getElem?_cons_succ, List.getElem?_nil, List.cons_append, List.nil_append, Nat.sub_self, Nat.add_zero, List.filter])
          (repeat' first | with_reducible (first | intro _ | refine rc ?_ | refine rl ?_ | refine rh ?_ | refine rt ?_ | refine rf ?_ | refine rs ?_ | refine And.intro ?_ ?_) | omega | simp (maxSteps := 1000000) only [go_sem, simprocAttr, ↓reduceIte])
          refine RetK.of [(1, 6)] 2 (by decide) (by decide) ?_ rfl ?_ <;> simp only [go_sem, reduceCtorEq, reduceIte, Nat.reduceEqDiff, Nat.reduceLT, Nat.reduceLeDiff, Int.natCast_succ, renR_ok, belowR_ok]
      · obtain ⟨s, t, hst, hsl, k1, k2⟩ := hC hz hat
        have hdn : decide (¬ (r2 = 0 ∨ 0 < c2 ∧ r2 * gx < c2 * gy)) = true := decide_eq_true (by unfold atG at hat; dsimp only at hat; omega)
        rw [hst]
        unfold OrdR at k1 k2
        refine VcLoop.intro (fun k : Nat => ⟨163, [(116, .int .i64 k), (115, .int .i64 l.length), (114, .own 0), (20, .own 3), (19, .own 2), (18, .bool true), (4, .ptr 1 0), (1, .own 0), (2, .int .i64 gx), (3, .int .i64 gy), (13, .int .i64 c1), (15, .int .i64 r1)], [(0, .row 3 (.ints .i64 l)), (1, .box 29 [.ro (bxs L)]), (2, .row 3 (.ints .i64 ((l.take k).filter (befY L r1)))), (3, .row 3 (.ints .i64 ((l.take k).filter (behY L r1))))], 4⟩) (fun k => k ≤ l.length) (fun k => l.length - k) 0 ?_ (Nat.zero_le _) fun k hk => ?_
        · refine Ent.autoK 1 rfl (by show 1 ≤ 4; decide) ?_ ?_ <;> simp only [go_sem, reduceCtorEq, reduceIte, Nat.reduceEqDiff, Nat.reduceLT, Nat.reduceLeDiff, Int.natCast_succ, List.take_zero, List.filter_nil, fromL, hdn]
        by_cases hlt : k < l.length
        · have hik : InL L (l.getD k 0) := hl _ (by rw [getD_lt hlt]; exact List.getElem_mem _)
          have eb := bAt_elem hik
          have f1 := filter_app (befY L r1) l (z := 0) hlt
          have f2 := filter_app (behY L r1) l (z := 0) hlt
          have n1 := filter_len_take (befY L r1) l k
          have n2 := filter_len_take (behY L r1) l k
          rw [beh_eqY] at f2
          have hbe : befY L r1 (l.getD k 0) = decide ((bAt L (l.getD k 0)).y < r1) := rfl
          generalize (l.take k).filter (befY L r1) = A at *
          generalize (l.take k).filter (behY L r1) = B at *
          unfold InL at hik
          rw [hbe] at f1 f2
          generalize bAt L (l.getD k 0) = b at *
          by_cases hb : b.y < r1
          · rw [decide_eq_true hb] at f1 f2
            rw [if_pos rfl] at f1
            rw [if_neg (by decide), List.append_nil] at f2
            (repeat' first | with_reducible (first | intro _ | refine rc ?_ | refine rl ?_ | refine rh ?_ | refine rt ?_ | refine rf ?_ | refine rs ?_ | refine And.intro ?_ ?_) | omega | simp (maxSteps := 1000000) only [go_sem, simprocAttr, ↓reduceIte, List.length_map, elemA, eb, Int.toNat_natCast])
            refine ⟨k + 1, Ent.autoK 1 rfl (by show 1 ≤ 4; decide) ?_ ?_, by omega, by omega⟩ <;> simp only [go_sem, reduceCtorEq, reduceIte, Nat.reduceEqDiff, Nat.reduceLT, Nat.reduceLeDiff, Int.natCast_succ, f1, f2, fromL]
          · rw [decide_eq_false hb] at f1 f2
            rw [if_neg (by decide), List.append_nil] at f1
            rw [if_pos (show (!false) = true from rfl)] at f2
            (repeat' first | with_reducible (first | intro _ | refine rc ?_ | refine rl ?_ | refine rh ?_ | refine rt ?_ | refine rf ?_ | refine rs ?_ | refine And.intro ?_ ?_) | omega | simp (maxSteps := 1000000) only [go_sem, simprocAttr, ↓reduceIte, List.length_map, elemA, eb, Int.toNat_natCast])
            refine ⟨k + 1, Ent.autoK 1 rfl (by show 1 ≤ 4; decide) ?_ ?_, by omega, by omega⟩ <;> simp only [go_sem, reduceCtorEq, reduceIte, Nat.reduceEqDiff, Nat.reduceLT, Nat.reduceLeDiff, Int.natCast_succ, f1, f2, fromL]
        · have e : k = l.length := by omega
          subst e
          rw [List.take_length]
          (repeat' first | with_reducible (first | intro _ | refine rc ?_ | refine rl ?_ | refine rh ?_ | refine rt ?_ | refine rf ?_ | refine rs ?_ | refine And.intro ?_ ?_) | omega | simp (maxSteps := 1000000) only [go_sem, simprocAttr, ↓reduceIte])
          refine VcDraw.lex [4, 9, 10] [(5, [0]), (6, [0]), (7, [0]), (8, [0])] (by kernel_rfl) (by kernel_rfl) ?_
          (repeat' first | with_reducible (first | intro _ | refine rc ?_ | refine rl ?_ | refine rh ?_ | refine rt ?_ | refine rf ?_ | refine rs ?_ | refine And.intro ?_ ?_) | omega | simp (maxSteps := 1000000) only [go_sem, simprocAttr, ↓reduceIte])
          refine QE.intro (.own 4) [(4, .row 3 (.ints .i64 s)), (0, .row 3 (.ints .i64 l)), (1, .box 29 [.ro (bxs L)]), (3, .row 3 (.ints .i64 (l.filter (behY L r1))))] 5 ?_ ?_
          · (repeat' first | with_reducible (first | intro _ | refine rc ?_ | refine rl ?_ | refine rh ?_ | refine rt ?_ | refine rf ?_ | refine rs ?_ | refine And.intro ?_ ?_) | omega | simp (maxSteps := 1000000) only [go_sem, simprocAttr, ↓reduceIte])
            refine VcCall.io [2] k1 (by decide) (by simp [renL, ren, ioN]) rfl (by simp [subOk, ioN, lk, Item.ren, Item.below, renR_ok, belowR_ok]) covO1 2 (by decide) rfl (by simp [rowsB, Item.below, belowR_ok]) ?_
            (repeat' first | with_reducible (first | intro _ | refine rc ?_ | refine rl ?_ | refine rh ?_ | refine rt ?_ | refine rf ?_ | refine rs ?_ | refine And.intro ?_ ?_) | omega | simp (maxSteps := 1000000) only [go_sem, simprocAttr, ↓reduceIte, S.ioS, ioRows, ioN, delL, Item.ren, renR_ok, List.length_cons, List.length_nil, List.getElem?_cons_zero, List.getElem?_cons_succ, List.getElem?_nil, List.cons_append, List.nil_append, Nat.sub_self, Nat.add_zero, List.filter])
          (repeat' first | with_reducible (first | intro _ | refine rc ?_ | refine rl ?_ | refine rh ?_ | refine rt ?_ | refine rf ?_ | refine rs ?_ | refine And.intro ?_ ?_) | omega | simp (maxSteps := 1000000) only [go_sem, simprocAttr, ↓reduceIte])
          refine QE.intro (.own 5) [(5, .row 3 (.ints .i64 t)), (4, .row 3 (.ints .i64 s)), (0, .row 3 (.ints .i64 l)), (1, .box 29 [.ro (bxs L)])] 6 ?_ ?_
          · (repeat' first | with_reducible (first | intro _ | refine rc ?_ | refine rl ?_ | refine rh ?_ | refine rt ?_ | refine rf ?_ | refine rs ?_ | refine And.intro ?_ ?_) | omega | simp (maxSteps := 1000000) only [go_sem, simprocAttr, ↓reduceIte])
            refine VcCall.io [3] k2 (by decide) (by simp [renL, ren, ioN]) rfl (by simp [subOk, ioN, lk, Item.ren, Item.below, renR_ok, belowR_ok]) covO1 2 (by decide) rfl (by simp [rowsB, Item.below, belowR_ok]) ?_
            (repeat' first | with_reducible (first | intro _ | refine rc ?_ | refine rl ?_ | refine rh ?_ | refine rt ?_ | refine rf ?_ | refine rs ?_ | refine And.intro ?_ ?_) | omega | simp (maxSteps := 1000000) only [go_sem, simprocAttr, ↓reduceIte, S.ioS, ioRows, ioN, delL, Item.ren, renR_ok, List.length_cons, List.length_nil, List.getElem?_cons_zero, List.getElem?_cons_succ, List.getElem?_nil, List.cons_append, List.nil_append, Nat.sub_self, Nat.add_zero, List.filter])
          (repeat' first | with_reducible (first | intro _ | refine rc ?_ | refine rl ?_ | refine rh ?_ | refine rt ?_ | refine rf ?_ | refine rs ?_ | refine And.intro ?_ ?_) | omega | simp (maxSteps := 1000000) only [go_sem, simprocAttr, ↓reduceIte])
          refine RetK.of [(1, 6)] 2 (by decide) (by decide) ?_ rfl ?_ <;> simp only [go_sem, reduceCtorEq, reduceIte, Nat.reduceEqDiff, Nat.reduceLT, Nat.reduceLeDiff, Int.natCast_succ, renR_ok, belowR_ok]
end Go.Fv.P

/-! The order of reading: Order. The walk. -/
namespace Go.Fv.P
open Go Go.Proofs
set_option linter.unusedSimpArgs false
set_option linter.unusedVariables false
set_option linter.unnecessarySimpa false
set_option maxRecDepth 8000

def iotaI (n : Nat) : List Int := (List.range n).map fun i : Nat => (i : Int)
def fillI (n k : Nat) : List Int := (List.range n).map fun i : Nat => if i < k then (i : Int) else 0
theorem fillI_len (n k : Nat) : (fillI n k).length = n := by simp [fillI]
theorem fillI_zero (n : Nat) : fillI n 0 = List.replicate n 0 := by
  unfold fillI
  refine List.eq_replicate_iff.2 ⟨by simp, fun b hb => ?_⟩
  obtain ⟨i, _, rfl⟩ := List.mem_map.1 hb
  exact if_neg (by omega)
theorem fillI_all (n : Nat) : fillI n n = iotaI n := by
  unfold fillI iotaI
  exact List.map_congr_left fun i hi => if_pos (List.mem_range.1 hi)
theorem fillI_set {n k : Nat} (h : k < n) : (fillI n k).set k (k : Int) = fillI n (k + 1) := by
  unfold fillI
  apply List.ext_getElem
  · simp
  · intro i h1 h2
    rw [List.getElem_set, List.getElem_map, List.getElem_map, List.getElem_range]
    by_cases e : k = i
    · subst e; rw [if_pos rfl, if_pos (by omega)]
    · rw [if_neg e]
      by_cases hi : i < k
      · rw [if_pos hi, if_pos (by omega)]
      · rw [if_neg hi, if_neg (by omega)]
theorem iotaI_mem {L : List Bx} : ∀ i, i ∈ iotaI L.length → InL L i := fun i hi => by
  unfold iotaI at hi
  obtain ⟨j, hj, rfl⟩ := List.mem_map.1 hi
  have := List.mem_range.1 hj
  unfold InL; omega
theorem iotaI_len (n : Nat) : (iotaI n).length = n := by simp [iotaI]
/-- The order of reading of boxes: their numbers. -/
def ordOf (L : List Bx) (gx gy : Int) : List Int := ordI L gx gy L.length (iotaI L.length)
def ordErr (L : List Bx) (gx gy : Int) : Int := if 5000 < L.length then 4 else if firstBad L ≠ 0 then firstBad L else if [gx, gy].any gapBad = true then 3 else 0
set_option maxHeartbeats 2000000 in
theorem orderE_ok (L : List Bx) (gx gy : Int) (he : ordErr L gx gy ≠ 0) : FnOk Tryd.prog 23 [.ro (bxs L), .int .i64 gx, .int .i64 gy] (.tup [.own 0, .int .i64 (ordErr L gx gy)]) [(0, .row 3 (.ints .i64 []))] := by
  have k1 := checkList_ok L
  have k2 := badGap_ok [gx, gy] (by show 2 ≤ 1000; decide)
  by_cases h1 : (if 5000 < L.length then (4 : Int) else firstBad L) = 0
  · have h3 : ¬ 5000 < L.length := fun h => by rw [if_pos h] at h1; exact absurd h1 (by decide)
    rw [if_neg h3] at h1 k1
    have hg : [gx, gy].any gapBad = true := by
      cases hg : [gx, gy].any gapBad with
      | true => rfl
      | false => exact absurd (by unfold ordErr; rw [if_neg h3, if_neg (by omega), hg]; rfl) he
    have e : ordErr L gx gy = 3 := by unfold ordErr; rw [if_neg h3, if_neg (by omega), hg]; rfl
    rw [e]
    rw [h1] at k1
    rw [hg] at k2
    refine FnOk.of_vc Tryd.func23 rfl (by decide) (by simp [Tryd.f23]) [.tmp 6, .tmp 7] rfl fun w0 T0 _ => ?_
    simp only [Tryd.f23, argEnv]
    (repeat' first | with_reducible (first | intro _ | refine rc ?_ | refine rl ?_ | refine rh ?_ | refine rt ?_ | refine rf ?_ | refine rs ?_ | refine And.intro ?_ ?_) | omega | simp (maxSteps := 1000000) only [go_sem, simprocAttr, ↓reduceIte])
    refine VcCall.k (k1) ?_
    (repeat' first | with_reducible (first | intro _ | refine rc ?_ | refine rl ?_ | refine rh ?_ | refine rt ?_ | refine rf ?_ | refine rs ?_ | refine And.intro ?_ ?_) | omega | simp (maxSteps := 1000000) only [go_sem, simprocAttr, ↓reduceIte])
    refine VcCall.k (k2) ?_
    (repeat' first | with_reducible (first | intro _ | refine rc ?_ | refine rl ?_ | refine rh ?_ | refine rt ?_ | refine rf ?_ | refine rs ?_ | refine And.intro ?_ ?_) | omega | simp (maxSteps := 1000000) only [go_sem, simprocAttr, ↓reduceIte])
    refine Ret.auto 1 ?_ rfl ?_ <;> simp only [go_sem, reduceCtorEq, reduceIte, Nat.reduceEqDiff, Nat.reduceLT, Nat.reduceLeDiff, Int.natCast_succ, Post, zrow]
  · have e : ordErr L gx gy = if 5000 < L.length then (4 : Int) else firstBad L := by
      unfold ordErr
      by_cases h3 : 5000 < L.length
      · rw [if_pos h3, if_pos h3]
      · rw [if_neg h3, if_neg h3] at *
        rw [if_pos h1]
    rw [← e] at k1 h1
    generalize ordErr L gx gy = E at *
    refine FnOk.of_vc Tryd.func23 rfl (by decide) (by simp [Tryd.f23]) [.tmp 6, .tmp 7] rfl fun w0 T0 _ => ?_
    simp only [Tryd.f23, argEnv]
    (repeat' first | with_reducible (first | intro _ | refine rc ?_ | refine rl ?_ | refine rh ?_ | refine rt ?_ | refine rf ?_ | refine rs ?_ | refine And.intro ?_ ?_) | omega | simp (maxSteps := 1000000) only [go_sem, simprocAttr, ↓reduceIte])
    refine VcCall.k (k1) ?_
    (repeat' first | with_reducible (first | intro _ | refine rc ?_ | refine rl ?_ | refine rh ?_ | refine rt ?_ | refine rf ?_ | refine rs ?_ | refine And.intro ?_ ?_) | omega | simp (maxSteps := 1000000) only [go_sem, simprocAttr, ↓reduceIte])
    refine Ret.auto 1 ?_ rfl ?_ <;> simp only [go_sem, reduceCtorEq, reduceIte, Nat.reduceEqDiff, Nat.reduceLT, Nat.reduceLeDiff, Int.natCast_succ, Post, zrow]
set_option maxHeartbeats 4000000 in
theorem order_ok (L : List Bx) (hL : ∀ b, b ∈ L → BxOk b) (hf : firstBad L = 0) (hLn : L.length ≤ 3000) (gx gy : Int) (hgx : 1 ≤ gx ∧ gx ≤ 4000) (hgy : 1 ≤ gy ∧ gy ≤ 4000) :
    FnOk Tryd.prog 23 [.ro (bxs L), .int .i64 gx, .int .i64 gy] (.tup [.own 0, .int .i64 0]) [(0, .row 3 (.ints .i64 (ordOf L gx gy)))] := by
  have k1 := checkList_ok L
  rw [if_neg (show ¬ 5000 < L.length by omega), hf] at k1
  have k2 := badGap_ok [gx, gy] (by show 2 ≤ 1000; decide)
  rw [show [gx, gy].any gapBad = false by simp [gapBad]; omega] at k2
  have kR := (read_ok L hL (by omega) gx gy hgx hgy L.length (iotaI L.length) [] (by rw [iotaI_len]; exact Nat.le_refl _) iotaI_mem (by rw [iotaI_len]; simp; omega)).2
  unfold ordOf
  generalize ordI L gx gy L.length (iotaI L.length) = R at *
  unfold OrdIO at kR
  rw [List.nil_append] at kR
  refine FnOk.of_vc Tryd.func23 rfl (by decide) (by simp [Tryd.f23]) [.tmp 6, .tmp 7] rfl fun w0 T0 _ => ?_
  simp only [Tryd.f23, argEnv]
  (repeat' first | with_reducible (first | intro _ | refine rc ?_ | refine rl ?_ | refine rh ?_ | refine rt ?_ | refine rf ?_ | refine rs ?_ | refine And.intro ?_ ?_) | omega | simp (maxSteps := 1000000) only [go_sem, simprocAttr, ↓reduceIte])
  refine VcCall.k (k1) ?_
  (repeat' first | with_reducible (first | intro _ | refine rc ?_ | refine rl ?_ | refine rh ?_ | refine rt ?_ | refine rf ?_ | refine rs ?_ | refine And.intro ?_ ?_) | omega | simp (maxSteps := 1000000) only [go_sem, simprocAttr, ↓reduceIte])
  refine VcCall.k (k2) ?_
  (repeat' first | with_reducible (first | intro _ | refine rc ?_ | refine rl ?_ | refine rh ?_ | refine rt ?_ | refine rf ?_ | refine rs ?_ | refine And.intro ?_ ?_) | omega | simp (maxSteps := 1000000) only [go_sem, simprocAttr, ↓reduceIte, List.length_map])
  refine VcLoop.run (fun k : Nat => ⟨40, [(28, .int .i64 k), (27, .int .i64 L.length), (26, .own 6), (11, .own 6), (10, .ptr 4 0), (9, .ptr 0 0)], [(0, .box 54 [.own 5]), (1, .box 29 [.ro (bxs L)]), (2, .box 3 [.int .i64 gx]), (3, .box 3 [.int .i64 gy]), (4, .box 114 [.fn 66 [.ptr 0 0, .ptr 1 0, .ptr 2 0, .ptr 3 0, .ptr 4 0]]), (5, .row 3 (.ints .i64 [])), (6, .row 3 (.ints .i64 (fillI L.length k)))], 7⟩) (fun k => k ≤ L.length) (fun k => L.length - k) 0 ?_ (Nat.zero_le _) fun k hk => ?_
  · refine Ent.trans (Ent.nilBox (P := Tryd.prog) 5 0 3 e3 rfl rfl) (Ent.auto0 rfl ?_ ?_) <;> simp only [go_sem, reduceCtorEq, reduceIte, Nat.reduceEqDiff, Nat.reduceLT, Nat.reduceLeDiff, Int.natCast_succ, zrow, put, List.set_cons_zero, List.range_zero, List.map_nil, List.replicate_zero, fillI_zero]
  by_cases hlt : k < L.length
  · have hs := fillI_set hlt
    have hfl := fillI_len L.length k
    generalize fillI L.length k = A at *
    refine VcRun.of ?_
    (repeat' first | with_reducible (first | intro _ | refine rc ?_ | refine rl ?_ | refine rh ?_ | refine rt ?_ | refine rf ?_ | refine rs ?_ | refine And.intro ?_ ?_) | omega | simp (maxSteps := 1000000) only [go_sem, simprocAttr, ↓reduceIte, Int.toNat_natCast])
    refine ⟨k + 1, Ent.auto0 rfl ?_ ?_, by omega, by omega⟩ <;> simp only [go_sem, reduceCtorEq, reduceIte, Nat.reduceEqDiff, Nat.reduceLT, Nat.reduceLeDiff, Int.natCast_succ, hs]
  · have e : k = L.length := by omega
    subst e
    rw [fillI_all]
    refine VcRun.ent (Ent.trans (Ent.fz 6 (e := 3) (r := .ints .i64 (iotaI L.length)) rfl rfl (Nat.zero_le _)) (Ent.auto0 (s' := ⟨40, [(28, .int .i64 L.length), (27, .int .i64 L.length), (11, .ro (.ints .i64 (iotaI L.length))), (10, .ptr 4 0), (9, .ptr 0 0)], [(0, .box 54 [.own 5]), (1, .box 29 [.ro (bxs L)]), (2, .box 3 [.int .i64 gx]), (3, .box 3 [.int .i64 gy]), (4, .box 114 [.fn 66 [.ptr 0 0, .ptr 1 0, .ptr 2 0, .ptr 3 0, .ptr 4 0]]), (5, .row 3 (.ints .i64 []))], 6⟩) rfl ?_ ?_)) (VcRun.of ?_)
    · simp only [go_sem, reduceCtorEq, reduceIte, Nat.reduceEqDiff, Nat.reduceLT, Nat.reduceLeDiff, Int.natCast_succ]
    · simp only [go_sem, reduceCtorEq, reduceIte, Nat.reduceEqDiff, Nat.reduceLT, Nat.reduceLeDiff, Int.natCast_succ]
    (repeat' first | with_reducible (first | intro _ | refine rc ?_ | refine rl ?_ | refine rh ?_ | refine rt ?_ | refine rf ?_ | refine rs ?_ | refine And.intro ?_ ?_) | omega | simp (maxSteps := 1000000) only [go_sem, simprocAttr, ↓reduceIte])
    refine VcCall.io [0, 1, 2, 3, 4, 5] kR (by decide) (by simp [renL, ren, ioN]) rfl (by simp [subOk, ioN, lk, Item.ren, Item.below, ren, renL, belowL, Fv.below, renR_ok, belowR_ok]) covO6 7 (by decide) rfl (by simp [rowsB, Item.below, Fv.below, belowL, belowR_ok]) ?_
    (repeat' first | with_reducible (first | intro _ | refine rc ?_ | refine rl ?_ | refine rh ?_ | refine rt ?_ | refine rf ?_ | refine rs ?_ | refine And.intro ?_ ?_) | omega | simp (maxSteps := 1000000) only [go_sem, simprocAttr, ↓reduceIte, S.ioS, ioRows, ioN, delL, Item.ren, ren, renL, renR_ok, List.length_cons, List.length_nil, List.getElem?_cons_zero, List.getElem?_cons_succ, List.getElem?_nil, List.cons_append, List.nil_append, Nat.sub_self, Nat.add_zero, List.filter])
    refine Ret.auto 1 ?_ rfl ?_ <;> simp only [go_sem, reduceCtorEq, reduceIte, Nat.reduceEqDiff, Nat.reduceLT, Nat.reduceLeDiff, Int.natCast_succ, Post, renR_ok, belowR_ok]
end Go.Fv.P

/-! The order of reading: the reference. The walk. -/
namespace Go.Fv.P
open Go Go.Proofs
set_option linter.unusedSimpArgs false
set_option linter.unusedVariables false
set_option linter.unnecessarySimpa false
set_option maxRecDepth 8000

theorem ord_ok (L : List Bx) (hL : ∀ b, b ∈ L → BxOk b) (hLn : L.length ≤ 6000) (gx gy : Int) (hgx : 1 ≤ gx ∧ gx ≤ 4000) (hgy : 1 ≤ gy ∧ gy ≤ 4000) : ∀ (n : Nat) (l : List Int), l.length ≤ n → (∀ i, i ∈ l → InL L i) → l.length ≤ 6000 → (ordI L gx gy n l).length = l.length ∧ OrdR L gx gy l (ordI L gx gy n l)
  | 0, l, hn, hl, hb => by
    have h2 : l.length < 2 := by omega
    unfold ordI
    rw [ordGo_short _ _ _ _ _ _ h2]
    exact ⟨rfl, ordShort_ok L gx gy l h2⟩
  | n + 1, l, hn, hl, hb => by
    by_cases h2 : l.length < 2
    · unfold ordI
      rw [ordGo_short _ _ _ _ _ _ h2]
      exact ⟨rfl, ordShort_ok L gx gy l h2⟩
    have hbox : BoxesOk (l.map (bAt L)) := fun b hb' => by
      obtain ⟨i, hi, rfl⟩ := List.mem_map.1 hb'
      have := hL _ (bAt_mem (hl i hi))
      unfold BxOk at this; omega
    have p1 := fun hne => gapOf_parts hgx.1 (fx_lt hbox) hne
    have p2 := fun hne => gapOf_parts hgy.1 (fy_lt hbox) hne
    rw [List.map_map, show fx ∘ bAt L = fun i => fx (bAt L i) from rfl] at p1
    rw [List.map_map, show fy ∘ bAt L = fun i => fy (bAt L i) from rfl] at p2
    have sub : ∀ p : Int → Bool, ∀ i, i ∈ l.filter p → InL L i := fun p i hi => hl i (List.mem_filter.1 hi).1
    have flen : ∀ p : Int → Bool, (l.filter p).length + (l.filter fun i => !p i).length = l.length := fun p => by
      clear hn hb h2 hbox p1 p2 sub hl
      induction l with
      | nil => rfl
      | cons x l ih => cases hp : p x <;> simp [hp] <;> omega
    have hX : ∀ e, (∃ q, q ∈ l.map (fun i => fx (bAt L i)) ∧ q.1 < e) → (∃ q, q ∈ l.map (fun i => fx (bAt L i)) ∧ ¬ q.1 < e) → (l.filter (befX L e)).length ≤ n ∧ (l.filter (behX L e)).length ≤ n := fun e ⟨q1, m1, t1⟩ ⟨q2, m2, t2⟩ => by
      obtain ⟨i1, n1, rfl⟩ := List.mem_map.1 m1
      obtain ⟨i2, n2, rfl⟩ := List.mem_map.1 m2
      have l1 := filter_lt (p := befX L e) ⟨i2, n2, decide_eq_false t2⟩
      have l2 := filter_lt (p := behX L e) ⟨i1, n1, by unfold behX; rw [decide_eq_true (show (bAt L i1).x < e from t1)]; rfl⟩
      omega
    have hY : ∀ e, (∃ q, q ∈ l.map (fun i => fy (bAt L i)) ∧ q.1 < e) → (∃ q, q ∈ l.map (fun i => fy (bAt L i)) ∧ ¬ q.1 < e) → (l.filter (befY L e)).length ≤ n ∧ (l.filter (behY L e)).length ≤ n := fun e ⟨q1, m1, t1⟩ ⟨q2, m2, t2⟩ => by
      obtain ⟨i1, n1, rfl⟩ := List.mem_map.1 m1
      obtain ⟨i2, n2, rfl⟩ := List.mem_map.1 m2
      have l1 := filter_lt (p := befY L e) ⟨i2, n2, decide_eq_false t2⟩
      have l2 := filter_lt (p := behY L e) ⟨i1, n1, by unfold behY; rw [decide_eq_true (show (bAt L i1).y < e from t1)]; rfl⟩
      omega
    have eord : ordI L gx gy (n + 1) l = if l.length < 2 then l
      else if (gapOf gx (l.map fun i => fx (bAt L i))).2 = 0 ∧ (gapOf gy (l.map fun i => fy (bAt L i))).2 = 0 then sortKey (kI L) l
      else if atG (gapOf gx (l.map fun i => fx (bAt L i))) (gapOf gy (l.map fun i => fy (bAt L i))) gx gy then
        ordI L gx gy n (l.filter (befX L (gapOf gx (l.map fun i => fx (bAt L i))).1)) ++ ordI L gx gy n (l.filter (behX L (gapOf gx (l.map fun i => fx (bAt L i))).1))
      else
        ordI L gx gy n (l.filter (befY L (gapOf gy (l.map fun i => fy (bAt L i))).1)) ++ ordI L gx gy n (l.filter (behY L (gapOf gy (l.map fun i => fy (bAt L i))).1)) := rfl
    rw [eord, if_neg h2]
    have hstep := ordStep_ok L hL hLn gx gy hgx hgy l hl h2 hb _ _ rfl rfl (fun h => (p1 h).2.2)
    generalize gapOf gx (l.map fun i => fx (bAt L i)) = c at *
    generalize gapOf gy (l.map fun i => fy (bAt L i)) = r at *
    by_cases hz : c.2 = 0 ∧ r.2 = 0
    · rw [if_pos hz] at eord ⊢
      exact ⟨(sortKey_perm _ _).length_eq, hstep _ (fun _ => rfl) (fun h => absurd hz h) (fun h => absurd hz h)⟩
    rw [if_neg hz]
    by_cases hat : atG c r gx gy
    · rw [if_pos hat]
      obtain ⟨q1, q2, _⟩ := p1 (by unfold atG at hat; omega)
      obtain ⟨l1, l2⟩ := hX _ q1 q2
      have hf := flen (befX L c.1)
      rw [show (fun i => !befX L c.1 i) = behX L c.1 from rfl] at hf
      obtain ⟨a1, a2⟩ := ord_ok L hL hLn gx gy hgx hgy n (l.filter (befX L c.1)) l1 (sub _) (by omega)
      obtain ⟨b1, b2⟩ := ord_ok L hL hLn gx gy hgx hgy n (l.filter (behX L c.1)) l2 (sub _) (by omega)
      exact ⟨by rw [List.length_append, a1, b1]; exact hf, hstep _ (fun h => absurd h hz) (fun _ _ => ⟨_, _, rfl, by rw [a1, b1]; omega, a2, b2⟩) (fun _ h => absurd hat h)⟩
    · rw [if_neg hat]
      obtain ⟨q1, q2, _⟩ := p2 (by
        intro h0
        by_cases hc : c.2 = 0
        · exact hz ⟨hc, h0⟩
        · exact hat ⟨(p1 hc).2.2, .inl h0⟩)
      obtain ⟨l1, l2⟩ := hY _ q1 q2
      have hf := flen (befY L r.1)
      rw [show (fun i => !befY L r.1 i) = behY L r.1 from rfl] at hf
      obtain ⟨a1, a2⟩ := ord_ok L hL hLn gx gy hgx hgy n (l.filter (befY L r.1)) l1 (sub _) (by omega)
      obtain ⟨b1, b2⟩ := ord_ok L hL hLn gx gy hgx hgy n (l.filter (behY L r.1)) l2 (sub _) (by omega)
      exact ⟨by rw [List.length_append, a1, b1]; exact hf, hstep _ (fun h => absurd h hz) (fun _ h => absurd h hat) (fun _ _ => ⟨_, _, rfl, by rw [a1, b1]; omega, a2, b2⟩)⟩
theorem iota_succ (n k : Nat) (h : k < n) : (iotaI n).take (k + 1) = (iotaI n).take k ++ [(k : Int)] := by
  rw [List.take_succ_eq_append_getElem (by rw [iotaI_len]; exact h)]
  simp [iotaI]
set_option maxHeartbeats 2000000 in
theorem refOrder_ok (L : List Bx) (hL : ∀ b, b ∈ L → BxOk b) (hLn : L.length ≤ 3000) (gx gy : Int) (hgx : 1 ≤ gx ∧ gx ≤ 4000) (hgy : 1 ≤ gy ∧ gy ≤ 4000) :
    FnOk Tryd.prog 26 [.ro (bxs L), .int .i64 gx, .int .i64 gy] (.own 0) [(0, .row 3 (.ints .i64 (ordOf L gx gy)))] := by
  have kR := (ord_ok L hL (by omega) gx gy hgx hgy L.length (iotaI L.length) (by rw [iotaI_len]; exact Nat.le_refl _) iotaI_mem (by rw [iotaI_len]; omega)).2
  unfold ordOf
  generalize ordI L gx gy L.length (iotaI L.length) = R at *
  have hs := fun k (h : k < L.length) => iota_succ L.length k h
  have hil := iotaI_len L.length
  generalize iotaI L.length = A at *
  unfold OrdR at kR
  refine FnOk.of_vc Tryd.func26 rfl (by decide) (by simp [Tryd.f26]) [.tmp 6] rfl fun w0 T0 _ => ?_
  simp only [Tryd.f26, argEnv]
  (repeat' first | with_reducible (first | intro _ | refine rc ?_ | refine rl ?_ | refine rh ?_ | refine rt ?_ | refine rf ?_ | refine rs ?_ | refine And.intro ?_ ?_) | omega | simp (maxSteps := 1000000) only [go_sem, simprocAttr, ↓reduceIte, List.length_map])
  refine VcLoop.intro (fun k : Nat => ⟨24, [(11, .int .i64 k), (10, .int .i64 L.length), (7, .own 0), (0, .ro (bxs L)), (1, .int .i64 gx), (2, .int .i64 gy)], [(0, .row 3 (.ints .i64 (A.take k)))], 1⟩) (fun k => k ≤ L.length) (fun k => L.length - k) 0 ?_ (Nat.zero_le _) fun k hk => ?_
  · refine Ent.auto0 rfl ?_ ?_ <;> simp only [go_sem, reduceCtorEq, reduceIte, Nat.reduceEqDiff, Nat.reduceLT, Nat.reduceLeDiff, Int.natCast_succ, List.take_zero]
  by_cases hlt : k < L.length
  · have h1 := hs k hlt
    have hl1 : (A.take k).length = k := by rw [List.length_take]; omega
    generalize A.take k = D at *
    (repeat' first | with_reducible (first | intro _ | refine rc ?_ | refine rl ?_ | refine rh ?_ | refine rt ?_ | refine rf ?_ | refine rs ?_ | refine And.intro ?_ ?_) | omega | simp (maxSteps := 1000000) only [go_sem, simprocAttr, ↓reduceIte])
    refine ⟨k + 1, Ent.auto0 rfl ?_ ?_, by omega, by omega⟩ <;> simp only [go_sem, reduceCtorEq, reduceIte, Nat.reduceEqDiff, Nat.reduceLT, Nat.reduceLeDiff, Int.natCast_succ, h1]
  · have e : k = L.length := by omega
    subst e
    rw [← hil, List.take_length]
    (repeat' first | with_reducible (first | intro _ | refine rc ?_ | refine rl ?_ | refine rh ?_ | refine rt ?_ | refine rf ?_ | refine rs ?_ | refine And.intro ?_ ?_) | omega | simp (maxSteps := 1000000) only [go_sem, simprocAttr, ↓reduceIte])
    refine VcCall.io [0] kR (by decide) (by simp [renL, ren, ioN]) rfl (by simp [subOk, ioN, lk, Item.ren, Item.below, renR_ok, belowR_ok]) covO1 2 (by decide) rfl (by simp [rowsB, Item.below, belowR_ok]) ?_
    (repeat' first | with_reducible (first | intro _ | refine rc ?_ | refine rl ?_ | refine rh ?_ | refine rt ?_ | refine rf ?_ | refine rs ?_ | refine And.intro ?_ ?_) | omega | simp (maxSteps := 1000000) only [go_sem, simprocAttr, ↓reduceIte, S.ioS, ioRows, ioN, delL, Item.ren, renR_ok, List.length_cons, List.length_nil, List.getElem?_cons_zero, List.getElem?_cons_succ, List.getElem?_nil, List.cons_append, List.nil_append, Nat.sub_self, Nat.add_zero, List.filter])
    refine Ret.auto 1 ?_ rfl ?_ <;> simp only [go_sem, reduceCtorEq, reduceIte, Nat.reduceEqDiff, Nat.reduceLT, Nat.reduceLeDiff, Int.natCast_succ, Post, renR_ok, belowR_ok]
end Go.Fv.P

/- slices.Concat of two rows of boxes: the room by the shelf's contract of slices.Grow. -/
namespace Go.Proofs
open Go.Shelf
def Tryd.lGrow_ren : Go.Shelf.Ren := ⟨fun | 4 => 80 | n => n, fun | 22 => 29 | 25 => 26 | 3 => 3 | 4 => 4 | 9 => 9 | 20 => 20 | 0 => 0 | n => n, fun | n => n⟩
theorem Tryd.lGrow : Go.Proofs.Lays8.n4 Tryd.prog Tryd.lGrow_ren := {
  mixed := by kernel_rfl
  f4 := ⟨Tryd.f80.name, by decide, Tryd.func80.trans (congrArg some (by kernel_rfl))⟩
  t0 := Tryd.underlying0
  a0 := Tryd.isAgg0
  z0 := Tryd.sizeOf0
  v0 := Tryd.zeroValue0
  t3 := Tryd.underlying3
  a3 := Tryd.isAgg3
  z3 := Tryd.sizeOf3
  v3 := Tryd.zeroValue3
  t4 := Tryd.underlying4
  a4 := Tryd.isAgg4
  z4 := Tryd.sizeOf4
  v4 := Tryd.zeroValue4
  t9 := Tryd.underlying9
  a9 := Tryd.isAgg9
  z9 := Tryd.sizeOf9
  v9 := Tryd.zeroValue9
  t20 := Tryd.underlying20
  a20 := Tryd.isAgg20
  z20 := Tryd.sizeOf20
  v20 := Tryd.zeroValue20
  t22 := Tryd.underlying29
  a22 := Tryd.isAgg29
  z22 := Tryd.sizeOf29
  v22 := Tryd.zeroValue29 }
end Go.Proofs
namespace Go.Fv.P
open Go Go.Proofs Go.RowKit
set_option linter.unusedSimpArgs false
set_option linter.unusedVariables false
set_option linter.unnecessarySimpa false
set_option maxRecDepth 8000

theorem growNil_ok (n : Nat) (hn : n ≤ 100000) : FnOk Tryd.prog 80 [.nilS, .int .i64 n] (.own 0) [(0, .row 26 (.objs 4 []))] := by
  refine ⟨⟨_, Tryd.func80, by kernel_rfl, by kernel_rfl⟩, fun w T vals hg hv => ?_⟩
  cases hv with
  | cons _ _ _ _ h1 hv =>
  cases hv with
  | cons _ _ _ _ h2 hv =>
  cases hv
  cases h1
  cases h2
  have hone : ∀ (w' : World) (T' : Nat → Prop) (m : Nat → Value) (v : Value), ownsM w' 26 4 v 0 [] → m 0 = v → BelowD w.heap.size w w' → (∀ b, blk v = some b → w.heap.size ≤ b) → OutOk T w.heap.size w' (.own 0) [(0, .row 26 (.objs 4 []))] v := fun w' T' m v ho hm hb hbl => by
    refine ⟨fun _ => v, 1, .own 0 (by show 0 < 1; decide) (by rcases ho.2 with ⟨h, _⟩ | ⟨_, _, _, _, h, _⟩ <;> rw [h] <;> rfl), fun i it hi => ?_, fun i j it jt b hi hj _ _ => ?_⟩
    · have hi0 : i = 0 := by
        simp only [lk] at hi
        split at hi
        · rename_i h; exact h.symm
        · cases hi
      subst hi0
      have : it = Item.row 26 (.objs 4 []) := by simp [lk] at hi; exact hi.symm
      subst this
      exact ⟨by decide, 0, [], .objs 4 [] [] (by decide) (.nil 4), rfl, ho, hbl⟩
    · have aux : ∀ q x, lk [(0, Item.row 26 (.objs 4 []))] q = some x → q = 0 := by
        intro q x hq
        simp only [lk] at hq
        split at hq
        · rename_i h; exact h.symm
        · cases hq
      rw [aux i it hi, aux j jt hj]
  by_cases h0 : n = 0
  · subst h0
    refine (Any8.slices_Grow_room Tryd.lGrow none 0 0 0 w (by decide) (by decide) (by decide) (by decide)).mono ?_
    rintro e w' ⟨rfl, rfl⟩
    exact ⟨_, rfl, BelowD.refl _ _, hone w' (fun _ => False) (fun _ => .slice none 0 0) _ ⟨rfl, .inl ⟨rfl, rfl⟩⟩ rfl (BelowD.refl _ _) (fun b hb => by cases hb)⟩
  · obtain ⟨i0, hi0, hz0, hs0, hb0⟩ := e26.ex
    have hsz : i0.size = 4 := hs0
    refine (Any8.slices_Grow_grow Tryd.lGrow i0 _ hi0 hz0 (by omega) none 0 0 n [] w (by decide) (by omega) (by
      have : (0 + n) * i0.bytes ≤ 100000 * 1024 := Nat.mul_le_mul (by omega) hb0
      omega) (by omega) (by simp) (fun _ => rfl) (fun a ha => by cases ha)).mono ?_
    rintro e w' ⟨rfl, rfl⟩
    have hg1 := grownCap_ge w (0 + n) 0 (Tryd.lGrow_ren.t 25)
    have hg2 := grownCap_le_maxLen w (0 + n) 0 26 (by unfold maxLen; omega)
    have hb : BelowD w.heap.size w (w.drew.alloc (.cells (([] : List Value).toArray ++ Builtin.zeroCells (Value.agg #[.int .i64 0, .int .i64 0, .int .i64 0, .int .i64 0]).cells (0 + n - 0) ++ Builtin.zeroCells (Value.agg #[.int .i64 0, .int .i64 0, .int .i64 0, .int .i64 0]).cells (grownCap w (0 + n) 0 26 - (0 + n))) 26)) :=
      ⟨rfl, rfl, rfl, by simp, Nat.le_succ _, fun k hk => Below.heap_alloc w.drew _ k hk⟩
    refine ⟨_, rfl, hb, hone _ (fun _ => False) (fun _ => .slice (some ⟨w.heap.size, 0, none⟩) 0 _) _ ⟨rfl, .inr ⟨w.heap.size, _, _, (0, 0), rfl, .inl rfl, heap_alloc_new w.drew _, Nat.zero_le _, hg2, ?_, by simp⟩⟩ rfl hb (fun b hb => by cases hb; exact Nat.le_refl _)⟩
    have : (Value.agg #[.int .i64 0, .int .i64 0, .int .i64 0, .int .i64 0]).cells.size = 4 := rfl
    simp only [Array.size_append, List.size_toArray, size_zeroCells, this, List.length_nil]
    omega
set_option maxHeartbeats 4000000 in
theorem concat_ok (A B : List Bx) (hA : A.length ≤ 40000) (hB : B.length ≤ 40000) : FnOk Tryd.prog 27 [.ro (.objs 1 [[.ro (bxs A)], [.ro (bxs B)]])] (.own 0) [(0, .row 26 (bxs (A ++ B)))] := by
  have kG := growNil_ok (A.length + B.length) (by omega)
  rw [Int.natCast_add] at kG
  refine FnOk.of_vc Tryd.func27 rfl (by decide) (by simp [Tryd.f27]) [.tmp 2] rfl fun w0 T0 _ => ?_
  simp only [Tryd.f27, argEnv]
  (repeat' first | with_reducible (first | intro _ | refine rc ?_ | refine rl ?_ | refine rh ?_ | refine rt ?_ | refine rf ?_ | refine rs ?_ | refine And.intro ?_ ?_) | omega | simp (maxSteps := 1000000) only [go_sem, simprocAttr, ↓reduceIte, List.length_cons, List.length_nil])
  have g0 : ([[.ro (bxs A)], [.ro (bxs B)]] : List (List AV)).getD 0 [] = [.ro (bxs A)] := rfl
  have g1 : ([[.ro (bxs A)], [.ro (bxs B)]] : List (List AV)).getD 1 [] = [.ro (bxs B)] := rfl
  refine VcLoop.intro (fun k : Nat => ⟨36, [(11, .int .i64 k), (10, .int .i64 2), (9, .ro (.objs 1 [[.ro (bxs A)], [.ro (bxs B)]])), (0, .ro (.objs 1 [[.ro (bxs A)], [.ro (bxs B)]])), (3, .int .i64 (if k = 0 then 0 else if k = 1 then (A.length : Int) else A.length + B.length))], [], 0⟩) (fun k => k ≤ 2) (fun k => 2 - k) 0 ?_ (Nat.zero_le _) fun k hk => ?_
  · refine Ent.auto0 rfl ?_ ?_ <;> simp only [go_sem, reduceCtorEq, reduceIte, Nat.reduceEqDiff, Nat.reduceLT, Nat.reduceLeDiff, Int.natCast_succ]
    all_goals rfl
  rcases k with _ | _ | _ | k
  · (repeat' first | with_reducible (first | intro _ | refine rc ?_ | refine rl ?_ | refine rh ?_ | refine rt ?_ | refine rf ?_ | refine rs ?_ | refine And.intro ?_ ?_) | omega | simp (maxSteps := 1000000) only [go_sem, simprocAttr, ↓reduceIte, elemA, g0, List.length_cons, List.length_nil, List.length_map, Int.toNat_natCast, Int.cast_ofNat_Int])
    refine ⟨1, Ent.auto0 rfl ?_ ?_, by omega, by omega⟩ <;> simp only [go_sem, reduceCtorEq, reduceIte, Nat.reduceEqDiff, Nat.reduceLT, Nat.reduceLeDiff, Int.natCast_succ]
    all_goals first | rfl | simp
  · (repeat' first | with_reducible (first | intro _ | refine rc ?_ | refine rl ?_ | refine rh ?_ | refine rt ?_ | refine rf ?_ | refine rs ?_ | refine And.intro ?_ ?_) | omega | simp (maxSteps := 1000000) only [go_sem, simprocAttr, ↓reduceIte, elemA, g1, List.length_cons, List.length_nil, List.length_map, Int.toNat_natCast, Int.cast_ofNat_Int, Nat.zero_add])
    refine ⟨2, Ent.auto0 rfl ?_ ?_, by omega, by omega⟩ <;> simp only [go_sem, reduceCtorEq, reduceIte, Nat.reduceEqDiff, Nat.reduceLT, Nat.reduceLeDiff, Int.natCast_succ]
    all_goals first | rfl | simp
  · (repeat' first | with_reducible (first | intro _ | refine rc ?_ | refine rl ?_ | refine rh ?_ | refine rt ?_ | refine rf ?_ | refine rs ?_ | refine And.intro ?_ ?_) | omega | simp (maxSteps := 1000000) only [go_sem, simprocAttr, ↓reduceIte, List.length_cons, List.length_nil, List.length_map, Int.cast_ofNat_Int, Nat.zero_add])
    refine VcCall.fr (FnFr.of_ok kG rfl rfl) (by simp [argOkL, allOk, argOkN]) 1 rfl (by simp [rowsB, Item.below, belowR_ok]) ?_
    (repeat' first | with_reducible (first | intro _ | refine rc ?_ | refine rl ?_ | refine rh ?_ | refine rt ?_ | refine rf ?_ | refine rs ?_ | refine And.intro ?_ ?_) | omega | simp (maxSteps := 1000000) only [go_sem, simprocAttr, ↓reduceIte, renR_ok, List.length_cons, List.length_nil])
    refine VcLoop.intro (fun k : Nat => ⟨36, [(27, .int .i64 k), (26, .int .i64 2), (25, .ro (.objs 1 [[.ro (bxs A)], [.ro (bxs B)]])), (6, .own 0)], [(0, .row 26 (bxs (if k = 0 then [] else if k = 1 then A else A ++ B)))], 1⟩) (fun k => k ≤ 2) (fun k => 2 - k) 0 ?_ (Nat.zero_le _) fun k hk => ?_
    · refine Ent.auto0 rfl ?_ ?_ <;> simp only [go_sem, reduceCtorEq, reduceIte, Nat.reduceEqDiff, Nat.reduceLT, Nat.reduceLeDiff, Int.natCast_succ, List.map_nil]
      all_goals first | rfl | simp
    rcases k with _ | _ | _ | k
    · (repeat' first | with_reducible (first | intro _ | refine rc ?_ | refine rl ?_ | refine rh ?_ | refine rt ?_ | refine rf ?_ | refine rs ?_ | refine And.intro ?_ ?_) | omega | simp (maxSteps := 1000000) only [go_sem, simprocAttr, ↓reduceIte, elemA, g0, List.length_cons, List.length_nil, List.length_map, List.map_nil, List.nil_append, Int.toNat_natCast, Int.cast_ofNat_Int])
      refine ⟨1, Ent.auto0 rfl ?_ ?_, by omega, by omega⟩ <;> simp only [go_sem, reduceCtorEq, reduceIte, Nat.reduceEqDiff, Nat.reduceLT, Nat.reduceLeDiff, Int.natCast_succ]
      all_goals first | rfl | simp
    · (repeat' first | with_reducible (first | intro _ | refine rc ?_ | refine rl ?_ | refine rh ?_ | refine rt ?_ | refine rf ?_ | refine rs ?_ | refine And.intro ?_ ?_) | omega | simp (maxSteps := 1000000) only [go_sem, simprocAttr, ↓reduceIte, elemA, g1, List.length_cons, List.length_nil, List.length_map, Int.toNat_natCast, Int.cast_ofNat_Int, Nat.zero_add])
      refine ⟨2, Ent.auto0 rfl ?_ ?_, by omega, by omega⟩ <;> simp only [go_sem, reduceCtorEq, reduceIte, Nat.reduceEqDiff, Nat.reduceLT, Nat.reduceLeDiff, Int.natCast_succ, List.map_append]
      all_goals first | rfl | simp
    · (repeat' first | with_reducible (first | intro _ | refine rc ?_ | refine rl ?_ | refine rh ?_ | refine rt ?_ | refine rf ?_ | refine rs ?_ | refine And.intro ?_ ?_) | omega | simp (maxSteps := 1000000) only [go_sem, simprocAttr, ↓reduceIte, List.length_cons, List.length_nil, List.length_map, Int.cast_ofNat_Int, Nat.zero_add])
      refine Ret.auto 1 ?_ rfl ?_ <;> simp only [go_sem, reduceCtorEq, reduceIte, Nat.reduceEqDiff, Nat.reduceLT, Nat.reduceLeDiff, Int.natCast_succ, Post]
      all_goals first | rfl | simp
    · exact absurd hk (by omega)
  · exact absurd hk (by omega)
end Go.Fv.P

namespace Go.Fv.P
set_option linter.unusedSimpArgs false
set_option linter.unusedVariables false

def sumTo (f : Nat → Int) : Nat → Int
  | 0 => 0
  | n + 1 => sumTo f n + f n
def tab (v : Nat → Int) (w x y : Nat) : Int := sumTo (fun j => sumTo (fun i => v (j * w + i)) x) y
end Go.Fv.P

namespace Go.Fv.P
open Go Go.Proofs
set_option linter.unusedSimpArgs false
set_option linter.unusedVariables false
set_option maxRecDepth 8000

end Go.Fv.P

namespace Go.Fv.P
open Go Go.Proofs
set_option linter.unusedSimpArgs false
set_option linter.unusedVariables false
set_option maxRecDepth 8000
end Go.Fv.P

namespace Go.Fv.P
open Go Go.Proofs
set_option linter.unusedSimpArgs false
set_option linter.unusedVariables false
set_option maxRecDepth 8000
end Go.Fv.P

namespace Go.Fv.P
open Go Go.Proofs
set_option linter.unusedSimpArgs false
set_option linter.unusedVariables false
set_option maxRecDepth 8000

end Go.Fv.P

namespace Go.Fv.P
open Go Go.Proofs
set_option linter.unusedSimpArgs false
set_option linter.unusedVariables false
set_option maxRecDepth 8000
end Go.Fv.P

namespace Go.Fv.P
open Go Go.Proofs
set_option linter.unusedSimpArgs false
set_option linter.unusedVariables false
set_option maxRecDepth 8000

end Go.Fv.P

namespace Go.Fv.P
open Go Go.Proofs
set_option linter.unusedSimpArgs false
set_option linter.unusedVariables false
set_option maxRecDepth 8000

end Go.Fv.P

/-! The arguments of Split: a box of a page and gaps. -/
namespace Go.Fv.P
open Go Go.Proofs
set_option linter.unusedSimpArgs false
set_option linter.unusedVariables false
set_option maxRecDepth 8000

/-- A box that lies in a page. -/
def BoxIn (w h X Y W H : Int) : Prop := 1 ≤ W ∧ 1 ≤ H ∧ 0 ≤ X ∧ 0 ≤ Y ∧ X + W ≤ w ∧ Y + H ≤ h
instance (w h X Y W H : Int) : Decidable (BoxIn w h X Y W H) := inferInstanceAs (Decidable (_ ∧ _))
theorem pgErr_step (e : Int) (x : Int) : firstErr [e, if gapBad x = true then 3 else 0] = if e = 0 then (if gapBad x = true then 3 else 0) else e := by
  unfold firstErr
  split
  · unfold firstErr
    split <;> simp_all [firstErr]
  · rfl
def errGo (e : Int) : List Int → Int
  | [] => e
  | x :: l => errGo (if e = 0 then (if gapBad x = true then 3 else 0) else e) l
theorem errGo_ne {e : Int} (h : e ≠ 0) : ∀ l, errGo e l = e
  | [] => rfl
  | x :: l => by unfold errGo; rw [if_neg h, errGo_ne h l]
theorem errGo_zero : ∀ l : List Int, errGo 0 l = if l.any gapBad = true then 3 else 0
  | [] => rfl
  | x :: l => by
    unfold errGo
    rw [if_pos rfl]
    cases hx : gapBad x with
    | true => simp [hx, errGo_ne (show (3 : Int) ≠ 0 by decide) l]
    | false => simp [hx, errGo_zero l]
end Go.Fv.P
