/-
  A part of the proof of the claim: walks over the program's functions and the plain laws that these need. No condition of its own.
-/
import Derived.Test.YtgjeejogiohefaaGreatDoorUTopAllInkCardPart8
import Derived.Test.YtgjeejogiohefaaGreatDoorUTopAllInkCardPart5
import Derived.Test.YtgjeejogiohefaaGreatDoorUTopAllInkCardPart7
import Derived.Test.YtgjeejogiohefaaGreatDoorUTopAllInkCardPart4
import Derived.Test.YtgjeejogiohefaaGreatDoorUTopAllInkCardPart1
import Derived.Test.YtgjeejogiohefaaGreatDoorFvPart9
import Derived.Test.YtgjeejogiohefaaGreatDoorFvPart11
import Derived.Test.YtgjeejogiohefaaGreatDoorFvPart10
import Derived.Test.YtgjeejogiohefaaGreatDoorUTopAllInkCardPart6
import Derived.Shelf.Spec.SlicesGrow
/-! The order of reading: what Order's recursion appends. The walk. -/
namespace Go.Fv.U
open Go Go.Proofs
set_option linter.unusedSimpArgs false
set_option linter.unusedVariables false
set_option linter.unnecessarySimpa false
set_option maxRecDepth 8000

theorem atCo_ok (c r : Int × Int) (gx gy : Int) (hc : -6000000 ≤ c.2 ∧ c.2 ≤ 6000000) (hr : -6000000 ≤ r.2 ∧ r.2 ≤ 6000000) (hgx : 1 ≤ gx ∧ gx ≤ 4000) (hgy : 1 ≤ gy ∧ gy ≤ 4000) :
    FnOk Tryz.prog 80 [.agg [.int .i64 c.1, .int .i64 c.2], .agg [.int .i64 r.1, .int .i64 r.2], .int .i64 gx, .int .i64 gy] (.bool (decide (0 < c.2 ∧ (r.2 = 0 ∨ r.2 * gx < c.2 * gy)))) [] := by
  obtain ⟨c1, c2⟩ := c
  obtain ⟨r1, r2⟩ := r
  dsimp only at hc hr ⊢
  have hm : ∀ a g : Int, -6000000 ≤ a → a ≤ 6000000 → 1 ≤ g → g ≤ 4000 → -24000000000 ≤ a * g ∧ a * g ≤ 24000000000 := fun a g h1 h2 h3 h4 => by
    have k1 : a * g ≤ 6000000 * g := Int.mul_le_mul_of_nonneg_right h2 (by omega)
    have k2 : -6000000 * g ≤ a * g := Int.mul_le_mul_of_nonneg_right h1 (by omega)
    omega
  have m1 := hm c2 gy hc.1 hc.2 hgy.1 hgy.2
  have m2 := hm r2 gx hr.1 hr.2 hgx.1 hgx.2
  refine FnOk.of_vc Tryz.func80 rfl (by decide) (by simp [Tryz.f80]) [.tmp 8] rfl fun w0 T0 _ => ?_
  simp only [Tryz.f80, argEnv]
  have n1 : -9223372036854775808 ≤ c2 * gy ∧ c2 * gy ≤ 9223372036854775807 := by omega
  have n2 : -9223372036854775808 ≤ r2 * gx ∧ r2 * gx ≤ 9223372036854775807 := by omega
  (repeat' first | with_reducible (first | intro _ | refine rc ?_ | refine rl ?_ | refine rh ?_ | refine rt ?_ | refine rf ?_ | refine rs ?_ | refine And.intro ?_ ?_) | omega | simp (maxSteps := 1000000) only [go_sem, simprocAttr, ↓reduceIte, eq_true n1.1, eq_true n1.2, eq_true n2.1, eq_true n2.2])
  all_goals refine Ret.auto 0 ?_ rfl ?_ <;> simp only [go_sem, reduceCtorEq, reduceIte, Nat.reduceEqDiff, Nat.reduceLT, Nat.reduceLeDiff, Int.natCast_succ, Post]
/-- What reading a list of numbers appends. -/
def OrdIO (L : List Bx) (gx gy : Int) (l o r : List Int) : Prop :=
  FnIO Tryz.prog 68 [.ro (.ints .i64 l), .ptr 0 0, .ptr 1 0, .ptr 2 0, .ptr 3 0, .ptr 4 0] [(0, .box 81 [.own 5]), (1, .box 77 [.ro (bxs L)]), (2, .box 3 [.int .i64 gx]), (3, .box 3 [.int .i64 gy]), (4, .box 154 [.fn 68 [.ptr 0 0, .ptr 1 0, .ptr 2 0, .ptr 3 0, .ptr 4 0]]), (5, .row 3 (.ints .i64 o))] 6 (.tup [])
    [(0, .box 81 [.own 6]), (1, .box 77 [.ro (bxs L)]), (2, .box 3 [.int .i64 gx]), (3, .box 3 [.int .i64 gy]), (4, .box 154 [.fn 68 [.ptr 0 0, .ptr 1 0, .ptr 2 0, .ptr 3 0, .ptr 4 0]]), (6, .row 3 (.ints .i64 (o ++ r)))]
theorem covO6 {a b c d e f : Item} : ∀ j, j < 6 → ∃ it, lk [(0, a), (1, b), (2, c), (3, d), (4, e), (5, f)] j = some it := fun j hj => by
  rcases j with _ | _ | _ | _ | _ | _ | j
  · exact ⟨_, rfl⟩
  · exact ⟨_, rfl⟩
  · exact ⟨_, rfl⟩
  · exact ⟨_, rfl⟩
  · exact ⟨_, rfl⟩
  · exact ⟨_, rfl⟩
  · omega
theorem ordGo_short {τ : Type} (b : τ → Bx) (srt : List τ → List τ) (gx gy : Int) (n : Nat) (l : List τ) (h : l.length < 2) : ordGo b srt gx gy n l = l := by
  cases n with
  | zero => rfl
  | succ n => unfold ordGo; rw [if_pos h]
theorem readShort_ok (L : List Bx) (gx gy : Int) (l o : List Int) (h : l.length < 2) (ho : o.length ≤ 6000) : OrdIO L gx gy l o l := by
  unfold OrdIO
  refine FnIO.of_vc Tryz.func68 rfl (by decide) (by simp [Tryz.f68]) covO6 [] rfl fun w0 T0 _ => ?_
  simp only [Tryz.f68, argEnv]
  (repeat' first | with_reducible (first | intro _ | refine rc ?_ | refine rl ?_ | refine rh ?_ | refine rt ?_ | refine rf ?_ | refine rs ?_ | refine And.intro ?_ ?_) | omega | simp (maxSteps := 1000000) only [go_sem, simprocAttr, ↓reduceIte])
  refine RetK.of [(6, 6)] 7 (by decide) (by decide) ?_ rfl ?_ <;> simp only [go_sem, reduceCtorEq, reduceIte, Nat.reduceEqDiff, Nat.reduceLT, Nat.reduceLeDiff, Int.natCast_succ, renR_ok, belowR_ok]
theorem prBd (L : List Bx) (hL : ∀ b, b ∈ L → BxOk b) : (∀ b, b ∈ L → (-3000000 ≤ b.x ∧ b.x ≤ 3000000) ∧ (-3000000 ≤ b.x + b.w ∧ b.x + b.w ≤ 3000000) ∧ b.x < b.x + b.w) ∧ ∀ b, b ∈ L → (-3000000 ≤ b.y ∧ b.y ≤ 3000000) ∧ (-3000000 ≤ b.y + b.h ∧ b.y + b.h ≤ 3000000) ∧ b.y < b.y + b.h := by
  refine ⟨fun b hb => ?_, fun b hb => ?_⟩ <;> (have := hL b hb; unfold BxOk at this; omega)
theorem gapOf_bd {least : Int} {l : List (Int × Int)} (h : ∀ p, p ∈ l → (-3000000 ≤ p.1 ∧ p.1 ≤ 3000000) ∧ -3000000 ≤ p.2 ∧ p.2 ≤ 3000000) : -6000000 ≤ (gapOf least l).2 ∧ (gapOf least l).2 ≤ 6000000 := by
  have hp := sortPr_perm l
  unfold gapOf
  generalize sortPr l = m at *
  cases m with
  | nil => exact (by decide : (-6000000 : Int) ≤ 0 ∧ (0 : Int) ≤ 6000000)
  | cons p m =>
    have hm : ∀ q, q ∈ p :: m → _ := fun q hq => h q (hp.mem_iff.1 hq)
    have := (foldl_bd (least := least) (lo := -3000000) (hi := 3000000) (s0 := (p.2, 0, 0)) (by have := hm p (.head _); dsimp only; omega) (by dsimp only; omega) (by omega) m fun q hq => hm q (.tail _ hq)).2.1
    have e : (gapFold least (p :: m)).2 = (m.foldl (gapStep least) (p.2, 0, 0)).2.2 := rfl
    omega
theorem filter_app {τ : Type} (p : τ → Bool) (l : List τ) {k : Nat} {z : τ} (h : k < l.length) : (l.take (k + 1)).filter p = (l.take k).filter p ++ (if p (l.getD k z) = true then [l.getD k z] else []) := by
  rw [List.take_succ_eq_append_getElem h, getD_lt h, List.filter_append]
  cases hp : p l[k] <;> simp [hp]
theorem filter_len_take {τ : Type} (p : τ → Bool) (l : List τ) (k : Nat) : ((l.take k).filter p).length ≤ l.length := by
  have h1 := List.length_filter_le p (l.take k)
  have h2 : (l.take k).length ≤ l.length := by rw [List.length_take]; omega
  omega
def befX (L : List Bx) (e i : Int) : Bool := decide ((bAt L i).x < e)
def behX (L : List Bx) (e i : Int) : Bool := !decide ((bAt L i).x < e)
def befY (L : List Bx) (e i : Int) : Bool := decide ((bAt L i).y < e)
def behY (L : List Bx) (e i : Int) : Bool := !decide ((bAt L i).y < e)
theorem beh_eqX (L : List Bx) (e i : Int) : behX L e i = !befX L e i := rfl
theorem beh_eqY (L : List Bx) (e i : Int) : behY L e i = !befY L e i := rfl
set_option maxHeartbeats 16000000 in
theorem readStep_ok (L : List Bx) (hL : ∀ b, b ∈ L → BxOk b) (hLn : L.length ≤ 6000) (gx gy : Int) (hgx : 1 ≤ gx ∧ gx ≤ 4000) (hgy : 1 ≤ gy ∧ gy ≤ 4000) (l o : List Int) (hl : ∀ i, i ∈ l → InL L i) (h2 : ¬ l.length < 2) (hn : o.length + l.length ≤ 6000) (c r : Int × Int)
    (hc : gapOf gx (l.map fun i => fx (bAt L i)) = c) (hr : gapOf gy (l.map fun i => fy (bAt L i)) = r) (res : List Int)
    (hA : c.2 = 0 ∧ r.2 = 0 → res = sortKey (kI L) l) (hB : ¬ (c.2 = 0 ∧ r.2 = 0) → atG c r gx gy → ∃ s t, res = s ++ t ∧ OrdIO L gx gy (l.filter (befX L c.1)) o s ∧ OrdIO L gx gy (l.filter (behX L c.1)) (o ++ s) t)
    (hC : ¬ (c.2 = 0 ∧ r.2 = 0) → ¬ atG c r gx gy → ∃ s t, res = s ++ t ∧ OrdIO L gx gy (l.filter (befY L r.1)) o s ∧ OrdIO L gx gy (l.filter (behY L r.1)) (o ++ s) t) : OrdIO L gx gy l o res := by
  obtain ⟨pX, pY⟩ := prBd L hL
  have kX := between_ok L 70 71 (fun b => b.x) (fun b => b.x + b.w) pX l hl (by omega) (by omega) hLn gx hgx.1 hgx.2 (fun b hb => side1_ok b (hL b hb)) (fun b hb => side2_ok b (hL b hb))
  have kY := between_ok L 72 73 (fun b => b.y) (fun b => b.y + b.h) pY l hl (by omega) (by omega) hLn gy hgy.1 hgy.2 (fun b hb => side3_ok b (hL b hb)) (fun b hb => side4_ok b (hL b hb))
  rw [show prI L (fun b => b.x) (fun b => b.x + b.w) = fun i => fx (bAt L i) from rfl, hc] at kX
  rw [show prI L (fun b => b.y) (fun b => b.y + b.h) = fun i => fy (bAt L i) from rfl, hr] at kY
  have bc : -6000000 ≤ c.2 ∧ c.2 ≤ 6000000 := by
    rw [← hc]; exact gapOf_bd fun p hp => by
      obtain ⟨i, hi, rfl⟩ := List.mem_map.1 hp
      have := pX _ (bAt_mem (hl i hi))
      unfold fx; dsimp only; omega
  have br : -6000000 ≤ r.2 ∧ r.2 ≤ 6000000 := by
    rw [← hr]; exact gapOf_bd fun p hp => by
      obtain ⟨i, hi, rfl⟩ := List.mem_map.1 hp
      have := pY _ (bAt_mem (hl i hi))
      unfold fy; dsimp only; omega
  have kA := atCo_ok c r gx gy bc br hgx hgy
  have hcf : ∀ i k, (InL L i ∧ InK .i64 i) → (InL L k ∧ InK .i64 k) → (orL (List.zipWith cmp3 (kI L i) (kI L k)) < 0 ↔ kI L i < kI L k) := fun i k _ _ => orL_lt cmp3_i rfl
  have hgood : ∀ i, i ∈ l → InL L i ∧ InK .i64 i := fun i hi => ⟨hl i hi, by have := hl i hi; unfold InL at this; exact InK_i64.2 (by omega)⟩
  obtain ⟨q, hqp, hqs, kS⟩ := sortF1_io Tryz.lSoF ⟨_, Tryz.func75, by kernel_rfl, by kernel_rfl⟩ 3 (good := fun i => InL L i ∧ InK .i64 i) (cf := fun i k => orL (List.zipWith cmp3 (kI L i) (kI L k)))
    (cmpOrd_key (key := kI L) hcf) 76 [.cell [.ro (bxs L)]] rfl (fun x y hx hy => FnFr.of_ok (ord5_ok L x y hx.1 hy.1) rfl rfl) l hgood (fun x h => h.2) (by omega)
  have hq : q = sortKey (kI L) l := sortKey_unique (fun i k _ _ h => kI_inj h) hqp (sortedBy_key (good := fun i => InL L i ∧ InK .i64 i) hcf (fun x hx => hgood x (hqp.mem_iff.1 hx)) hqs)
  have hql := hqp.length_eq
  clear hc hr
  obtain ⟨c1, c2⟩ := c
  obtain ⟨r1, r2⟩ := r
  dsimp only at *
  by_cases hz : c2 = 0 ∧ r2 = 0
  · rw [hA hz, ← hq]
    unfold OrdIO
    refine FnIO.of_vc Tryz.func68 rfl (by decide) (by simp [Tryz.f68]) covO6 [] rfl fun w0 T0 _ => ?_
    simp only [Tryz.f68, argEnv]
    (repeat' first | with_reducible (first | intro _ | refine rc ?_ | refine rl ?_ | refine rh ?_ | refine rt ?_ | refine rf ?_ | refine rs ?_ | refine And.intro ?_ ?_) | omega | simp (maxSteps := 1000000) only [go_sem, simprocAttr, ↓reduceIte])
    refine VcCall.k (kX) ?_
    (repeat' first | with_reducible (first | intro _ | refine rc ?_ | refine rl ?_ | refine rh ?_ | refine rt ?_ | refine rf ?_ | refine rs ?_ | refine And.intro ?_ ?_) | omega | simp (maxSteps := 1000000) only [go_sem, simprocAttr, ↓reduceIte])
    refine VcCall.k (kY) ?_
    (repeat' first | with_reducible (first | intro _ | refine rc ?_ | refine rl ?_ | refine rh ?_ | refine rt ?_ | refine rf ?_ | refine rs ?_ | refine And.intro ?_ ?_) | omega | simp (maxSteps := 1000000) only [go_sem, simprocAttr, ↓reduceIte])
    refine VcCall.fr (FnFr.of_ok (cloneI_ok l (by omega)) rfl rfl) (by simp only [noIdR_ok, argOkL, argOk, allOk, argOkN, List.drop_zero, lk, reduceIte, reduceCtorEq, Nat.reduceEqDiff, Option.some.injEq, Item.row.injEq, Item.box.injEq, AV.ro.injEq, exists_eq_left, exists_and_left, exists_eq_left', exists_eq_right, and_assoc, and_true, true_and, List.cons.injEq, exists_eq', exists_eq]) 1 rfl (by simp [rowsB, Item.below, belowR_ok]) ?_
    (repeat' first | with_reducible (first | intro _ | refine rc ?_ | refine rl ?_ | refine rh ?_ | refine rt ?_ | refine rf ?_ | refine rs ?_ | refine And.intro ?_ ?_) | omega | simp (maxSteps := 1000000) only [go_sem, simprocAttr, ↓reduceIte, renR_ok])
    refine VcCall.ioL [8] kS rfl rfl (by decide) ⟨_, _, .inl ⟨rfl, rfl⟩, ⟨_, _, .inr (by simp only [noIdR_ok, argOkL, argOk, allOk, argOkN, List.drop_zero, lk, reduceIte, reduceCtorEq, Nat.reduceEqDiff, Option.some.injEq, Item.row.injEq, Item.box.injEq, AV.ro.injEq, exists_eq_left, exists_and_left, exists_eq_left', exists_eq_right, and_assoc, and_true, true_and, List.cons.injEq, exists_eq', exists_eq, delL, del]), rfl, rfl⟩, rfl⟩ (by simp [subOk, ioN, lk, Item.ren, Item.below, renR_ok, belowR_ok]) covO1 1 (by decide) rfl (by simp [rowsB, Item.below, belowR_ok]) ?_
    (repeat' first | with_reducible (first | intro _ | refine rc ?_ | refine rl ?_ | refine rh ?_ | refine rt ?_ | refine rf ?_ | refine rs ?_ | refine And.intro ?_ ?_) | omega | simp (maxSteps := 1000000) only [go_sem, simprocAttr, ↓reduceIte, S.ioS, ioRows, ioN, delL, Item.ren, renR_ok, List.length_cons, List.length_nil, List.getElem?_cons_zero, List.cons_append, List.nil_append, Nat.sub_self, Nat.add_zero, List.filter])
    refine RetK.of [(6, 9)] 7 (by decide) (by decide) ?_ rfl ?_ <;> simp only [go_sem, reduceCtorEq, reduceIte, Nat.reduceEqDiff, Nat.reduceLT, Nat.reduceLeDiff, Int.natCast_succ, renR_ok, belowR_ok, List.append_assoc]
  · by_cases hat : atG (c1, c2) (r1, r2) gx gy
    · obtain ⟨s, t, hst, k1, k2⟩ := hB hz hat
      rw [hst]
      rw [decide_eq_true (show (0 < c2 ∧ (r2 = 0 ∨ r2 * gx < c2 * gy)) from hat)] at kA
      unfold OrdIO at *
      rw [List.append_assoc] at k2
      rw [← List.append_assoc] at k2
      refine FnIO.of_vc Tryz.func68 rfl (by decide) (by simp [Tryz.f68]) covO6 [] rfl fun w0 T0 _ => ?_
      simp only [Tryz.f68, argEnv]
      (repeat' first | with_reducible (first | intro _ | refine rc ?_ | refine rl ?_ | refine rh ?_ | refine rt ?_ | refine rf ?_ | refine rs ?_ | refine And.intro ?_ ?_) | omega | simp (maxSteps := 1000000) only [go_sem, simprocAttr, ↓reduceIte])
      refine VcCall.k (kX) ?_
      (repeat' first | with_reducible (first | intro _ | refine rc ?_ | refine rl ?_ | refine rh ?_ | refine rt ?_ | refine rf ?_ | refine rs ?_ | refine And.intro ?_ ?_) | omega | simp (maxSteps := 1000000) only [go_sem, simprocAttr, ↓reduceIte])
      refine VcCall.k (kY) ?_
      (repeat' first | with_reducible (first | intro _ | refine rc ?_ | refine rl ?_ | refine rh ?_ | refine rt ?_ | refine rf ?_ | refine rs ?_ | refine And.intro ?_ ?_) | omega | simp (maxSteps := 1000000) only [go_sem, simprocAttr, ↓reduceIte])
      refine VcCall.k (kA) ?_
      (repeat' first | with_reducible (first | intro _ | refine rc ?_ | refine rl ?_ | refine rh ?_ | refine rt ?_ | refine rf ?_ | refine rs ?_ | refine And.intro ?_ ?_) | omega | simp (maxSteps := 1000000) only [go_sem, simprocAttr, ↓reduceIte])
      refine VcLoop.run (fun k : Nat => ⟨76, [(54, .int .i64 k), (53, .int .i64 l.length), (52, .ro (.ints .i64 l)), (10, .fn 81 [.ptr 1 0, .ptr 6 0]), (11, .own 8), (12, .own 9), (5, .ptr 4 0), (4, .ptr 3 0), (3, .ptr 2 0), (2, .ptr 1 0), (1, .ptr 0 0)], [(0, .box 81 [.own 5]), (1, .box 77 [.ro (bxs L)]), (2, .box 3 [.int .i64 gx]), (3, .box 3 [.int .i64 gy]), (4, .box 154 [.fn 68 [.ptr 0 0, .ptr 1 0, .ptr 2 0, .ptr 3 0, .ptr 4 0]]), (5, .row 3 (.ints .i64 o)), (6, .box 156 [.int .i64 c1, .int .i64 c2]), (7, .box 156 [.int .i64 r1, .int .i64 r2]), (8, .row 3 (.ints .i64 ((l.take k).filter (befX L c1)))), (9, .row 3 (.ints .i64 ((l.take k).filter (behX L c1))))], 10⟩) (fun k => k ≤ l.length) (fun k => l.length - k) 0 ?_ (Nat.zero_le _) fun k hk => ?_
      · refine Ent.autoK 6 rfl (by show 6 ≤ 10; decide) ?_ ?_ <;> simp only [go_sem, reduceCtorEq, reduceIte, Nat.reduceEqDiff, Nat.reduceLT, Nat.reduceLeDiff, Int.natCast_succ, List.take_zero, List.filter_nil, fromL]
      by_cases hlt : k < l.length
      · have hik : InL L (l.getD k 0) := hl _ (by rw [getD_lt hlt]; exact List.getElem_mem _)
        have kf : FnOk Tryz.prog 81 _ (.bool (befX L c1 (l.getD k 0))) [] := first7_ok L (l.getD k 0) c1 c2 hik
        have f1 := filter_app (befX L c1) l (z := 0) hlt
        have f2 := filter_app (behX L c1) l (z := 0) hlt
        rw [beh_eqX] at f2
        have n1 := filter_len_take (befX L c1) l k
        have n2 := filter_len_take (behX L c1) l k
        try dsimp only at f1 f2
        generalize (l.take k).filter (befX L c1) = A at *
        generalize (l.take k).filter (behX L c1) = B at *
        refine VcRun.of ?_
        (repeat' first | with_reducible (first | intro _ | refine rc ?_ | refine rl ?_ | refine rh ?_ | refine rt ?_ | refine rf ?_ | refine rs ?_ | refine And.intro ?_ ?_) | omega | simp (maxSteps := 1000000) only [go_sem, simprocAttr, ↓reduceIte])
        cases hb : befX L c1 (l.getD k 0) with
        | true =>
          rw [hb] at kf f1 f2
          rw [if_pos rfl] at f1
          rw [if_neg (by decide), List.append_nil] at f2
          refine VcCall.k (kf) ?_
          (repeat' first | with_reducible (first | intro _ | refine rc ?_ | refine rl ?_ | refine rh ?_ | refine rt ?_ | refine rf ?_ | refine rs ?_ | refine And.intro ?_ ?_) | omega | simp (maxSteps := 1000000) only [go_sem, simprocAttr, ↓reduceIte])
          refine ⟨k + 1, Ent.autoK 6 rfl (by show 6 ≤ 10; decide) ?_ ?_, by omega, by omega⟩ <;> simp only [go_sem, reduceCtorEq, reduceIte, Nat.reduceEqDiff, Nat.reduceLT, Nat.reduceLeDiff, Int.natCast_succ, f1, f2, fromL]
        | false =>
          rw [hb] at kf f1 f2
          rw [if_neg (by decide), List.append_nil] at f1
          rw [if_pos (show (!false) = true from rfl)] at f2
          refine VcCall.k (kf) ?_
          (repeat' first | with_reducible (first | intro _ | refine rc ?_ | refine rl ?_ | refine rh ?_ | refine rt ?_ | refine rf ?_ | refine rs ?_ | refine And.intro ?_ ?_) | omega | simp (maxSteps := 1000000) only [go_sem, simprocAttr, ↓reduceIte])
          refine ⟨k + 1, Ent.autoK 6 rfl (by show 6 ≤ 10; decide) ?_ ?_, by omega, by omega⟩ <;> simp only [go_sem, reduceCtorEq, reduceIte, Nat.reduceEqDiff, Nat.reduceLT, Nat.reduceLeDiff, Int.natCast_succ, f1, f2, fromL]
      · have e : k = l.length := by omega
        subst e
        rw [List.take_length]
        refine VcRun.ent (Ent.trans (Ent.fz 8 (e := 3) (r := .ints .i64 (l.filter (befX L c1))) rfl rfl (by decide)) (Ent.trans (Ent.fz 9 (e := 3) (r := .ints .i64 (l.filter (behX L c1))) rfl rfl (by decide)) (Ent.autoK (s' := ⟨76, [(54, .int .i64 l.length), (53, .int .i64 l.length), (11, .ro (.ints .i64 (l.filter (befX L c1)))), (12, .ro (.ints .i64 (l.filter (behX L c1)))), (5, .ptr 4 0), (4, .ptr 3 0), (3, .ptr 2 0), (2, .ptr 1 0), (1, .ptr 0 0)], [(0, .box 81 [.own 5]), (1, .box 77 [.ro (bxs L)]), (2, .box 3 [.int .i64 gx]), (3, .box 3 [.int .i64 gy]), (4, .box 154 [.fn 68 [.ptr 0 0, .ptr 1 0, .ptr 2 0, .ptr 3 0, .ptr 4 0]]), (5, .row 3 (.ints .i64 o))], 6⟩) 6 rfl (Nat.le_refl 6) ?_ ?_))) (VcRun.of ?_)
        · simp only [go_sem, reduceCtorEq, reduceIte, Nat.reduceEqDiff, Nat.reduceLT, Nat.reduceLeDiff, Int.natCast_succ, fromL]
        · simp only [go_sem, reduceCtorEq, reduceIte, Nat.reduceEqDiff, Nat.reduceLT, Nat.reduceLeDiff, Int.natCast_succ, fromL]
        (repeat' first | with_reducible (first | intro _ | refine rc ?_ | refine rl ?_ | refine rh ?_ | refine rt ?_ | refine rf ?_ | refine rs ?_ | refine And.intro ?_ ?_) | omega | simp (maxSteps := 1000000) only [go_sem, simprocAttr, ↓reduceIte])
        refine VcCall.io [0, 1, 2, 3, 4, 5] k1 (by decide) (by simp [renL, ren, ioN]) rfl (by simp [subOk, ioN, lk, Item.ren, Item.below, ren, renL, belowL, Fv.below, renR_ok, belowR_ok]) covO6 7 (by decide) rfl (by simp [rowsB, Item.below, Fv.below, belowL, belowR_ok]) ?_
        (repeat' first | with_reducible (first | intro _ | refine rc ?_ | refine rl ?_ | refine rh ?_ | refine rt ?_ | refine rf ?_ | refine rs ?_ | refine And.intro ?_ ?_) | omega | simp (maxSteps := 1000000) only [go_sem, simprocAttr, ↓reduceIte, S.ioS, ioRows, ioN, delL, Item.ren, ren, renL, renR_ok, List.length_cons, List.length_nil, List.getElem?_cons_zero, List.getElem?_cons_succ, List.getElem?_nil, List.cons_append, List.nil_append, Nat.sub_self, Nat.add_zero, List.filter])
        refine VcCall.io [0, 1, 2, 3, 4, 6] k2 (by decide) (by simp [renL, ren, ioN]) rfl (by simp [subOk, ioN, lk, Item.ren, Item.below, ren, renL, belowL, Fv.below, renR_ok, belowR_ok]) covO6 7 (by decide) rfl (by simp [rowsB, Item.below, Fv.below, belowL, belowR_ok]) ?_
        (repeat' first | with_reducible (first | intro _ | refine rc ?_ | refine rl ?_ | refine rh ?_ | refine rt ?_ | refine rf ?_ | refine rs ?_ | refine And.intro ?_ ?_) | omega | simp (maxSteps := 1000000) only [go_sem, simprocAttr, ↓reduceIte, S.ioS, ioRows, ioN, delL, Item.ren, ren, renL, renR_ok, List.length_cons, List.length_nil, List.getElem?_cons_zero, List.getElem?_cons_succ, List.getElem?_nil, List.cons_append, List.nil_append, Nat.sub_self, Nat.add_zero, List.filter])
        refine RetK.of [(6, 7)] 7 (by decide) (by decide) ?_ rfl ?_ <;> simp only [go_sem, reduceCtorEq, reduceIte, Nat.reduceEqDiff, Nat.reduceLT, Nat.reduceLeDiff, Int.natCast_succ, renR_ok, belowR_ok, List.append_assoc]
    · obtain ⟨s, t, hst, k1, k2⟩ := hC hz hat
      rw [hst]
      rw [decide_eq_false (show ¬ (0 < c2 ∧ (r2 = 0 ∨ r2 * gx < c2 * gy)) from hat)] at kA
      unfold OrdIO at *
      rw [List.append_assoc] at k2
      rw [← List.append_assoc] at k2
      refine FnIO.of_vc Tryz.func68 rfl (by decide) (by simp [Tryz.f68]) covO6 [] rfl fun w0 T0 _ => ?_
      simp only [Tryz.f68, argEnv]
      (repeat' first | with_reducible (first | intro _ | refine rc ?_ | refine rl ?_ | refine rh ?_ | refine rt ?_ | refine rf ?_ | refine rs ?_ | refine And.intro ?_ ?_) | omega | simp (maxSteps := 1000000) only [go_sem, simprocAttr, ↓reduceIte])
      refine VcCall.k (kX) ?_
      (repeat' first | with_reducible (first | intro _ | refine rc ?_ | refine rl ?_ | refine rh ?_ | refine rt ?_ | refine rf ?_ | refine rs ?_ | refine And.intro ?_ ?_) | omega | simp (maxSteps := 1000000) only [go_sem, simprocAttr, ↓reduceIte])
      refine VcCall.k (kY) ?_
      (repeat' first | with_reducible (first | intro _ | refine rc ?_ | refine rl ?_ | refine rh ?_ | refine rt ?_ | refine rf ?_ | refine rs ?_ | refine And.intro ?_ ?_) | omega | simp (maxSteps := 1000000) only [go_sem, simprocAttr, ↓reduceIte])
      refine VcCall.k (kA) ?_
      (repeat' first | with_reducible (first | intro _ | refine rc ?_ | refine rl ?_ | refine rh ?_ | refine rt ?_ | refine rf ?_ | refine rs ?_ | refine And.intro ?_ ?_) | omega | simp (maxSteps := 1000000) only [go_sem, simprocAttr, ↓reduceIte])
      refine VcLoop.run (fun k : Nat => ⟨76, [(54, .int .i64 k), (53, .int .i64 l.length), (52, .ro (.ints .i64 l)), (10, .fn 79 [.ptr 1 0, .ptr 7 0]), (11, .own 8), (12, .own 9), (5, .ptr 4 0), (4, .ptr 3 0), (3, .ptr 2 0), (2, .ptr 1 0), (1, .ptr 0 0)], [(0, .box 81 [.own 5]), (1, .box 77 [.ro (bxs L)]), (2, .box 3 [.int .i64 gx]), (3, .box 3 [.int .i64 gy]), (4, .box 154 [.fn 68 [.ptr 0 0, .ptr 1 0, .ptr 2 0, .ptr 3 0, .ptr 4 0]]), (5, .row 3 (.ints .i64 o)), (6, .box 156 [.int .i64 c1, .int .i64 c2]), (7, .box 156 [.int .i64 r1, .int .i64 r2]), (8, .row 3 (.ints .i64 ((l.take k).filter (befY L r1)))), (9, .row 3 (.ints .i64 ((l.take k).filter (behY L r1))))], 10⟩) (fun k => k ≤ l.length) (fun k => l.length - k) 0 ?_ (Nat.zero_le _) fun k hk => ?_
      · refine Ent.autoK 6 rfl (by show 6 ≤ 10; decide) ?_ ?_ <;> simp only [go_sem, reduceCtorEq, reduceIte, Nat.reduceEqDiff, Nat.reduceLT, Nat.reduceLeDiff, Int.natCast_succ, List.take_zero, List.filter_nil, fromL]
      by_cases hlt : k < l.length
      · have hik : InL L (l.getD k 0) := hl _ (by rw [getD_lt hlt]; exact List.getElem_mem _)
        have kf : FnOk Tryz.prog 79 _ (.bool (befY L r1 (l.getD k 0))) [] := first6_ok L (l.getD k 0) r1 r2 hik
        have f1 := filter_app (befY L r1) l (z := 0) hlt
        have f2 := filter_app (behY L r1) l (z := 0) hlt
        rw [beh_eqY] at f2
        have n1 := filter_len_take (befY L r1) l k
        have n2 := filter_len_take (behY L r1) l k
        try dsimp only at f1 f2
        generalize (l.take k).filter (befY L r1) = A at *
        generalize (l.take k).filter (behY L r1) = B at *
        refine VcRun.of ?_
        (repeat' first | with_reducible (first | intro _ | refine rc ?_ | refine rl ?_ | refine rh ?_ | refine rt ?_ | refine rf ?_ | refine rs ?_ | refine And.intro ?_ ?_) | omega | simp (maxSteps := 1000000) only [go_sem, simprocAttr, ↓reduceIte])
        cases hb : befY L r1 (l.getD k 0) with
        | true =>
          rw [hb] at kf f1 f2
          rw [if_pos rfl] at f1
          rw [if_neg (by decide), List.append_nil] at f2
          refine VcCall.k (kf) ?_
          (repeat' first | with_reducible (first | intro _ | refine rc ?_ | refine rl ?_ | refine rh ?_ | refine rt ?_ | refine rf ?_ | refine rs ?_ | refine And.intro ?_ ?_) | omega | simp (maxSteps := 1000000) only [go_sem, simprocAttr, ↓reduceIte])
          refine ⟨k + 1, Ent.autoK 6 rfl (by show 6 ≤ 10; decide) ?_ ?_, by omega, by omega⟩ <;> simp only [go_sem, reduceCtorEq, reduceIte, Nat.reduceEqDiff, Nat.reduceLT, Nat.reduceLeDiff, Int.natCast_succ, f1, f2, fromL]
        | false =>
          rw [hb] at kf f1 f2
          rw [if_neg (by decide), List.append_nil] at f1
          rw [if_pos (show (!false) = true from rfl)] at f2
          refine VcCall.k (kf) ?_
          (repeat' first | with_reducible (first | intro _ | refine rc ?_ | refine rl ?_ | refine rh ?_ | refine rt ?_ | refine rf ?_ | refine rs ?_ | refine And.intro ?_ ?_) | omega | simp (maxSteps := 1000000) only [go_sem, simprocAttr, ↓reduceIte])
          refine ⟨k + 1, Ent.autoK 6 rfl (by show 6 ≤ 10; decide) ?_ ?_, by omega, by omega⟩ <;> simp only [go_sem, reduceCtorEq, reduceIte, Nat.reduceEqDiff, Nat.reduceLT, Nat.reduceLeDiff, Int.natCast_succ, f1, f2, fromL]
      · have e : k = l.length := by omega
        subst e
        rw [List.take_length]
        refine VcRun.ent (Ent.trans (Ent.fz 8 (e := 3) (r := .ints .i64 (l.filter (befY L r1))) rfl rfl (by decide)) (Ent.trans (Ent.fz 9 (e := 3) (r := .ints .i64 (l.filter (behY L r1))) rfl rfl (by decide)) (Ent.autoK (s' := ⟨76, [(54, .int .i64 l.length), (53, .int .i64 l.length), (11, .ro (.ints .i64 (l.filter (befY L r1)))), (12, .ro (.ints .i64 (l.filter (behY L r1)))), (5, .ptr 4 0), (4, .ptr 3 0), (3, .ptr 2 0), (2, .ptr 1 0), (1, .ptr 0 0)], [(0, .box 81 [.own 5]), (1, .box 77 [.ro (bxs L)]), (2, .box 3 [.int .i64 gx]), (3, .box 3 [.int .i64 gy]), (4, .box 154 [.fn 68 [.ptr 0 0, .ptr 1 0, .ptr 2 0, .ptr 3 0, .ptr 4 0]]), (5, .row 3 (.ints .i64 o))], 6⟩) 6 rfl (Nat.le_refl 6) ?_ ?_))) (VcRun.of ?_)
        · simp only [go_sem, reduceCtorEq, reduceIte, Nat.reduceEqDiff, Nat.reduceLT, Nat.reduceLeDiff, Int.natCast_succ, fromL]
        · simp only [go_sem, reduceCtorEq, reduceIte, Nat.reduceEqDiff, Nat.reduceLT, Nat.reduceLeDiff, Int.natCast_succ, fromL]
        (repeat' first | with_reducible (first | intro _ | refine rc ?_ | refine rl ?_ | refine rh ?_ | refine rt ?_ | refine rf ?_ | refine rs ?_ | refine And.intro ?_ ?_) | omega | simp (maxSteps := 1000000) only [go_sem, simprocAttr, ↓reduceIte])
        refine VcCall.io [0, 1, 2, 3, 4, 5] k1 (by decide) (by simp [renL, ren, ioN]) rfl (by simp [subOk, ioN, lk, Item.ren, Item.below, ren, renL, belowL, Fv.below, renR_ok, belowR_ok]) covO6 7 (by decide) rfl (by simp [rowsB, Item.below, Fv.below, belowL, belowR_ok]) ?_
        (repeat' first | with_reducible (first | intro _ | refine rc ?_ | refine rl ?_ | refine rh ?_ | refine rt ?_ | refine rf ?_ | refine rs ?_ | refine And.intro ?_ ?_) | omega | simp (maxSteps := 1000000) only [go_sem, simprocAttr, ↓reduceIte, S.ioS, ioRows, ioN, delL, Item.ren, ren, renL, renR_ok, List.length_cons, List.length_nil, List.getElem?_cons_zero, List.getElem?_cons_succ, List.getElem?_nil, List.cons_append, List.nil_append, Nat.sub_self, Nat.add_zero, List.filter])
        refine VcCall.io [0, 1, 2, 3, 4, 6] k2 (by decide) (by simp [renL, ren, ioN]) rfl (by simp [subOk, ioN, lk, Item.ren, Item.below, ren, renL, belowL, Fv.below, renR_ok, belowR_ok]) covO6 7 (by decide) rfl (by simp [rowsB, Item.below, Fv.below, belowL, belowR_ok]) ?_
        (repeat' first | with_reducible (first | intro _ | refine rc ?_ | refine rl ?_ | refine rh ?_ | refine rt ?_ | refine rf ?_ | refine rs ?_ | refine And.intro ?_ ?_) | omega | simp (maxSteps := 1000000) only [go_sem, simprocAttr, ↓reduceIte, S.ioS, ioRows, ioN, delL, Item.ren, ren, renL, renR_ok, List.length_cons, List.length_nil, List.getElem?_cons_zero, List.getElem?_cons_succ, List.getElem?_nil, List.cons_append, List.nil_append, Nat.sub_self, Nat.add_zero, List.filter])
        refine RetK.of [(6, 7)] 7 (by decide) (by decide) ?_ rfl ?_ <;> simp only [go_sem, reduceCtorEq, reduceIte, Nat.reduceEqDiff, Nat.reduceLT, Nat.reduceLeDiff, Int.natCast_succ, renR_ok, belowR_ok, List.append_assoc]
theorem read_ok (L : List Bx) (hL : ∀ b, b ∈ L → BxOk b) (hLn : L.length ≤ 6000) (gx gy : Int) (hgx : 1 ≤ gx ∧ gx ≤ 4000) (hgy : 1 ≤ gy ∧ gy ≤ 4000) : ∀ (n : Nat) (l o : List Int), l.length ≤ n → (∀ i, i ∈ l → InL L i) → o.length + l.length ≤ 6000 → (ordI L gx gy n l).length = l.length ∧ OrdIO L gx gy l o (ordI L gx gy n l)
  | 0, l, o, hn, hl, hb => by
    have h2 : l.length < 2 := by omega
    unfold ordI
    rw [ordGo_short _ _ _ _ _ _ h2]
    exact ⟨rfl, readShort_ok L gx gy l o h2 (by omega)⟩
  | n + 1, l, o, hn, hl, hb => by
    by_cases h2 : l.length < 2
    · unfold ordI
      rw [ordGo_short _ _ _ _ _ _ h2]
      exact ⟨rfl, readShort_ok L gx gy l o h2 (by omega)⟩
    have hbox : BoxesOk (l.map (bAt L)) := fun b hb' => by
      obtain ⟨i, hi, rfl⟩ := List.mem_map.1 hb'
      have := hL _ (bAt_mem (hl i hi))
      unfold BxOk at this; omega
    have p1 := fun hne => gapOf_parts hgx.1 (fx_lt hbox) hne
    have p2 := fun hne => gapOf_parts hgy.1 (fy_lt hbox) hne
    rw [List.map_map, show fx ∘ bAt L = fun i => fx (bAt L i) from rfl] at p1
    rw [List.map_map, show fy ∘ bAt L = fun i => fy (bAt L i) from rfl] at p2
    have sub : ∀ p : Int → Bool, ∀ i, i ∈ l.filter p → InL L i := fun p i hi => hl i (List.mem_filter.1 hi).1
    have flen : ∀ p : Int → Bool, (l.filter p).length + (l.filter fun i => !p i).length = l.length := fun p => by
      clear hn hb h2 hbox p1 p2 sub hl
      induction l with
      | nil => rfl
      | cons x l ih => cases hp : p x <;> simp [hp] <;> omega
    have hX : ∀ e, (∃ q, q ∈ l.map (fun i => fx (bAt L i)) ∧ q.1 < e) → (∃ q, q ∈ l.map (fun i => fx (bAt L i)) ∧ ¬ q.1 < e) → (l.filter (befX L e)).length ≤ n ∧ (l.filter (behX L e)).length ≤ n := fun e ⟨q1, m1, t1⟩ ⟨q2, m2, t2⟩ => by
      obtain ⟨i1, n1, rfl⟩ := List.mem_map.1 m1
      obtain ⟨i2, n2, rfl⟩ := List.mem_map.1 m2
      have l1 := filter_lt (p := befX L e) ⟨i2, n2, decide_eq_false t2⟩
      have l2 := filter_lt (p := behX L e) ⟨i1, n1, by unfold behX; rw [decide_eq_true (show (bAt L i1).x < e from t1)]; rfl⟩
      omega
    have hY : ∀ e, (∃ q, q ∈ l.map (fun i => fy (bAt L i)) ∧ q.1 < e) → (∃ q, q ∈ l.map (fun i => fy (bAt L i)) ∧ ¬ q.1 < e) → (l.filter (befY L e)).length ≤ n ∧ (l.filter (behY L e)).length ≤ n := fun e ⟨q1, m1, t1⟩ ⟨q2, m2, t2⟩ => by
      obtain ⟨i1, n1, rfl⟩ := List.mem_map.1 m1
      obtain ⟨i2, n2, rfl⟩ := List.mem_map.1 m2
      have l1 := filter_lt (p := befY L e) ⟨i2, n2, decide_eq_false t2⟩
      have l2 := filter_lt (p := behY L e) ⟨i1, n1, by unfold behY; rw [decide_eq_true (show (bAt L i1).y < e from t1)]; rfl⟩
      omega
    have eord : ordI L gx gy (n + 1) l = if l.length < 2 then l
      else if (gapOf gx (l.map fun i => fx (bAt L i))).2 = 0 ∧ (gapOf gy (l.map fun i => fy (bAt L i))).2 = 0 then sortKey (kI L) l
      else if atG (gapOf gx (l.map fun i => fx (bAt L i))) (gapOf gy (l.map fun i => fy (bAt L i))) gx gy then
        ordI L gx gy n (l.filter (befX L (gapOf gx (l.map fun i => fx (bAt L i))).1)) ++ ordI L gx gy n (l.filter (behX L (gapOf gx (l.map fun i => fx (bAt L i))).1))
      else
        ordI L gx gy n (l.filter (befY L (gapOf gy (l.map fun i => fy (bAt L i))).1)) ++ ordI L gx gy n (l.filter (behY L (gapOf gy (l.map fun i => fy (bAt L i))).1)) := rfl
    rw [eord, if_neg h2]
    have hstep := readStep_ok L hL hLn gx gy hgx hgy l o hl h2 hb _ _ rfl rfl
    generalize gapOf gx (l.map fun i => fx (bAt L i)) = c at *
    generalize gapOf gy (l.map fun i => fy (bAt L i)) = r at *
    by_cases hz : c.2 = 0 ∧ r.2 = 0
    · rw [if_pos hz] at eord ⊢
      exact ⟨(sortKey_perm _ _).length_eq, hstep _ (fun _ => rfl) (fun h => absurd hz h) (fun h => absurd hz h)⟩
    rw [if_neg hz]
    by_cases hat : atG c r gx gy
    · rw [if_pos hat]
      obtain ⟨q1, q2, _⟩ := p1 (by unfold atG at hat; omega)
      obtain ⟨l1, l2⟩ := hX _ q1 q2
      have hf := flen (befX L c.1)
      rw [show (fun i => !befX L c.1 i) = behX L c.1 from rfl] at hf
      obtain ⟨a1, a2⟩ := read_ok L hL hLn gx gy hgx hgy n (l.filter (befX L c.1)) o l1 (sub _) (by omega)
      obtain ⟨b1, b2⟩ := read_ok L hL hLn gx gy hgx hgy n (l.filter (behX L c.1)) (o ++ ordI L gx gy n (l.filter (befX L c.1))) l2 (sub _) (by rw [List.length_append, a1]; omega)
      exact ⟨by rw [List.length_append, a1, b1]; exact hf, hstep _ (fun h => absurd h hz) (fun _ _ => ⟨_, _, rfl, a2, b2⟩) (fun _ h => absurd hat h)⟩
    · rw [if_neg hat]
      obtain ⟨q1, q2, _⟩ := p2 (by
        intro h0
        by_cases hc : c.2 = 0
        · exact hz ⟨hc, h0⟩
        · exact hat ⟨(p1 hc).2.2, .inl h0⟩)
      obtain ⟨l1, l2⟩ := hY _ q1 q2
      have hf := flen (befY L r.1)
      rw [show (fun i => !befY L r.1 i) = behY L r.1 from rfl] at hf
      obtain ⟨a1, a2⟩ := read_ok L hL hLn gx gy hgx hgy n (l.filter (befY L r.1)) o l1 (sub _) (by omega)
      obtain ⟨b1, b2⟩ := read_ok L hL hLn gx gy hgx hgy n (l.filter (behY L r.1)) (o ++ ordI L gx gy n (l.filter (befY L r.1))) l2 (sub _) (by rw [List.length_append, a1]; omega)
      exact ⟨by rw [List.length_append, a1, b1]; exact hf, hstep _ (fun h => absurd h hz) (fun _ h => absurd h hat) (fun _ _ => ⟨_, _, rfl, a2, b2⟩)⟩
end Go.Fv.U

/-! The order of reading: Order. The walk. -/
namespace Go.Fv.U
open Go Go.Proofs
set_option linter.unusedSimpArgs false
set_option linter.unusedVariables false
set_option linter.unnecessarySimpa false
set_option maxRecDepth 8000

def iotaI (n : Nat) : List Int := (List.range n).map fun i : Nat => (i : Int)
def fillI (n k : Nat) : List Int := (List.range n).map fun i : Nat => if i < k then (i : Int) else 0
theorem fillI_len (n k : Nat) : (fillI n k).length = n := by simp [fillI]
theorem fillI_zero (n : Nat) : fillI n 0 = List.replicate n 0 := by
  unfold fillI
  refine List.eq_replicate_iff.2 ⟨by simp, fun b hb => ?_⟩
  obtain ⟨i, _, rfl⟩ := List.mem_map.1 hb
  exact if_neg (by omega)
theorem fillI_all (n : Nat) : fillI n n = iotaI n := by
  unfold fillI iotaI
  exact List.map_congr_left fun i hi => if_pos (List.mem_range.1 hi)
theorem fillI_set {n k : Nat} (h : k < n) : (fillI n k).set k (k : Int) = fillI n (k + 1) := by
  unfold fillI
  apply List.ext_getElem
  · simp
  · intro i h1 h2
    rw [List.getElem_set, List.getElem_map, List.getElem_map, List.getElem_range]
    by_cases e : k = i
    · subst e; rw [if_pos rfl, if_pos (by omega)]
    · rw [if_neg e]
      by_cases hi : i < k
      · rw [if_pos hi, if_pos (by omega)]
      · rw [if_neg hi, if_neg (by omega)]
theorem iotaI_mem {L : List Bx} : ∀ i, i ∈ iotaI L.length → InL L i := fun i hi => by
  unfold iotaI at hi
  obtain ⟨j, hj, rfl⟩ := List.mem_map.1 hi
  have := List.mem_range.1 hj
  unfold InL; omega
theorem iotaI_len (n : Nat) : (iotaI n).length = n := by simp [iotaI]
/-- The order of reading of boxes: their numbers. -/
def ordOf (L : List Bx) (gx gy : Int) : List Int := ordI L gx gy L.length (iotaI L.length)
def ordErr (L : List Bx) (gx gy : Int) : Int := if 5000 < L.length then 4 else if firstBad L ≠ 0 then firstBad L else if [gx, gy].any gapBad = true then 3 else 0
set_option maxHeartbeats 2000000 in
theorem orderE_ok (L : List Bx) (gx gy : Int) (he : ordErr L gx gy ≠ 0) : FnOk Tryz.prog 24 [.ro (bxs L), .int .i64 gx, .int .i64 gy] (.tup [.own 0, .int .i64 (ordErr L gx gy)]) [(0, .row 3 (.ints .i64 []))] := by
  have k1 := checkList_ok L
  have k2 := badGap_ok [gx, gy] (by show 2 ≤ 1000; decide)
  by_cases h1 : (if 5000 < L.length then (4 : Int) else firstBad L) = 0
  · have h3 : ¬ 5000 < L.length := fun h => by rw [if_pos h] at h1; exact absurd h1 (by decide)
    rw [if_neg h3] at h1 k1
    have hg : [gx, gy].any gapBad = true := by
      cases hg : [gx, gy].any gapBad with
      | true => rfl
      | false => exact absurd (by unfold ordErr; rw [if_neg h3, if_neg (by omega), hg]; rfl) he
    have e : ordErr L gx gy = 3 := by unfold ordErr; rw [if_neg h3, if_neg (by omega), hg]; rfl
    rw [e]
    rw [h1] at k1
    rw [hg] at k2
    refine FnOk.of_vc Tryz.func24 rfl (by decide) (by simp [Tryz.f24]) [.tmp 6, .tmp 7] rfl fun w0 T0 _ => ?_
    simp only [Tryz.f24, argEnv]
    (repeat' first | with_reducible (first | intro _ | refine rc ?_ | refine rl ?_ | refine rh ?_ | refine rt ?_ | refine rf ?_ | refine rs ?_ | refine And.intro ?_ ?_) | omega | simp (maxSteps := 1000000) only [go_sem, simprocAttr, ↓reduceIte])
    refine VcCall.k (k1) ?_
    (repeat' first | with_reducible (first | intro _ | refine rc ?_ | refine rl ?_ | refine rh ?_ | refine rt ?_ | refine rf ?_ | refine rs ?_ | refine And.intro ?_ ?_) | omega | simp (maxSteps := 1000000) only [go_sem, simprocAttr, ↓reduceIte])
    refine VcCall.k (k2) ?_
    (repeat' first | with_reducible (first | intro _ | refine rc ?_ | refine rl ?_ | refine rh ?_ | refine rt ?_ | refine rf ?_ | refine rs ?_ | refine And.intro ?_ ?_) | omega | simp (maxSteps := 1000000) only [go_sem, simprocAttr, ↓reduceIte])
    refine Ret.auto 1 ?_ rfl ?_ <;> simp only [go_sem, reduceCtorEq, reduceIte, Nat.reduceEqDiff, Nat.reduceLT, Nat.reduceLeDiff, Int.natCast_succ, Post, zrow]
  · have e : ordErr L gx gy = if 5000 < L.length then (4 : Int) else firstBad L := by
      unfold ordErr
      by_cases h3 : 5000 < L.length
      · rw [if_pos h3, if_pos h3]
      · rw [if_neg h3, if_neg h3] at *
        rw [if_pos h1]
    rw [← e] at k1 h1
    generalize ordErr L gx gy = E at *
    refine FnOk.of_vc Tryz.func24 rfl (by decide) (by simp [Tryz.f24]) [.tmp 6, .tmp 7] rfl fun w0 T0 _ => ?_
    simp only [Tryz.f24, argEnv]
    (repeat' first | with_reducible (first | intro _ | refine rc ?_ | refine rl ?_ | refine rh ?_ | refine rt ?_ | refine rf ?_ | refine rs ?_ | refine And.intro ?_ ?_) | omega | simp (maxSteps := 1000000) only [go_sem, simprocAttr, ↓reduceIte])
    refine VcCall.k (k1) ?_
    (repeat' first | with_reducible (first | intro _ | refine rc ?_ | refine rl ?_ | refine rh ?_ | refine rt ?_ | refine rf ?_ | refine rs ?_ | refine And.intro ?_ ?_) | omega | simp (maxSteps := 1000000) only [go_sem, simprocAttr, ↓reduceIte])
    refine Ret.auto 1 ?_ rfl ?_ <;> simp only [go_sem, reduceCtorEq, reduceIte, Nat.reduceEqDiff, Nat.reduceLT, Nat.reduceLeDiff, Int.natCast_succ, Post, zrow]
set_option maxHeartbeats 4000000 in
theorem order_ok (L : List Bx) (hL : ∀ b, b ∈ L → BxOk b) (hf : firstBad L = 0) (hLn : L.length ≤ 3000) (gx gy : Int) (hgx : 1 ≤ gx ∧ gx ≤ 4000) (hgy : 1 ≤ gy ∧ gy ≤ 4000) :
    FnOk Tryz.prog 24 [.ro (bxs L), .int .i64 gx, .int .i64 gy] (.tup [.own 0, .int .i64 0]) [(0, .row 3 (.ints .i64 (ordOf L gx gy)))] := by
  have k1 := checkList_ok L
  rw [if_neg (show ¬ 5000 < L.length by omega), hf] at k1
  have k2 := badGap_ok [gx, gy] (by show 2 ≤ 1000; decide)
  rw [show [gx, gy].any gapBad = false by simp [gapBad]; omega] at k2
  have kR := (read_ok L hL (by omega) gx gy hgx hgy L.length (iotaI L.length) [] (by rw [iotaI_len]; exact Nat.le_refl _) iotaI_mem (by rw [iotaI_len]; simp; omega)).2
  unfold ordOf
  generalize ordI L gx gy L.length (iotaI L.length) = R at *
  unfold OrdIO at kR
  rw [List.nil_append] at kR
  refine FnOk.of_vc Tryz.func24 rfl (by decide) (by simp [Tryz.f24]) [.tmp 6, .tmp 7] rfl fun w0 T0 _ => ?_
  simp only [Tryz.f24, argEnv]
  (repeat' first | with_reducible (first | intro _ | refine rc ?_ | refine rl ?_ | refine rh ?_ | refine rt ?_ | refine rf ?_ | refine rs ?_ | refine And.intro ?_ ?_) | omega | simp (maxSteps := 1000000) only [go_sem, simprocAttr, ↓reduceIte])
  refine VcCall.k (k1) ?_
  (repeat' first | with_reducible (first | intro _ | refine rc ?_ | refine rl ?_ | refine rh ?_ | refine rt ?_ | refine rf ?_ | refine rs ?_ | refine And.intro ?_ ?_) | omega | simp (maxSteps := 1000000) only [go_sem, simprocAttr, ↓reduceIte])
  refine VcCall.k (k2) ?_
  (repeat' first | with_reducible (first | intro _ | refine rc ?_ | refine rl ?_ | refine rh ?_ | refine rt ?_ | refine rf ?_ | refine rs ?_ | refine And.intro ?_ ?_) | omega | simp (maxSteps := 1000000) only [go_sem, simprocAttr, ↓reduceIte, List.length_map])
  refine VcLoop.run (fun k : Nat => ⟨40, [(28, .int .i64 k), (27, .int .i64 L.length), (26, .own 6), (11, .own 6), (10, .ptr 4 0), (9, .ptr 0 0)], [(0, .box 81 [.own 5]), (1, .box 77 [.ro (bxs L)]), (2, .box 3 [.int .i64 gx]), (3, .box 3 [.int .i64 gy]), (4, .box 154 [.fn 68 [.ptr 0 0, .ptr 1 0, .ptr 2 0, .ptr 3 0, .ptr 4 0]]), (5, .row 3 (.ints .i64 [])), (6, .row 3 (.ints .i64 (fillI L.length k)))], 7⟩) (fun k => k ≤ L.length) (fun k => L.length - k) 0 ?_ (Nat.zero_le _) fun k hk => ?_
  · refine Ent.trans (Ent.nilBox (P := Tryz.prog) 5 0 3 e3 rfl rfl) (Ent.auto0 rfl ?_ ?_) <;> simp only [go_sem, reduceCtorEq, reduceIte, Nat.reduceEqDiff, Nat.reduceLT, Nat.reduceLeDiff, Int.natCast_succ, zrow, put, List.set_cons_zero, List.range_zero, List.map_nil, List.replicate_zero, fillI_zero]
  by_cases hlt : k < L.length
  · have hs := fillI_set hlt
    have hfl := fillI_len L.length k
    generalize fillI L.length k = A at *
    refine VcRun.of ?_
    (repeat' first | with_reducible (first | intro _ | refine rc ?_ | refine rl ?_ | refine rh ?_ | refine rt ?_ | refine rf ?_ | refine rs ?_ | refine And.intro ?_ ?_) | omega | simp (maxSteps := 1000000) only [go_sem, simprocAttr, ↓reduceIte, Int.toNat_natCast])
    refine ⟨k + 1, Ent.auto0 rfl ?_ ?_, by omega, by omega⟩ <;> simp only [go_sem, reduceCtorEq, reduceIte, Nat.reduceEqDiff, Nat.reduceLT, Nat.reduceLeDiff, Int.natCast_succ, hs]
  · have e : k = L.length := by omega
    subst e
    rw [fillI_all]
    refine VcRun.ent (Ent.trans (Ent.fz 6 (e := 3) (r := .ints .i64 (iotaI L.length)) rfl rfl (Nat.zero_le _)) (Ent.auto0 (s' := ⟨40, [(28, .int .i64 L.length), (27, .int .i64 L.length), (11, .ro (.ints .i64 (iotaI L.length))), (10, .ptr 4 0), (9, .ptr 0 0)], [(0, .box 81 [.own 5]), (1, .box 77 [.ro (bxs L)]), (2, .box 3 [.int .i64 gx]), (3, .box 3 [.int .i64 gy]), (4, .box 154 [.fn 68 [.ptr 0 0, .ptr 1 0, .ptr 2 0, .ptr 3 0, .ptr 4 0]]), (5, .row 3 (.ints .i64 []))], 6⟩) rfl ?_ ?_)) (VcRun.of ?_)
    · simp only [go_sem, reduceCtorEq, reduceIte, Nat.reduceEqDiff, Nat.reduceLT, Nat.reduceLeDiff, Int.natCast_succ]
    · simp only [go_sem, reduceCtorEq, reduceIte, Nat.reduceEqDiff, Nat.reduceLT, Nat.reduceLeDiff, Int.natCast_succ]
    (repeat' first | with_reducible (first | intro _ | refine rc ?_ | refine rl ?_ | refine rh ?_ | refine rt ?_ | refine rf ?_ | refine rs ?_ | refine And.intro ?_ ?_) | omega | simp (maxSteps := 1000000) only [go_sem, simprocAttr, ↓reduceIte])
    refine VcCall.io [0, 1, 2, 3, 4, 5] kR (by decide) (by simp [renL, ren, ioN]) rfl (by simp [subOk, ioN, lk, Item.ren, Item.below, ren, renL, belowL, Fv.below, renR_ok, belowR_ok]) covO6 7 (by decide) rfl (by simp [rowsB, Item.below, Fv.below, belowL, belowR_ok]) ?_
    (repeat' first | with_reducible (first | intro _ | refine rc ?_ | refine rl ?_ | refine rh ?_ | refine rt ?_ | refine rf ?_ | refine rs ?_ | refine And.intro ?_ ?_) | omega | simp (maxSteps := 1000000) only [go_sem, simprocAttr, ↓reduceIte, S.ioS, ioRows, ioN, delL, Item.ren, ren, renL, renR_ok, List.length_cons, List.length_nil, List.getElem?_cons_zero, List.getElem?_cons_succ, List.getElem?_nil, List.cons_append, List.nil_append, Nat.sub_self, Nat.add_zero, List.filter])
    refine Ret.auto 1 ?_ rfl ?_ <;> simp only [go_sem, reduceCtorEq, reduceIte, Nat.reduceEqDiff, Nat.reduceLT, Nat.reduceLeDiff, Int.natCast_succ, Post, renR_ok, belowR_ok]
end Go.Fv.U

/- What an order holds, and that it does not hang on the boxes' order. -/
namespace Go.Fv.U
open Go Go.Proofs
set_option linter.unusedSimpArgs false
set_option linter.unusedVariables false
set_option linter.unnecessarySimpa false
set_option maxRecDepth 8000

theorem ordOf_len (T : List Bx) (hb : ∀ b, b ∈ T → BxOk b) (hn : T.length ≤ 3000) (gx gy : Int) (hgx : 1 ≤ gx ∧ gx ≤ 4000) (hgy : 1 ≤ gy ∧ gy ≤ 4000) : (ordOf T gx gy).length = T.length := by
  have h := (read_ok T hb (by omega) gx gy hgx hgy T.length (iotaI T.length) [] (by rw [iotaI_len]; exact Nat.le_refl _) iotaI_mem (by rw [iotaI_len]; simp; omega)).1
  rw [iotaI_len] at h
  exact h
theorem ordGo_mem {τ : Type} (b : τ → Bx) (srt : List τ → List τ) (hs : ∀ l x, x ∈ srt l → x ∈ l) (gx gy : Int) : ∀ (n : Nat) (l : List τ) (x : τ), x ∈ ordGo b srt gx gy n l → x ∈ l
  | 0, l, x, h => h
  | n + 1, l, x, h => by
    have ih := ordGo_mem b srt hs gx gy n
    unfold ordGo at h
    split at h
    · exact h
    · split at h
      · exact hs l x h
      · split at h <;> (rcases List.mem_append.1 h with h | h <;> exact (List.mem_filter.1 (ih _ x h)).1)
theorem ordOf_mem (T : List Bx) (gx gy : Int) : ∀ i, i ∈ ordOf T gx gy → InL T i := fun i hi =>
  iotaI_mem i (ordGo_mem _ _ (fun l x h => (sortKey_perm _ l).mem_iff.1 h) gx gy _ _ i hi)
theorem turn_seq (T : List Bx) (gx gy : Int) (hgx : 1 ≤ gx) (hgy : 1 ≤ gy) (hb : ∀ b, b ∈ T → BxOk b) (M : List Bx) (hM : M.Perm T) : (ordOf T gx gy).map (bAt T) = (ordOf M gx gy).map (bAt M) := by
  have hiot : ∀ S : List Bx, (iotaI S.length).map (bAt S) = S := fun S => by
    apply List.ext_getElem
    · simp [iotaI]
    · intro i h1 h2
      rw [List.getElem_map]
      unfold iotaI
      rw [List.getElem_map, List.getElem_range]
      unfold bAt
      rw [Int.toNat_natCast, getD_lt h2]
  unfold ordOf
  rw [ord_map, ord_map, hiot, hiot, hM.length_eq]
  exact (ordB_perm hgx hgy _ hM (fun b h => by
    have := hb b (hM.mem_iff.1 h)
    unfold BxOk at this; omega) (by rw [hM.length_eq]; exact Nat.le_refl _)).symm
theorem rem_bd (t : Int) (n : Nat) (hn : 1 ≤ n) : ∃ (q : Int) (k : Nat), Int.tmod t n = q ∧ (-(n : Int) < q ∧ q < n) ∧ Int.tmod (q + n) n = k ∧ k < n := by
  have h1 := Int.tmod_lt_of_pos t (show (0 : Int) < n by omega)
  have h2 : -(n : Int) < Int.tmod t n := by
    have := Int.tmod_lt_of_pos (-t) (show (0 : Int) < n by omega)
    rw [Int.neg_tmod] at this
    omega
  have h3 := Int.tmod_nonneg (n : Int) (show (0 : Int) ≤ Int.tmod t n + n by omega)
  have h4 := Int.tmod_lt_of_pos (Int.tmod t n + n) (show (0 : Int) < n by omega)
  exact ⟨_, (Int.tmod (Int.tmod t n + n) n).toNat, rfl, ⟨h2, h1⟩, by omega, by omega⟩
end Go.Fv.U

/- Sums of ink of blocks, lines and words. Plain law. -/
namespace Go.Fv.U
open Go
set_option linter.unusedSimpArgs false
set_option linter.unusedVariables false

def sI (p : List Bool) (w : Nat) (l : List Nb) : Nat := (l.map (inkB p w)).sum
theorem sI_app (p : List Bool) (w : Nat) (a b : List Nb) : sI p w (a ++ b) = sI p w a + sI p w b := by simp [sI]
theorem sI_take (p : List Bool) (w : Nat) {l : List Nb} {k : Nat} (h : k < l.length) : sI p w (l.take (k + 1)) = sI p w (l.take k) + inkB p w (l.getD k Nb.zero) := by
  rw [List.take_succ_eq_append_getElem h, sI_app, getD_lt h]; simp [sI]
theorem sI_le (p : List Bool) (w : Nat) (l : List Nb) (k : Nat) : sI p w (l.take k) ≤ sI p w l := by
  have := sI_app p w (l.take k) (l.drop k)
  rw [List.take_append_drop] at this
  omega
def linesB (l : List Bk) : List Nb := l.flatMap fun b => b.ls.map Ln.b
theorem linesB_succ {l : List Bk} {k : Nat} (h : k < l.length) : linesB (l.take (k + 1)) = linesB (l.take k) ++ (l.getD k Bk.zero).ls.map Ln.b := by
  unfold linesB
  rw [List.take_succ_eq_append_getElem h, getD_lt h, List.flatMap_append]; simp
theorem linesB_all (l : List Bk) (k : Nat) : linesB l = linesB (l.take k) ++ linesB (l.drop k) := by
  unfold linesB; rw [← List.flatMap_append, List.take_append_drop]
theorem flatB_all (l : List Bk) (k : Nat) : flatB l = flatB (l.take k) ++ flatB (l.drop k) := by
  unfold flatB; rw [← List.flatMap_append, List.take_append_drop]
section
variable (p : List Bool) (w h gx gy line word : Nat)
theorem blocks_cuts : Cuts p w ⟨0, 0, w, h⟩ ((layL p w h gx gy line word).map Bk.b) := by
  have e : (layL p w h gx gy line word).map Bk.b = cutL p w gx gy (w + h + 1) ⟨0, 0, w, h⟩ := by
    unfold layL
    rw [List.map_map]
    conv => rhs; rw [← List.map_id (cutL p w gx gy (w + h + 1) ⟨0, 0, w, h⟩)]
    rfl
  rw [e]
  exact cutL_spec p w gx gy (w + h + 1) ⟨0, 0, w, h⟩ (by dsimp only; omega)
theorem lines_cuts : Cuts p w ⟨0, 0, w, h⟩ (linesB (layL p w h gx gy line word)) := by
  have e : linesB (layL p w h gx gy line word) = (cutL p w gx gy (w + h + 1) ⟨0, 0, w, h⟩).flatMap (blockLines p w line) := by
    unfold linesB layL
    rw [List.flatMap_map]
    congr 1
    funext b
    unfold layBk
    dsimp only
    rw [List.map_map]
    conv => rhs; rw [← List.map_id (blockLines p w line b)]
    rfl
  rw [e]
  exact Cuts.flat p w _ (cutL_spec p w gx gy (w + h + 1) ⟨0, 0, w, h⟩ (by dsimp only; omega)) fun b hb => rows_cuts p w b line
end
/-- What the walk needs of a layout. -/
structure LayOk (p : List Bool) (w h : Nat) (B : List Bk) : Prop where
  b : Cuts p w ⟨0, 0, w, h⟩ (B.map Bk.b)
  l : Cuts p w ⟨0, 0, w, h⟩ (linesB B)
  f : Cuts p w ⟨0, 0, w, h⟩ (flatB B)
theorem layOk (p : List Bool) (w h gx gy line word : Nat) : LayOk p w h (layL p w h gx gy line word) := ⟨blocks_cuts p w h gx gy line word, lines_cuts p w h gx gy line word, flat_cuts p w h gx gy line word⟩
theorem cuts_sum {p : List Bool} {w h : Nat} {l : List Nb} (hc : Cuts p w ⟨0, 0, w, h⟩ l) : sI p w l = inkN p w 0 0 w h := hc.sum
/-- Boxes of the page as boxes of whole numbers. -/
def bxN (b : Nb) : Bx := ⟨b.x, b.y, b.w, b.h⟩
theorem nbs_bxs (l : List Nb) : l.map Nb.av = (l.map bxN).map Bx.av := by rw [List.map_map]; rfl
theorem bxN_ok {p : List Bool} {w h : Nat} (hw : w ≤ 32) (hh : h ≤ 32) {l : List Nb} (hc : Cuts p w ⟨0, 0, w, h⟩ l) : ∀ b, b ∈ l.map bxN → BxOk b := fun b hb => by
  obtain ⟨x, hx, rfl⟩ := List.mem_map.1 hb
  have h1 := hc.part x hx
  have h2 := ink_w p w (hc.ink x hx)
  have h3 := ink_h p w (hc.ink x hx)
  unfold PartOf at h1
  unfold BxOk bxN
  dsimp only at *
  omega
/-- The pieces of a page without its specks are no specks. -/
theorem pieces_least (w h : Nat) (p : List Bool) (hp : p.length = w * h) (least : Nat) : ∀ c, c ∈ (pieces ⟨spk w h p least, w, h, true, true⟩).map (pcOf w h) → (least : Int) ≤ c.n := fun c hc => by
  obtain ⟨l, hl, rfl⟩ := List.mem_map.1 hc
  have := no_speck w h true p hp ((least : Int) - 1) (spk w h p least) rfl l hl
  show (least : Int) ≤ (l.length : Int)
  omega
theorem pieces_ink (w h : Nat) (q : List Bool) (hq : q.length = w * h) : cntL ((pieces ⟨q, w, h, true, true⟩).map (pcOf w h)) = (inkN q w 0 0 w h : Nat) := by
  rw [cnt_pcs, pieces_sum ⟨q, w, h, true, true⟩ hq, ink_whole q w h hq]
theorem pc_takeI {l : List Pc} {k : Nat} (h : k < l.length) : cntL (l.take (k + 1)) = cntL (l.take k) + (l.getD k Pc.zero).n := by
  unfold cntL
  rw [List.take_succ_eq_append_getElem h, getD_lt h, List.map_append, List.sum_append]
  simp
theorem cnt_le {l : List Pc} (h : ∀ c, c ∈ l → 0 ≤ c.n) (k : Nat) : 0 ≤ cntL (l.take k) ∧ cntL (l.take k) ≤ cntL l := by
  have h0 : ∀ l : List Pc, (∀ c, c ∈ l → 0 ≤ c.n) → 0 ≤ cntL l := fun l hl => by
    induction l with
    | nil => exact Int.le_refl _
    | cons c l ih =>
      have e : cntL (c :: l) = c.n + cntL l := by simp [cntL]
      have := hl c List.mem_cons_self
      have := ih fun d hd => hl d (List.mem_cons_of_mem _ hd)
      omega
  have e : cntL l = cntL (l.take k) + cntL (l.drop k) := by
    unfold cntL
    rw [← List.sum_append, ← List.map_append, List.take_append_drop]
  have h1 := h0 (l.take k) fun c hc => h c (List.mem_of_mem_take hc)
  have h2 := h0 (l.drop k) fun c hc => h c (List.mem_of_mem_drop hc)
  omega
end Go.Fv.U

/- Pages, as data. -/
namespace Go.Fv.U
open Go Go.Proofs
set_option linter.unusedSimpArgs false
set_option linter.unusedVariables false

structure Pg where
  W : Int
  H : Int
  p : List Bool
def Pg.av (s : Pg) : List AV := [.int .i64 s.W, .int .i64 s.H, .ro (.bools s.p)]
def Pg.zero : Pg := ⟨0, 0, []⟩
instance : FNoId Pg.av := ⟨fun _ => rfl⟩
end Go.Fv.U

/- The page that bedtop makes of a raw one. -/
namespace Go.Fv.U
open Go Go.Proofs
set_option linter.unusedSimpArgs false
set_option linter.unusedVariables false
set_option linter.unnecessarySimpa false
set_option maxRecDepth 8000

theorem landedT_ok : FnOk Tryz.prog 6 [] (.bool true) [] := by
  refine FnOk.of_vc Tryz.func6 rfl (by decide) (by simp [Tryz.f6]) [.tmp 0] rfl fun w0 T0 _ => ?_
  simp only [Tryz.f6, argEnv]
  simp (maxSteps := 1000000) only [go_sem, simprocAttr, ↓reduceIte]
  refine VcCall.fr (args' := [.str [97]]) (FnFr.of_ok isName_a rfl rfl) (by simp [argOkL, allOk, argOkN]) 0 rfl (by simp [rowsB]) ?_
  simp (maxSteps := 1000000) only [go_sem, simprocAttr, ↓reduceIte]
  refine Ret.auto 0 ?_ rfl ?_ <;> simp only [go_sem, reduceCtorEq, reduceIte, Nat.reduceEqDiff, Nat.reduceLT, Nat.reduceLeDiff, Int.natCast_succ, Post]
theorem and_bd2 (a : Int) : 0 ≤ bitsI .and .i64 a 31 ∧ bitsI .and .i64 a 31 ≤ 31 := by
  obtain ⟨h1, h2, h3⟩ := (show 1 ≤ fitN a 31 ∧ fitN a 31 ≤ 32 ∧ 1 + bitsI .and .i64 a 31 = ((fitN a 31 : Nat) : Int) from fitN_bd a 31 (by decide))
  omega
def shB (p : List Bool) (n : Nat) : List Bool := (List.range n).map fun k => decide (0 < p.length) && p.getD (k % p.length) false
theorem shB_succ (p : List Bool) (n : Nat) : shB p (n + 1) = shB p n ++ [decide (0 < p.length) && p.getD (n % p.length) false] := by
  simp [shB, List.range_succ]
theorem shB_len (p : List Bool) (n : Nat) : (shB p n).length = n := by simp [shB]
set_option maxHeartbeats 4000000 in
theorem sheetOf_ok (x : Pg) : FnOk Tryz.prog 17 [.agg x.av] (.agg [.int .i64 (fitN x.W 31), .int .i64 (fitN x.H 31), .own 0]) [(0, .row 4 (.bools (shB x.p (fitN x.W 31 * fitN x.H 31))))] := by
  obtain ⟨W, H, p⟩ := x
  obtain ⟨w1, w2, w3⟩ := (show 1 ≤ fitN W 31 ∧ fitN W 31 ≤ 32 ∧ 1 + bitsI .and .i64 W 31 = ((fitN W 31 : Nat) : Int) from fitN_bd W 31 (by decide))
  obtain ⟨h1, h2, h3⟩ := (show 1 ≤ fitN H 31 ∧ fitN H 31 ≤ 32 ∧ 1 + bitsI .and .i64 H 31 = ((fitN H 31 : Nat) : Int) from fitN_bd H 31 (by decide))
  have b1 := and_bd2 W
  have b2 := and_bd2 H
  unfold Pg.av
  dsimp only
  generalize fitN W 31 = w at *
  generalize fitN H 31 = h at *
  have hA : w * h ≤ 32 * 32 := Nat.mul_le_mul w2 h2
  have hM : (w : Int) * (h : Int) = ((w * h : Nat) : Int) := by simp
  generalize w * h = A at *
  refine FnOk.of_vc Tryz.func17 rfl (by decide) (by simp [Tryz.f17]) [.cell 2 53] rfl fun w0 T0 _ => ?_
  simp only [Tryz.f17, argEnv]
  (repeat' first | with_reducible (first | intro _ | refine rc ?_ | refine rl ?_ | refine rh ?_ | refine rt ?_ | refine rf ?_ | refine rs ?_ | refine And.intro ?_ ?_) | omega | simp (maxSteps := 1000000) only [go_sem, simprocAttr, ↓reduceIte, w3, h3, hM])
  refine VcLoop.intro (fun i : Nat => ⟨44, [(19, .int .i64 i), (18, .int .i64 A), (3, .ptr 2 0), (2, .ptr 1 0), (1, .ptr 0 0)], [(0, .box 53 [.int .i64 W, .int .i64 H, .ro (.bools p)]), (1, .box 53 [.int .i64 0, .int .i64 0, .nilS]), (2, .box 53 [.int .i64 w, .int .i64 h, .own 3]), (3, .row 4 (.bools (shB p i)))], 4⟩) (fun i => i ≤ A) (fun i => A - i) 0 ?_ (Nat.zero_le _) fun i hi => ?_
  · refine Ent.trans (Ent.nilBox (P := Tryz.prog) 2 2 4 e4 rfl rfl) (Ent.auto0 rfl ?_ ?_) <;> simp only [go_sem, reduceCtorEq, reduceIte, Nat.reduceEqDiff, Nat.reduceLT, Nat.reduceLeDiff, Int.natCast_succ, shB, zrow, put, List.set_cons_zero, List.set_cons_succ, List.range_zero, List.map_nil, List.replicate_zero]
  by_cases hlt : i < A
  · have hs := shB_succ p i
    have hl := shB_len p i
    have hm := Nat.mod_lt i (y := p.length)
    (repeat' first | with_reducible (first | intro _ | refine rc ?_ | refine rl ?_ | refine rh ?_ | refine rt ?_ | refine rf ?_ | refine rs ?_ | refine And.intro ?_ ?_) | omega | simp (maxSteps := 1000000) only [go_sem, simprocAttr, ↓reduceIte])
    refine VcDraw.lex [17, 18, 20] [(0, [1]), (1, [1])] (by kernel_rfl) (by kernel_rfl) ?_
    by_cases hp : 0 < p.length
    · have hp' : (0 : Int) < p.length := by omega
      have hm := hm hp
      rw [decide_eq_true hp, Bool.true_and] at hs
      (repeat' first | with_reducible (first | intro _ | refine rc ?_ | refine rl ?_ | refine rh ?_ | refine rt ?_ | refine rf ?_ | refine rs ?_ | refine And.intro ?_ ?_) | omega | simp (maxSteps := 1000000) only [go_sem, simprocAttr, ↓reduceIte, hp', up_tmod, Int.toNat_natCast])
      refine ⟨i + 1, Ent.auto0 rfl ?_ ?_, by omega, by omega⟩ <;> simp only [go_sem, reduceCtorEq, reduceIte, Nat.reduceEqDiff, Nat.reduceLT, Nat.reduceLeDiff, Int.natCast_succ, hs]
      all_goals rfl
    · have hp' : ¬ (0 : Int) < p.length := by omega
      rw [decide_eq_false hp, Bool.false_and] at hs
      (repeat' first | with_reducible (first | intro _ | refine rc ?_ | refine rl ?_ | refine rh ?_ | refine rt ?_ | refine rf ?_ | refine rs ?_ | refine And.intro ?_ ?_) | omega | simp (maxSteps := 1000000) only [go_sem, simprocAttr, ↓reduceIte, hp', up_tmod, Int.toNat_natCast])
      refine ⟨i + 1, Ent.auto0 rfl ?_ ?_, by omega, by omega⟩ <;> simp only [go_sem, reduceCtorEq, reduceIte, Nat.reduceEqDiff, Nat.reduceLT, Nat.reduceLeDiff, Int.natCast_succ, hs]
      all_goals rfl
  · have e : i = A := by omega
    subst e
    (repeat' first | with_reducible (first | intro _ | refine rc ?_ | refine rl ?_ | refine rh ?_ | refine rt ?_ | refine rf ?_ | refine rs ?_ | refine And.intro ?_ ?_) | omega | simp (maxSteps := 1000000) only [go_sem, simprocAttr, ↓reduceIte])
    refine Ret.auto 1 ?_ rfl ?_ <;> simp only [go_sem, reduceCtorEq, reduceIte, Nat.reduceEqDiff, Nat.reduceLT, Nat.reduceLeDiff, Int.natCast_succ, Post, List.drop_zero]
end Go.Fv.U

/- slices.Concat of two rows of boxes: the room by the shelf's contract of slices.Grow. -/
namespace Go.Proofs
open Go.Shelf
def Tryz.lGrow_ren : Go.Shelf.Ren := ⟨fun | 4 => 82 | n => n, fun | 22 => 77 | 25 => 65 | 3 => 3 | 4 => 4 | 9 => 9 | 20 => 20 | 0 => 0 | n => n, fun | n => n⟩
theorem Tryz.lGrow : Go.Proofs.Lays8.n4 Tryz.prog Tryz.lGrow_ren := {
  mixed := by kernel_rfl
  f4 := ⟨Tryz.f82.name, by decide, Tryz.func82.trans (congrArg some (by kernel_rfl))⟩
  t0 := Tryz.underlying0
  a0 := Tryz.isAgg0
  z0 := Tryz.sizeOf0
  v0 := Tryz.zeroValue0
  t3 := Tryz.underlying3
  a3 := Tryz.isAgg3
  z3 := Tryz.sizeOf3
  v3 := Tryz.zeroValue3
  t4 := Tryz.underlying4
  a4 := Tryz.isAgg4
  z4 := Tryz.sizeOf4
  v4 := Tryz.zeroValue4
  t9 := Tryz.underlying9
  a9 := Tryz.isAgg9
  z9 := Tryz.sizeOf9
  v9 := Tryz.zeroValue9
  t20 := Tryz.underlying20
  a20 := Tryz.isAgg20
  z20 := Tryz.sizeOf20
  v20 := Tryz.zeroValue20
  t22 := Tryz.underlying77
  a22 := Tryz.isAgg77
  z22 := Tryz.sizeOf77
  v22 := Tryz.zeroValue77 }
end Go.Proofs
namespace Go.Fv.U
open Go Go.Proofs Go.RowKit
set_option linter.unusedSimpArgs false
set_option linter.unusedVariables false
set_option linter.unnecessarySimpa false
set_option maxRecDepth 8000

theorem growNil_ok (n : Nat) (hn : n ≤ 100000) : FnOk Tryz.prog 82 [.nilS, .int .i64 n] (.own 0) [(0, .row 65 (.objs 4 []))] := by
  refine ⟨⟨_, Tryz.func82, by kernel_rfl, by kernel_rfl⟩, fun w T vals hg hv => ?_⟩
  cases hv with
  | cons _ _ _ _ h1 hv =>
  cases hv with
  | cons _ _ _ _ h2 hv =>
  cases hv
  cases h1
  cases h2
  have hone : ∀ (w' : World) (T' : Nat → Prop) (m : Nat → Value) (v : Value), ownsM w' 65 4 v 0 [] → m 0 = v → BelowD w.heap.size w w' → (∀ b, blk v = some b → w.heap.size ≤ b) → OutOk T w.heap.size w' (.own 0) [(0, .row 65 (.objs 4 []))] v := fun w' T' m v ho hm hb hbl => by
    refine ⟨fun _ => v, 1, .own 0 (by show 0 < 1; decide) (by rcases ho.2 with ⟨h, _⟩ | ⟨_, _, _, _, h, _⟩ <;> rw [h] <;> rfl), fun i it hi => ?_, fun i j it jt b hi hj _ _ => ?_⟩
    · have hi0 : i = 0 := by
        simp only [lk] at hi
        split at hi
        · rename_i h; exact h.symm
        · cases hi
      subst hi0
      have : it = Item.row 65 (.objs 4 []) := by simp [lk] at hi; exact hi.symm
      subst this
      exact ⟨by decide, 0, [], .objs 4 [] [] (by decide) (.nil 4), rfl, ho, hbl⟩
    · have aux : ∀ q x, lk [(0, Item.row 65 (.objs 4 []))] q = some x → q = 0 := by
        intro q x hq
        simp only [lk] at hq
        split at hq
        · rename_i h; exact h.symm
        · cases hq
      rw [aux i it hi, aux j jt hj]
  by_cases h0 : n = 0
  · subst h0
    refine (Any8.slices_Grow_room Tryz.lGrow none 0 0 0 w (by decide) (by decide) (by decide) (by decide)).mono ?_
    rintro e w' ⟨rfl, rfl⟩
    exact ⟨_, rfl, BelowD.refl _ _, hone w' (fun _ => False) (fun _ => .slice none 0 0) _ ⟨rfl, .inl ⟨rfl, rfl⟩⟩ rfl (BelowD.refl _ _) (fun b hb => by cases hb)⟩
  · obtain ⟨i0, hi0, hz0, hs0, hb0⟩ := e65.ex
    have hsz : i0.size = 4 := hs0
    refine (Any8.slices_Grow_grow Tryz.lGrow i0 _ hi0 hz0 (by omega) none 0 0 n [] w (by decide) (by omega) (by
      have : (0 + n) * i0.bytes ≤ 100000 * 1024 := Nat.mul_le_mul (by omega) hb0
      omega) (by omega) (by simp) (fun _ => rfl) (fun a ha => by cases ha)).mono ?_
    rintro e w' ⟨rfl, rfl⟩
    have hg1 := grownCap_ge w (0 + n) 0 (Tryz.lGrow_ren.t 25)
    have hg2 := grownCap_le_maxLen w (0 + n) 0 65 (by unfold maxLen; omega)
    have hb : BelowD w.heap.size w (w.drew.alloc (.cells (([] : List Value).toArray ++ Builtin.zeroCells (Value.agg #[.int .i64 0, .int .i64 0, .int .i64 0, .int .i64 0]).cells (0 + n - 0) ++ Builtin.zeroCells (Value.agg #[.int .i64 0, .int .i64 0, .int .i64 0, .int .i64 0]).cells (grownCap w (0 + n) 0 65 - (0 + n))) 65)) :=
      ⟨rfl, rfl, rfl, by simp, Nat.le_succ _, fun k hk => Below.heap_alloc w.drew _ k hk⟩
    refine ⟨_, rfl, hb, hone _ (fun _ => False) (fun _ => .slice (some ⟨w.heap.size, 0, none⟩) 0 _) _ ⟨rfl, .inr ⟨w.heap.size, _, _, (0, 0), rfl, .inl rfl, heap_alloc_new w.drew _, Nat.zero_le _, hg2, ?_, by simp⟩⟩ rfl hb (fun b hb => by cases hb; exact Nat.le_refl _)⟩
    have : (Value.agg #[.int .i64 0, .int .i64 0, .int .i64 0, .int .i64 0]).cells.size = 4 := rfl
    simp only [Array.size_append, List.size_toArray, size_zeroCells, this, List.length_nil]
    omega
set_option maxHeartbeats 4000000 in
theorem concat_ok (A B : List Bx) (hA : A.length ≤ 40000) (hB : B.length ≤ 40000) : FnOk Tryz.prog 25 [.ro (.objs 1 [[.ro (bxs A)], [.ro (bxs B)]])] (.own 0) [(0, .row 65 (bxs (A ++ B)))] := by
  have kG := growNil_ok (A.length + B.length) (by omega)
  rw [Int.natCast_add] at kG
  refine FnOk.of_vc Tryz.func25 rfl (by decide) (by simp [Tryz.f25]) [.tmp 2] rfl fun w0 T0 _ => ?_
  simp only [Tryz.f25, argEnv]
  (repeat' first | with_reducible (first | intro _ | refine rc ?_ | refine rl ?_ | refine rh ?_ | refine rt ?_ | refine rf ?_ | refine rs ?_ | refine And.intro ?_ ?_) | omega | simp (maxSteps := 1000000) only [go_sem, simprocAttr, ↓reduceIte, List.length_cons, List.length_nil])
  have g0 : ([[.ro (bxs A)], [.ro (bxs B)]] : List (List AV)).getD 0 [] = [.ro (bxs A)] := rfl
  have g1 : ([[.ro (bxs A)], [.ro (bxs B)]] : List (List AV)).getD 1 [] = [.ro (bxs B)] := rfl
  refine VcLoop.intro (fun k : Nat => ⟨36, [(11, .int .i64 k), (10, .int .i64 2), (9, .ro (.objs 1 [[.ro (bxs A)], [.ro (bxs B)]])), (0, .ro (.objs 1 [[.ro (bxs A)], [.ro (bxs B)]])), (3, .int .i64 (if k = 0 then 0 else if k = 1 then (A.length : Int) else A.length + B.length))], [], 0⟩) (fun k => k ≤ 2) (fun k => 2 - k) 0 ?_ (Nat.zero_le _) fun k hk => ?_
  · refine Ent.auto0 rfl ?_ ?_ <;> simp only [go_sem, reduceCtorEq, reduceIte, Nat.reduceEqDiff, Nat.reduceLT, Nat.reduceLeDiff, Int.natCast_succ]
    all_goals rfl
  rcases k with _ | _ | _ | k
  · (repeat' first | with_reducible (first | intro _ | refine rc ?_ | refine rl ?_ | refine rh ?_ | refine rt ?_ | refine rf ?_ | refine rs ?_ | refine And.intro ?_ ?_) | omega | simp (maxSteps := 1000000) only [go_sem, simprocAttr, ↓reduceIte, elemA, g0, List.length_cons, List.length_nil, List.length_map, Int.toNat_natCast, Int.cast_ofNat_Int])
    refine ⟨1, Ent.auto0 rfl ?_ ?_, by omega, by omega⟩ <;> simp only [go_sem, reduceCtorEq, reduceIte, Nat.reduceEqDiff, Nat.reduceLT, Nat.reduceLeDiff, Int.natCast_succ]
    all_goals first | rfl | simp
  · (repeat' first | with_reducible (first | intro _ | refine rc ?_ | refine rl ?_ | refine rh ?_ | refine rt ?_ | refine rf ?_ | refine rs ?_ | refine And.intro ?_ ?_) | omega | simp (maxSteps := 1000000) only [go_sem, simprocAttr, ↓reduceIte, elemA, g1, List.length_cons, List.length_nil, List.length_map, Int.toNat_natCast, Int.cast_ofNat_Int, Nat.zero_add])
    refine ⟨2, Ent.auto0 rfl ?_ ?_, by omega, by omega⟩ <;> simp only [go_sem, reduceCtorEq, reduceIte, Nat.reduceEqDiff, Nat.reduceLT, Nat.reduceLeDiff, Int.natCast_succ]
    all_goals first | rfl | simp
  · (repeat' first | with_reducible (first | intro _ | refine rc ?_ | refine rl ?_ | refine rh ?_ | refine rt ?_ | refine rf ?_ | refine rs ?_ | refine And.intro ?_ ?_) | omega | simp (maxSteps := 1000000) only [go_sem, simprocAttr, ↓reduceIte, List.length_cons, List.length_nil, List.length_map, Int.cast_ofNat_Int, Nat.zero_add])
    refine VcCall.fr (FnFr.of_ok kG rfl rfl) (by simp [argOkL, allOk, argOkN]) 1 rfl (by simp [rowsB, Item.below, belowR_ok]) ?_
    (repeat' first | with_reducible (first | intro _ | refine rc ?_ | refine rl ?_ | refine rh ?_ | refine rt ?_ | refine rf ?_ | refine rs ?_ | refine And.intro ?_ ?_) | omega | simp (maxSteps := 1000000) only [go_sem, simprocAttr, ↓reduceIte, renR_ok, List.length_cons, List.length_nil])
    refine VcLoop.intro (fun k : Nat => ⟨36, [(27, .int .i64 k), (26, .int .i64 2), (25, .ro (.objs 1 [[.ro (bxs A)], [.ro (bxs B)]])), (6, .own 0)], [(0, .row 65 (bxs (if k = 0 then [] else if k = 1 then A else A ++ B)))], 1⟩) (fun k => k ≤ 2) (fun k => 2 - k) 0 ?_ (Nat.zero_le _) fun k hk => ?_
    · refine Ent.auto0 rfl ?_ ?_ <;> simp only [go_sem, reduceCtorEq, reduceIte, Nat.reduceEqDiff, Nat.reduceLT, Nat.reduceLeDiff, Int.natCast_succ, List.map_nil]
      all_goals first | rfl | simp
    rcases k with _ | _ | _ | k
    · (repeat' first | with_reducible (first | intro _ | refine rc ?_ | refine rl ?_ | refine rh ?_ | refine rt ?_ | refine rf ?_ | refine rs ?_ | refine And.intro ?_ ?_) | omega | simp (maxSteps := 1000000) only [go_sem, simprocAttr, ↓reduceIte, elemA, g0, List.length_cons, List.length_nil, List.length_map, List.map_nil, List.nil_append, Int.toNat_natCast, Int.cast_ofNat_Int])
      refine ⟨1, Ent.auto0 rfl ?_ ?_, by omega, by omega⟩ <;> simp only [go_sem, reduceCtorEq, reduceIte, Nat.reduceEqDiff, Nat.reduceLT, Nat.reduceLeDiff, Int.natCast_succ]
      all_goals first | rfl | simp
    · (repeat' first | with_reducible (first | intro _ | refine rc ?_ | refine rl ?_ | refine rh ?_ | refine rt ?_ | refine rf ?_ | refine rs ?_ | refine And.intro ?_ ?_) | omega | simp (maxSteps := 1000000) only [go_sem, simprocAttr, ↓reduceIte, elemA, g1, List.length_cons, List.length_nil, List.length_map, Int.toNat_natCast, Int.cast_ofNat_Int, Nat.zero_add])
      refine ⟨2, Ent.auto0 rfl ?_ ?_, by omega, by omega⟩ <;> simp only [go_sem, reduceCtorEq, reduceIte, Nat.reduceEqDiff, Nat.reduceLT, Nat.reduceLeDiff, Int.natCast_succ, List.map_append]
      all_goals first | rfl | simp
    · (repeat' first | with_reducible (first | intro _ | refine rc ?_ | refine rl ?_ | refine rh ?_ | refine rt ?_ | refine rf ?_ | refine rs ?_ | refine And.intro ?_ ?_) | omega | simp (maxSteps := 1000000) only [go_sem, simprocAttr, ↓reduceIte, List.length_cons, List.length_nil, List.length_map, Int.cast_ofNat_Int, Nat.zero_add])
      refine Ret.auto 1 ?_ rfl ?_ <;> simp only [go_sem, reduceCtorEq, reduceIte, Nat.reduceEqDiff, Nat.reduceLT, Nat.reduceLeDiff, Int.natCast_succ, Post]
      all_goals first | rfl | simp
    · exact absurd hk (by omega)
  · exact absurd hk (by omega)
end Go.Fv.U
