/-
  A part of the proof of the claim: walks over the program's functions and the plain laws that these need. No condition of its own.
-/
import Derived.Test.YtodlgmmbfbiilaaDoorGLinesCardPart5
import Derived.Test.YtodlgmmbfbiilaaDoorFvPart10
import Derived.Test.YtodlgmmbfbiilaaDoorGLinesCardPart1
import Derived.Test.YtodlgmmbfbiilaaDoorGLinesCardPart2
import Derived.Test.YtodlgmmbfbiilaaDoorGLinesCardPart4
/- The reference's ReadLine: the walk. -/
namespace Go.Fv.G
open Go Go.Proofs
set_option linter.unusedSimpArgs false
set_option linter.unusedVariables false
set_option linter.unnecessarySimpa false
set_option maxRecDepth 8000

structure RLG (st : Bool) (above : List Bool) (s : Bytes) (x : RLx) : Prop where
  hp : x.p ≤ above.length + 1
  hn : x.n ≤ s.length
  hR : x.R.length = x.p - 1
  hz : above.length = 0 → x.n = 0
  hq : rdGo st above s 0 false = match rdGo st above (s.drop x.n) x.p x.k with | none => none | some (l, m) => some (x.R ++ l, x.n + m)
theorem RLG.first (st : Bool) (above : List Bool) (s : Bytes) : RLG st above s ⟨0, false, 0, []⟩ := by
  refine ⟨Nat.zero_le _, Nat.zero_le _, rfl, fun _ => rfl, ?_⟩
  dsimp only
  rw [List.drop_zero]
  cases rdGo st above s 0 false with
  | none => rfl
  | some x => obtain ⟨l, m⟩ := x; dsimp only; rw [List.nil_append, Nat.zero_add]
theorem RLG.step {st : Bool} {above : List Bool} {s : Bytes} {p n : Nat} {k : Bool} {R : List Bool} (h : RLG st above s ⟨p, k, n, R⟩) (hp : p ≤ above.length) (h0 : 0 < above.length) {y : RSt} (hy : rdStep st above (s.drop n) p k = some y) :
    RLG st above s ⟨y.p, y.k, n + y.n, R ++ y.px⟩ ∧ p < y.p ∧ y.p ≤ above.length + 1 := by
  obtain ⟨h1, h2, h3, _, h4⟩ := h
  obtain ⟨g1, g2, g3, g4⟩ := rdStep_some hp hy
  dsimp only at *
  rw [List.length_drop] at g4
  refine ⟨⟨g2, by dsimp only; omega, by dsimp only; rw [List.length_append, h3, g3]; omega, fun h => by omega, ?_⟩, g1, g2⟩
  dsimp only
  rw [h4, rdGo_some hp hy, List.drop_drop]
  cases rdGo st above (s.drop (n + y.n)) y.p y.k with
  | none => rfl
  | some x => obtain ⟨l, m⟩ := x; dsimp only; rw [List.append_assoc, Nat.add_assoc]
theorem RLG.fail {st : Bool} {above : List Bool} {s : Bytes} {p n : Nat} {k : Bool} {R : List Bool} (h : RLG st above s ⟨p, k, n, R⟩) (hp : p ≤ above.length) (h0 : 0 < above.length) (hy : rdStep st above (s.drop n) p k = none) : rdLine st above s = none := by
  unfold rdLine rdAll
  rw [if_neg (by omega), h.hq, rdGo_none hp hy]
theorem RLG.done {st : Bool} {above : List Bool} {s : Bytes} {p n : Nat} {k : Bool} {R : List Bool} (h : RLG st above s ⟨p, k, n, R⟩) (hp : ¬ (p ≤ above.length ∧ 0 < above.length)) : rdAll st above s = some (R, n) ∧ R.length = above.length := by
  have h1 : p ≤ above.length + 1 := h.hp
  have h2 : R.length = p - 1 := h.hR
  have h3 : above.length = 0 → n = 0 := h.hz
  refine ⟨?_, by omega⟩
  unfold rdAll
  by_cases h0 : above.length = 0
  · have hR0 : R.length = 0 := by
      have h5 : p ≤ 1 := by rw [h0] at h1; exact h1
      rw [h2]; exact Nat.sub_eq_zero_of_le h5
    rw [if_pos h0, h3 h0, List.eq_nil_of_length_eq_zero hR0]
  · have h6 : ¬ p ≤ above.length := by omega
    rw [if_neg h0, h.hq, rdGo_end h6]
    dsimp only
    rw [List.append_nil, Nat.add_zero]
/-- What comes back. -/
def lnL (o : Option (List Bool × Nat)) : List Bool := match o with | some (l, _) => l | none => []
def lnN (o : Option (List Bool × Nat)) : Int := match o with | some (_, n) => n | none => 0
def lnE (o : Option (List Bool × Nat)) : Int := match o with | some _ => 0 | none => 8
theorem lnL_none : lnL none = [] := rfl
theorem lnN_none : lnN none = 0 := rfl
theorem lnE_none : lnE none = 8 := rfl
theorem lnL_some (l : List Bool) (n : Nat) : lnL (some (l, n)) = l := rfl
theorem lnN_some (l : List Bool) (n : Nat) : lnN (some (l, n)) = n := rfl
theorem lnE_some (l : List Bool) (n : Nat) : lnE (some (l, n)) = 0 := rfl
set_option maxHeartbeats 16000000 in
theorem refReadLine_ok (s : Bytes) (above : List Bool) (hs : s.length ≤ 290000000000000) (hw : above.length ≤ 4000) :
    FnOk Tryd.prog 14 [.str s, .ro (.bools above)] (.tup [.own 0, .int .i64 (lnN (rdLine false above s)), .int .i64 (lnE (rdLine false above s))]) [(0, .row 4 (.bools (lnL (rdLine false above s))))] := by
  refine FnOk.of_vc Tryd.func14 rfl (by decide) (by simp [Tryd.f14]) [.tmp 4, .tmp 5, .tmp 6] rfl fun w0 T0 _ => ?_
  simp only [Tryd.f14, argEnv]
  (repeat' first | with_reducible (first | intro _ | refine rc ?_ | refine rl ?_ | refine rh ?_ | refine ru ?_ | refine rt ?_ | refine rf ?_ | refine rs ?_ | refine And.intro ?_ ?_) | omega | simp (maxSteps := 1000000) only [go_sem, simprocAttr, ↓reduceIte])
  refine VcLoop.intro (fun x : RLx => ⟨221, [(13, .int .i64 ((x.p : Int) - 1)), (12, .int .i64 x.n), (11, .bool x.k), (10, .fn 27 [.ptr 0 0]), (9, .ptr 0 0), (8, .int .i64 above.length), (7, .fn 26 []), (1, .ro (.bools above)), (0, .str s)], [(0, .box 30 [.own 1]), (1, .row 4 (.bools x.R))], 2⟩) (RLG false above s) (fun x => above.length + 1 - x.p) ⟨0, false, 0, []⟩ ?_ (RLG.first false above s) fun x hI => ?_
  · refine Ent.trans (Ent.nilBox (P := Tryd.prog) 1 0 4 e4 rfl rfl) (Ent.auto0 rfl ?_ ?_) <;> simp only [go_sem, reduceCtorEq, reduceIte, Nat.reduceEqDiff, Nat.reduceLT, Nat.reduceLeDiff, Int.natCast_succ, zrow, put, List.set_cons_zero, List.replicate_zero]
    all_goals first | rfl | omega | exact ⟨rfl, rfl⟩
  obtain ⟨p, k, n, R⟩ := x
  have hI0 := hI
  obtain ⟨hp, hn, hR, _, _⟩ := hI
  dsimp only at hp hn hR ⊢
  by_cases hlt : p ≤ above.length ∧ 0 < above.length
  rotate_left
  · obtain ⟨hrd, hRl⟩ := hI0.done hlt
    have kl := refLine_ok R above (by omega) hRl.symm
    have f3 : ((R.length : Int) = (above.length : Int)) = True := eq_true (by omega)
    have hres : rdLine false above s = if lineB R above = s.take n then some (R, n) else none := by unfold rdLine; rw [hrd]
    rw [hres]
    generalize lineB R above = lb at *
    by_cases h1 : (p : Int) - 1 < (above.length : Int)
    · have f1 : ((p : Int) - 1 < (above.length : Int)) = True := eq_true h1
      have f2 : (0 < (above.length : Int)) = False := eq_false (by omega)
      by_cases hb : lb = s.take n
      · rw [if_pos hb, lnN_some, lnE_some, lnL_some]
        have f9 : (lb = s.take n) = True := eq_true hb
        (repeat' first | with_reducible (first | intro _ | refine rc ?_ | refine rl ?_ | refine rh ?_ | refine ru ?_ | refine rt ?_ | refine rf ?_ | refine rs ?_ | refine And.intro ?_ ?_) | omega | simp (maxSteps := 1000000) only [go_sem, simprocAttr, ↓reduceIte, f1, f2])
        refine VcDraw.lex [] [] (by kernel_rfl) (by kernel_rfl) ?_
        (repeat' first | with_reducible (first | intro _ | refine rc ?_ | refine rl ?_ | refine rh ?_ | refine ru ?_ | refine rt ?_ | refine rf ?_ | refine rs ?_ | refine And.intro ?_ ?_) | omega | simp (maxSteps := 1000000) only [go_sem, simprocAttr, ↓reduceIte, f3])
        (refine QV.intro (.str lb) ?_ ?_; focus ((repeat' first | with_reducible (first | intro _ | refine rc ?_ | refine rl ?_ | refine rh ?_ | refine ru ?_ | refine rt ?_ | refine rf ?_ | refine rs ?_ | refine And.intro ?_ ?_) | omega | simp (maxSteps := 1000000) only [go_sem, simprocAttr, ↓reduceIte]); refine VcCall.k (kl) ?_; (repeat' first | with_reducible (first | intro _ | refine rc ?_ | refine rl ?_ | refine rh ?_ | refine ru ?_ | refine rt ?_ | refine rf ?_ | refine rs ?_ | refine And.intro ?_ ?_) | omega | simp (maxSteps := 1000000) only [go_sem, simprocAttr, ↓reduceIte])))
        (repeat' first | with_reducible (first | intro _ | refine rc ?_ | refine rl ?_ | refine rh ?_ | refine ru ?_ | refine rt ?_ | refine rf ?_ | refine rs ?_ | refine And.intro ?_ ?_) | omega | simp (maxSteps := 1000000) only [go_sem, simprocAttr, ↓reduceIte, Nat.sub_zero, f3, f9])
        refine Ret.auto 1 ?_ rfl ?_ <;> simp only [go_sem, reduceCtorEq, reduceIte, Nat.reduceEqDiff, Nat.reduceLT, Nat.reduceLeDiff, Int.natCast_succ, Post, renR_ok, belowR_ok]
      · rw [if_neg hb, lnN_none, lnE_none, lnL_none]
        have f9 : (lb = s.take n) = False := eq_false hb
        (repeat' first | with_reducible (first | intro _ | refine rc ?_ | refine rl ?_ | refine rh ?_ | refine ru ?_ | refine rt ?_ | refine rf ?_ | refine rs ?_ | refine And.intro ?_ ?_) | omega | simp (maxSteps := 1000000) only [go_sem, simprocAttr, ↓reduceIte, f1, f2])
        refine VcDraw.lex [] [] (by kernel_rfl) (by kernel_rfl) ?_
        (repeat' first | with_reducible (first | intro _ | refine rc ?_ | refine rl ?_ | refine rh ?_ | refine ru ?_ | refine rt ?_ | refine rf ?_ | refine rs ?_ | refine And.intro ?_ ?_) | omega | simp (maxSteps := 1000000) only [go_sem, simprocAttr, ↓reduceIte, f3])
        (refine QV.intro (.str lb) ?_ ?_; focus ((repeat' first | with_reducible (first | intro _ | refine rc ?_ | refine rl ?_ | refine rh ?_ | refine ru ?_ | refine rt ?_ | refine rf ?_ | refine rs ?_ | refine And.intro ?_ ?_) | omega | simp (maxSteps := 1000000) only [go_sem, simprocAttr, ↓reduceIte]); refine VcCall.k (kl) ?_; (repeat' first | with_reducible (first | intro _ | refine rc ?_ | refine rl ?_ | refine rh ?_ | refine ru ?_ | refine rt ?_ | refine rf ?_ | refine rs ?_ | refine And.intro ?_ ?_) | omega | simp (maxSteps := 1000000) only [go_sem, simprocAttr, ↓reduceIte])))
        (repeat' first | with_reducible (first | intro _ | refine rc ?_ | refine rl ?_ | refine rh ?_ | refine ru ?_ | refine rt ?_ | refine rf ?_ | refine rs ?_ | refine And.intro ?_ ?_) | omega | simp (maxSteps := 1000000) only [go_sem, simprocAttr, ↓reduceIte, Nat.sub_zero, f3, f9])
        refine VcCall.fr (FnFr.of_ok refNo_ok rfl rfl) (by simp only [noIdR_ok, argOkL, argOk, allOk, argOkN, List.drop_zero, lk, reduceIte, reduceCtorEq, Nat.reduceEqDiff, Option.some.injEq, Item.row.injEq, Item.box.injEq, AV.ro.injEq, exists_eq_left, exists_and_left, exists_eq_left', exists_eq_right, and_assoc, and_true, true_and, List.cons.injEq, exists_eq', exists_eq]) 1 rfl (by simp [rowsB, Item.below, belowR_ok]) ?_
        (repeat' first | with_reducible (first | intro _ | refine rc ?_ | refine rl ?_ | refine rh ?_ | refine ru ?_ | refine rt ?_ | refine rf ?_ | refine rs ?_ | refine And.intro ?_ ?_) | omega | simp (maxSteps := 1000000) only [go_sem, simprocAttr, ↓reduceIte, renR_ok])
        refine Ret.auto 1 ?_ rfl ?_ <;> simp only [go_sem, reduceCtorEq, reduceIte, Nat.reduceEqDiff, Nat.reduceLT, Nat.reduceLeDiff, Int.natCast_succ, Post, renR_ok, belowR_ok]
    · have f1 : ((p : Int) - 1 < (above.length : Int)) = False := eq_false h1
      by_cases hb : lb = s.take n
      · rw [if_pos hb, lnN_some, lnE_some, lnL_some]
        have f9 : (lb = s.take n) = True := eq_true hb
        (repeat' first | with_reducible (first | intro _ | refine rc ?_ | refine rl ?_ | refine rh ?_ | refine ru ?_ | refine rt ?_ | refine rf ?_ | refine rs ?_ | refine And.intro ?_ ?_) | omega | simp (maxSteps := 1000000) only [go_sem, simprocAttr, ↓reduceIte, f1])
        refine VcDraw.lex [] [] (by kernel_rfl) (by kernel_rfl) ?_
        (repeat' first | with_reducible (first | intro _ | refine rc ?_ | refine rl ?_ | refine rh ?_ | refine ru ?_ | refine rt ?_ | refine rf ?_ | refine rs ?_ | refine And.intro ?_ ?_) | omega | simp (maxSteps := 1000000) only [go_sem, simprocAttr, ↓reduceIte, f3])
        (refine QV.intro (.str lb) ?_ ?_; focus ((repeat' first | with_reducible (first | intro _ | refine rc ?_ | refine rl ?_ | refine rh ?_ | refine ru ?_ | refine rt ?_ | refine rf ?_ | refine rs ?_ | refine And.intro ?_ ?_) | omega | simp (maxSteps := 1000000) only [go_sem, simprocAttr, ↓reduceIte]); refine VcCall.k (kl) ?_; (repeat' first | with_reducible (first | intro _ | refine rc ?_ | refine rl ?_ | refine rh ?_ | refine ru ?_ | refine rt ?_ | refine rf ?_ | refine rs ?_ | refine And.intro ?_ ?_) | omega | simp (maxSteps := 1000000) only [go_sem, simprocAttr, ↓reduceIte])))
        (repeat' first | with_reducible (first | intro _ | refine rc ?_ | refine rl ?_ | refine rh ?_ | refine ru ?_ | refine rt ?_ | refine rf ?_ | refine rs ?_ | refine And.intro ?_ ?_) | omega | simp (maxSteps := 1000000) only [go_sem, simprocAttr, ↓reduceIte, Nat.sub_zero, f3, f9])
        refine Ret.auto 1 ?_ rfl ?_ <;> simp only [go_sem, reduceCtorEq, reduceIte, Nat.reduceEqDiff, Nat.reduceLT, Nat.reduceLeDiff, Int.natCast_succ, Post, renR_ok, belowR_ok]
      · rw [if_neg hb, lnN_none, lnE_none, lnL_none]
        have f9 : (lb = s.take n) = False := eq_false hb
        (repeat' first | with_reducible (first | intro _ | refine rc ?_ | refine rl ?_ | refine rh ?_ | refine ru ?_ | refine rt ?_ | refine rf ?_ | refine rs ?_ | refine And.intro ?_ ?_) | omega | simp (maxSteps := 1000000) only [go_sem, simprocAttr, ↓reduceIte, f1])
        refine VcDraw.lex [] [] (by kernel_rfl) (by kernel_rfl) ?_
        (repeat' first | with_reducible (first | intro _ | refine rc ?_ | refine rl ?_ | refine rh ?_ | refine ru ?_ | refine rt ?_ | refine rf ?_ | refine rs ?_ | refine And.intro ?_ ?_) | omega | simp (maxSteps := 1000000) only [go_sem, simprocAttr, ↓reduceIte, f3])
        (refine QV.intro (.str lb) ?_ ?_; focus ((repeat' first | with_reducible (first | intro _ | refine rc ?_ | refine rl ?_ | refine rh ?_ | refine ru ?_ | refine rt ?_ | refine rf ?_ | refine rs ?_ | refine And.intro ?_ ?_) | omega | simp (maxSteps := 1000000) only [go_sem, simprocAttr, ↓reduceIte]); refine VcCall.k (kl) ?_; (repeat' first | with_reducible (first | intro _ | refine rc ?_ | refine rl ?_ | refine rh ?_ | refine ru ?_ | refine rt ?_ | refine rf ?_ | refine rs ?_ | refine And.intro ?_ ?_) | omega | simp (maxSteps := 1000000) only [go_sem, simprocAttr, ↓reduceIte])))
        (repeat' first | with_reducible (first | intro _ | refine rc ?_ | refine rl ?_ | refine rh ?_ | refine ru ?_ | refine rt ?_ | refine rf ?_ | refine rs ?_ | refine And.intro ?_ ?_) | omega | simp (maxSteps := 1000000) only [go_sem, simprocAttr, ↓reduceIte, Nat.sub_zero, f3, f9])
        refine VcCall.fr (FnFr.of_ok refNo_ok rfl rfl) (by simp only [noIdR_ok, argOkL, argOk, allOk, argOkN, List.drop_zero, lk, reduceIte, reduceCtorEq, Nat.reduceEqDiff, Option.some.injEq, Item.row.injEq, Item.box.injEq, AV.ro.injEq, exists_eq_left, exists_and_left, exists_eq_left', exists_eq_right, and_assoc, and_true, true_and, List.cons.injEq, exists_eq', exists_eq]) 1 rfl (by simp [rowsB, Item.below, belowR_ok]) ?_
        (repeat' first | with_reducible (first | intro _ | refine rc ?_ | refine rl ?_ | refine rh ?_ | refine ru ?_ | refine rt ?_ | refine rf ?_ | refine rs ?_ | refine And.intro ?_ ?_) | omega | simp (maxSteps := 1000000) only [go_sem, simprocAttr, ↓reduceIte, renR_ok])
        refine Ret.auto 1 ?_ rfl ?_ <;> simp only [go_sem, reduceCtorEq, reduceIte, Nat.reduceEqDiff, Nat.reduceLT, Nat.reduceLeDiff, Int.natCast_succ, Post, renR_ok, belowR_ok]
  obtain ⟨hle, h0⟩ := hlt
  have f1 : ((p : Int) - 1 < (above.length : Int)) = True := eq_true (by omega)
  have f2 : (0 < (above.length : Int)) = True := eq_true (by omega)
  have k3 := ups_ok above p ((p : Int) - 1) k rfl (by omega) (by omega)
  obtain ⟨b1, hB1⟩ : ∃ b1, chTo above p (!k) = b1 := ⟨_, rfl⟩
  have hb1 := chTo_ge (r := above) (i := p) hle (!k)
  rw [hB1] at k3 hb1
  obtain ⟨b2, hB2⟩ : ∃ b2, chg above (b1 + 1) = b2 := ⟨_, rfl⟩
  rw [hB2] at k3
  have b2a : b1 ≤ b2 := by
    by_cases h : b1 < above.length
    · have := chg_ge (r := above) (i := b1 + 1) (by omega); omega
    · rw [chg_end (by omega)] at hB2; omega
  have b2b : b2 ≤ above.length := by rw [← hB2]; exact chg_le _ _
  have hmx : max ((p : Int) - 1) 0 = ((p - 1 : Nat) : Int) := by omega
  have htk : (s.drop n).take (s.length - n) = s.drop n := List.take_of_length_le (by rw [List.length_drop]; exact Nat.le_refl _)
  have hyl : (s.drop n).length = s.length - n := List.length_drop ..
  have e3 : (s.drop n).drop 3 = s.drop (n + 3) := List.drop_drop
  have hcc := code_cases (s.drop n)
  have hcl := @codeOf_len (s.drop n)
  have hstep : ∀ z, z = rdStep false above (s.drop n) p k → z = rdStep false above (s.drop n) p k := fun _ h => h
  have kp := hasPrefix_ok (s.drop n) [48, 48, 48, 49]
  have kq := hasPrefix_ok (s.drop n) [48, 48, 49]
  (repeat' first | with_reducible (first | intro _ | refine rc ?_ | refine rl ?_ | refine rh ?_ | refine ru ?_ | refine rt ?_ | refine rf ?_ | refine rs ?_ | refine And.intro ?_ ?_) | omega | simp (maxSteps := 1000000) only [go_sem, simprocAttr, ↓reduceIte, f1, f2])
  refine VcCall.k (k3) ?_
  (repeat' first | with_reducible (first | intro _ | refine rc ?_ | refine rl ?_ | refine rh ?_ | refine ru ?_ | refine rt ?_ | refine rf ?_ | refine rs ?_ | refine And.intro ?_ ?_) | omega | simp (maxSteps := 1000000) only [go_sem, simprocAttr, ↓reduceIte, htk])
  rcases hcc with ⟨c1, c2⟩ | ⟨c1, j, c3, c2, c4, c5⟩ | ⟨c1, c4, hc⟩
  · have c1' : ([48, 48, 48, 49] : Bytes).isPrefixOf (s.drop n) = true := c1
    rw [c1'] at kp
    have hst : rdStep false above (s.drop n) p k = some ⟨b2 + 1, k, List.replicate (b2 - (p - 1)) k, 4⟩ := by unfold rdStep; rw [if_pos c2, hB1, hB2]
    obtain ⟨g1, g2, g3⟩ := hI0.step hle h0 hst
    have kf := refFill_io R b2 k (by omega) (by omega)
    rw [hR] at kf
    have f3 : ((b2 : Int) ≤ (p : Int) - 1) = False := eq_false (by omega)
    have f4 : ((above.length : Int) < (b2 : Int)) = False := eq_false (by omega)
    refine VcCall.k (kp) ?_
    (repeat' first | with_reducible (first | intro _ | refine rc ?_ | refine rl ?_ | refine rh ?_ | refine ru ?_ | refine rt ?_ | refine rf ?_ | refine rs ?_ | refine And.intro ?_ ?_) | omega | simp (maxSteps := 1000000) only [go_sem, simprocAttr, ↓reduceIte, f3, f4])
    refine VcCall.io [0, 1] kf (by decide) (by simp [renL, ren, ioN]) rfl (by simp [subOk, ioN, lk, Item.ren, Item.below, ren, renL, belowL, Fv.below, renR_ok, belowR_ok]) covB2 3 (by decide) rfl (by simp [rowsB, Item.below, Fv.below, belowL, belowR_ok]) ?_
    (repeat' first | with_reducible (first | intro _ | refine rc ?_ | refine rl ?_ | refine rh ?_ | refine ru ?_ | refine rt ?_ | refine rf ?_ | refine rs ?_ | refine And.intro ?_ ?_) | omega | simp (maxSteps := 1000000) only [go_sem, simprocAttr, ↓reduceIte, S.ioS, ioRows, ioN, delL, Item.ren, ren, renL, renR_ok, List.length_cons, List.length_nil, List.getElem?_cons_zero, List.getElem?_cons_succ, List.getElem?_nil, List.cons_append, List.nil_append, Nat.reduceAdd, Nat.sub_self, Nat.add_zero, List.filter])
    refine ⟨⟨b2 + 1, k, n + 4, R ++ List.replicate (b2 - (p - 1)) k⟩, Ent.auto0 rfl ?_ ?_, g1, by dsimp only; omega⟩ <;> simp only [go_sem, reduceCtorEq, reduceIte, Nat.reduceEqDiff, Nat.reduceLT, Nat.reduceLeDiff, Int.natCast_succ, List.length_cons, List.length_nil, Nat.reduceAdd, renR_ok, belowR_ok]
    all_goals first | rfl | omega | (refine ⟨?_, ?_⟩ <;> first | rfl | omega)
  · have c1' : ([48, 48, 48, 49] : Bytes).isPrefixOf (s.drop n) = false := c1
    rw [c1'] at kp
    have ki := idxR_ok (s.drop n) j (by omega) c4 (fun _ => c5)
    rw [if_pos c3] at ki
    have hnl : nearCs.length = 7 := rfl
    have hcl2 : (nearCs.getD j []).length ≤ 7 := near_short j
    refine VcCall.k (kp) ?_
    (repeat' first | with_reducible (first | intro _ | refine rc ?_ | refine rl ?_ | refine rh ?_ | refine ru ?_ | refine rt ?_ | refine rf ?_ | refine rs ?_ | refine And.intro ?_ ?_) | omega | simp (maxSteps := 1000000) only [go_sem, simprocAttr, ↓reduceIte])
    refine VcCall.ro (.ro (.strs nearCs)) (FnFr.of_ok vertical_ok rfl (by simp [noRoRows, noRoItem, noRoRow, noRoL, noRo])) (by simp only [noIdR_ok, argOkL, argOk, allOk, argOkN, List.drop_zero, lk, reduceIte, reduceCtorEq, Nat.reduceEqDiff, Option.some.injEq, Item.row.injEq, Item.box.injEq, AV.ro.injEq, exists_eq_left, exists_and_left, exists_eq_left', exists_eq_right, and_assoc, and_true, true_and, List.cons.injEq, exists_eq', exists_eq]) (by simp [outOk, argOkL, allOk, argOk, argOkN, lk, noIdR_ok]) rfl ?_
    (repeat' first | with_reducible (first | intro _ | refine rc ?_ | refine rl ?_ | refine rh ?_ | refine ru ?_ | refine rt ?_ | refine rf ?_ | refine rs ?_ | refine And.intro ?_ ?_) | omega | simp (maxSteps := 1000000) only [go_sem, simprocAttr, ↓reduceIte])
    refine VcCall.k (ki) ?_
    have f3 : (0 ≤ (j : Int)) = True := eq_true (by omega)
    by_cases hok : p + 3 ≤ b1 + j ∧ b1 + j ≤ above.length + 3
    · obtain ⟨t, ht⟩ : ∃ t, t + 3 = b1 + j := ⟨b1 + j - 3, by omega⟩
      have hst : rdStep false above (s.drop n) p k = some ⟨t + 1, !k, List.replicate (t - (p - 1)) k, (nearCs.getD j []).length⟩ := by
        unfold rdStep
        rw [c2, if_neg (by omega), if_pos (by omega), hB1, if_pos (by omega), show b1 + (j + 1) - 4 = t by omega, Nat.add_sub_cancel]
      obtain ⟨g1, g2, g3⟩ := hI0.step hle h0 hst
      have kf := refFill_io R t k (by omega) (by omega)
      rw [hR] at kf
      have hv : (b1 : Int) + (j : Int) - 3 = (t : Int) := by omega
      have f4 : ((t : Int) ≤ (p : Int) - 1) = False := eq_false (by omega)
      have f5 : ((above.length : Int) < (t : Int)) = False := eq_false (by omega)
      (repeat' first | with_reducible (first | intro _ | refine rc ?_ | refine rl ?_ | refine rh ?_ | refine ru ?_ | refine rt ?_ | refine rf ?_ | refine rs ?_ | refine And.intro ?_ ?_) | omega | simp (maxSteps := 1000000) only [go_sem, simprocAttr, ↓reduceIte, f3, hv, f4, f5, renR_ok])
      refine VcCall.io [0, 1] kf (by decide) (by simp [renL, ren, ioN]) rfl (by simp [subOk, ioN, lk, Item.ren, Item.below, ren, renL, belowL, Fv.below, renR_ok, belowR_ok]) covB2 3 (by decide) rfl (by simp [rowsB, Item.below, Fv.below, belowL, belowR_ok]) ?_
      (repeat' first | with_reducible (first | intro _ | refine rc ?_ | refine rl ?_ | refine rh ?_ | refine ru ?_ | refine rt ?_ | refine rf ?_ | refine rs ?_ | refine And.intro ?_ ?_) | omega | simp (maxSteps := 1000000) only [go_sem, simprocAttr, ↓reduceIte, S.ioS, ioRows, ioN, delL, Item.ren, ren, renL, renR_ok, List.length_cons, List.length_nil, List.getElem?_cons_zero, List.getElem?_cons_succ, List.getElem?_nil, List.cons_append, List.nil_append, Nat.reduceAdd, Nat.sub_self, Nat.add_zero, List.filter])
      refine VcCall.ro (.ro (.strs nearCs)) (FnFr.of_ok vertical_ok rfl (by simp [noRoRows, noRoItem, noRoRow, noRoL, noRo])) (by simp only [noIdR_ok, argOkL, argOk, allOk, argOkN, List.drop_zero, lk, reduceIte, reduceCtorEq, Nat.reduceEqDiff, Option.some.injEq, Item.row.injEq, Item.box.injEq, AV.ro.injEq, exists_eq_left, exists_and_left, exists_eq_left', exists_eq_right, and_assoc, and_true, true_and, List.cons.injEq, exists_eq', exists_eq]) (by simp [outOk, argOkL, allOk, argOk, argOkN, lk, noIdR_ok]) rfl ?_
      (repeat' first | with_reducible (first | intro _ | refine rc ?_ | refine rl ?_ | refine rh ?_ | refine ru ?_ | refine rt ?_ | refine rf ?_ | refine rs ?_ | refine And.intro ?_ ?_) | omega | simp (maxSteps := 1000000) only [go_sem, simprocAttr, ↓reduceIte, hnl, renR_ok])
      refine ⟨⟨t + 1, !k, n + (nearCs.getD j []).length, R ++ List.replicate (t - (p - 1)) k⟩, Ent.auto0 rfl ?_ ?_, g1, by dsimp only; omega⟩ <;> simp only [go_sem, reduceCtorEq, reduceIte, Nat.reduceEqDiff, Nat.reduceLT, Nat.reduceLeDiff, Int.natCast_succ, List.length_cons, List.length_nil, Nat.reduceAdd, renR_ok, belowR_ok]
      all_goals first | rfl | omega | (refine ⟨?_, ?_⟩ <;> first | rfl | omega)
    · have hst : rdStep false above (s.drop n) p k = none := by
        unfold rdStep
        rw [c2, if_neg (by omega), if_pos (by omega), hB1, if_neg (by omega)]
      rw [hI0.fail hle h0 hst, lnN_none, lnE_none, lnL_none]
      by_cases h4 : (above.length : Int) < (b1 : Int) + (j : Int) - 3
      · have f4 : ((above.length : Int) < (b1 : Int) + (j : Int) - 3) = True := eq_true h4
        (repeat' first | with_reducible (first | intro _ | refine rc ?_ | refine rl ?_ | refine rh ?_ | refine ru ?_ | refine rt ?_ | refine rf ?_ | refine rs ?_ | refine And.intro ?_ ?_) | omega | simp (maxSteps := 1000000) only [go_sem, simprocAttr, ↓reduceIte, f3, f4, renR_ok])
        refine VcCall.fr (FnFr.of_ok refNo_ok rfl rfl) (by simp only [noIdR_ok, argOkL, argOk, allOk, argOkN, List.drop_zero, lk, reduceIte, reduceCtorEq, Nat.reduceEqDiff, Option.some.injEq, Item.row.injEq, Item.box.injEq, AV.ro.injEq, exists_eq_left, exists_and_left, exists_eq_left', exists_eq_right, and_assoc, and_true, true_and, List.cons.injEq, exists_eq', exists_eq]) 1 rfl (by simp [rowsB, Item.below, belowR_ok]) ?_
        (repeat' first | with_reducible (first | intro _ | refine rc ?_ | refine rl ?_ | refine rh ?_ | refine ru ?_ | refine rt ?_ | refine rf ?_ | refine rs ?_ | refine And.intro ?_ ?_) | omega | simp (maxSteps := 1000000) only [go_sem, simprocAttr, ↓reduceIte, renR_ok])
        refine Ret.auto 1 ?_ rfl ?_ <;> simp only [go_sem, reduceCtorEq, reduceIte, Nat.reduceEqDiff, Nat.reduceLT, Nat.reduceLeDiff, Int.natCast_succ, Post, renR_ok, belowR_ok]
      · have f4 : ((above.length : Int) < (b1 : Int) + (j : Int) - 3) = False := eq_false h4
        have f5 : ((b1 : Int) + (j : Int) - 3 ≤ (p : Int) - 1) = True := eq_true (by omega)
        by_cases h6 : (p : Int) - 1 < 0
        · have f6 : ((p : Int) - 1 < 0) = True := eq_true h6
          have f7 : ((b1 : Int) + (j : Int) - 3 = 0) = False := eq_false (by omega)
          (repeat' first | with_reducible (first | intro _ | refine rc ?_ | refine rl ?_ | refine rh ?_ | refine ru ?_ | refine rt ?_ | refine rf ?_ | refine rs ?_ | refine And.intro ?_ ?_) | omega | simp (maxSteps := 1000000) only [go_sem, simprocAttr, ↓reduceIte, f3, f4, f5, f6, f7, renR_ok])
          refine VcCall.fr (FnFr.of_ok refNo_ok rfl rfl) (by simp only [noIdR_ok, argOkL, argOk, allOk, argOkN, List.drop_zero, lk, reduceIte, reduceCtorEq, Nat.reduceEqDiff, Option.some.injEq, Item.row.injEq, Item.box.injEq, AV.ro.injEq, exists_eq_left, exists_and_left, exists_eq_left', exists_eq_right, and_assoc, and_true, true_and, List.cons.injEq, exists_eq', exists_eq]) 1 rfl (by simp [rowsB, Item.below, belowR_ok]) ?_
          (repeat' first | with_reducible (first | intro _ | refine rc ?_ | refine rl ?_ | refine rh ?_ | refine ru ?_ | refine rt ?_ | refine rf ?_ | refine rs ?_ | refine And.intro ?_ ?_) | omega | simp (maxSteps := 1000000) only [go_sem, simprocAttr, ↓reduceIte, renR_ok])
          refine Ret.auto 1 ?_ rfl ?_ <;> simp only [go_sem, reduceCtorEq, reduceIte, Nat.reduceEqDiff, Nat.reduceLT, Nat.reduceLeDiff, Int.natCast_succ, Post, renR_ok, belowR_ok]
        · have f6 : ((p : Int) - 1 < 0) = False := eq_false h6
          (repeat' first | with_reducible (first | intro _ | refine rc ?_ | refine rl ?_ | refine rh ?_ | refine ru ?_ | refine rt ?_ | refine rf ?_ | refine rs ?_ | refine And.intro ?_ ?_) | omega | simp (maxSteps := 1000000) only [go_sem, simprocAttr, ↓reduceIte, f3, f4, f5, f6, renR_ok])
          refine VcCall.fr (FnFr.of_ok refNo_ok rfl rfl) (by simp only [noIdR_ok, argOkL, argOk, allOk, argOkN, List.drop_zero, lk, reduceIte, reduceCtorEq, Nat.reduceEqDiff, Option.some.injEq, Item.row.injEq, Item.box.injEq, AV.ro.injEq, exists_eq_left, exists_and_left, exists_eq_left', exists_eq_right, and_assoc, and_true, true_and, List.cons.injEq, exists_eq', exists_eq]) 1 rfl (by simp [rowsB, Item.below, belowR_ok]) ?_
          (repeat' first | with_reducible (first | intro _ | refine rc ?_ | refine rl ?_ | refine rh ?_ | refine ru ?_ | refine rt ?_ | refine rf ?_ | refine rs ?_ | refine And.intro ?_ ?_) | omega | simp (maxSteps := 1000000) only [go_sem, simprocAttr, ↓reduceIte, renR_ok])
          refine Ret.auto 1 ?_ rfl ?_ <;> simp only [go_sem, reduceCtorEq, reduceIte, Nat.reduceEqDiff, Nat.reduceLT, Nat.reduceLeDiff, Int.natCast_succ, Post, renR_ok, belowR_ok]
  have c1' : ([48, 48, 48, 49] : Bytes).isPrefixOf (s.drop n) = false := c1
  rw [c1'] at kp
  have ki := idxR_ok (s.drop n) 7 (by omega) c4 (fun h => absurd h (by decide))
  rw [if_neg (by decide)] at ki
  refine VcCall.k (kp) ?_
  (repeat' first | with_reducible (first | intro _ | refine rc ?_ | refine rl ?_ | refine rh ?_ | refine ru ?_ | refine rt ?_ | refine rf ?_ | refine rs ?_ | refine And.intro ?_ ?_) | omega | simp (maxSteps := 1000000) only [go_sem, simprocAttr, ↓reduceIte])
  refine VcCall.ro (.ro (.strs nearCs)) (FnFr.of_ok vertical_ok rfl (by simp [noRoRows, noRoItem, noRoRow, noRoL, noRo])) (by simp only [noIdR_ok, argOkL, argOk, allOk, argOkN, List.drop_zero, lk, reduceIte, reduceCtorEq, Nat.reduceEqDiff, Option.some.injEq, Item.row.injEq, Item.box.injEq, AV.ro.injEq, exists_eq_left, exists_and_left, exists_eq_left', exists_eq_right, and_assoc, and_true, true_and, List.cons.injEq, exists_eq', exists_eq]) (by simp [outOk, argOkL, allOk, argOk, argOkN, lk, noIdR_ok]) rfl ?_
  (repeat' first | with_reducible (first | intro _ | refine rc ?_ | refine rl ?_ | refine rh ?_ | refine ru ?_ | refine rt ?_ | refine rf ?_ | refine rs ?_ | refine And.intro ?_ ?_) | omega | simp (maxSteps := 1000000) only [go_sem, simprocAttr, ↓reduceIte])
  refine VcCall.k (ki) ?_
  (repeat' first | with_reducible (first | intro _ | refine rc ?_ | refine rl ?_ | refine rh ?_ | refine ru ?_ | refine rt ?_ | refine rf ?_ | refine rs ?_ | refine And.intro ?_ ?_) | omega | simp (maxSteps := 1000000) only [go_sem, simprocAttr, ↓reduceIte])
  rcases hc with ⟨c5, c2⟩ | ⟨c5, c2⟩
  rotate_left
  · have c5' : ([48, 48, 49] : Bytes).isPrefixOf (s.drop n) = false := c5
    rw [c5'] at kq
    have hst : rdStep false above (s.drop n) p k = none := by
      unfold rdStep
      rw [c2, if_neg (by decide), if_neg (by decide), if_neg (by decide)]
    rw [hI0.fail hle h0 hst, lnN_none, lnE_none, lnL_none]
    refine VcCall.k (kq) ?_
    (repeat' first | with_reducible (first | intro _ | refine rc ?_ | refine rl ?_ | refine rh ?_ | refine ru ?_ | refine rt ?_ | refine rf ?_ | refine rs ?_ | refine And.intro ?_ ?_) | omega | simp (maxSteps := 1000000) only [go_sem, simprocAttr, ↓reduceIte])
    refine VcCall.fr (FnFr.of_ok refNo_ok rfl rfl) (by simp only [noIdR_ok, argOkL, argOk, allOk, argOkN, List.drop_zero, lk, reduceIte, reduceCtorEq, Nat.reduceEqDiff, Option.some.injEq, Item.row.injEq, Item.box.injEq, AV.ro.injEq, exists_eq_left, exists_and_left, exists_eq_left', exists_eq_right, and_assoc, and_true, true_and, List.cons.injEq, exists_eq', exists_eq]) 1 rfl (by simp [rowsB, Item.below, belowR_ok]) ?_
    (repeat' first | with_reducible (first | intro _ | refine rc ?_ | refine rl ?_ | refine rh ?_ | refine ru ?_ | refine rt ?_ | refine rf ?_ | refine rs ?_ | refine And.intro ?_ ?_) | omega | simp (maxSteps := 1000000) only [go_sem, simprocAttr, ↓reduceIte, renR_ok])
    refine Ret.auto 1 ?_ rfl ?_ <;> simp only [go_sem, reduceCtorEq, reduceIte, Nat.reduceEqDiff, Nat.reduceLT, Nat.reduceLeDiff, Int.natCast_succ, Post, renR_ok, belowR_ok]
  have h3 := (hcl (by omega)).2.1 c2
  rw [List.length_drop] at h3
  have c5' : ([48, 48, 49] : Bytes).isPrefixOf (s.drop n) = true := c5
  rw [c5'] at kq
  have hst0 : rdStep false above (s.drop n) p k = farOf false above.length (s.drop n) p k := by
    unfold rdStep
    rw [c2, if_neg (by decide), if_neg (by decide), if_pos rfl]
  have kn := refReadG_ok (s.drop (n + 3)) (by rw [List.length_drop]; omega)
  have ht3 : (s.drop (n + 3)).take (s.length - n - 3) = s.drop (n + 3) := List.take_of_length_le (by rw [List.length_drop]; omega)
  refine VcCall.k (kq) ?_
  (repeat' first | with_reducible (first | intro _ | refine rc ?_ | refine rl ?_ | refine rh ?_ | refine ru ?_ | refine rt ?_ | refine rf ?_ | refine rs ?_ | refine And.intro ?_ ?_) | omega | simp (maxSteps := 1000000) only [go_sem, simprocAttr, ↓reduceIte, hyl, e3, ht3])
  cases hg1 : rdG (s.drop (n + 3)) with
  | none =>
    obtain ⟨r1, r2, r3⟩ := rdE_none hg1
    rw [r1, r2, r3] at kn
    have hst : rdStep false above (s.drop n) p k = none := by rw [hst0]; unfold farOf; rw [e3, hg1]
    rw [hI0.fail hle h0 hst, lnN_none, lnE_none, lnL_none]
    refine VcCall.k (kn) ?_
    (repeat' first | with_reducible (first | intro _ | refine rc ?_ | refine rl ?_ | refine rh ?_ | refine ru ?_ | refine rt ?_ | refine rf ?_ | refine rs ?_ | refine And.intro ?_ ?_) | omega | simp (maxSteps := 1000000) only [go_sem, simprocAttr, ↓reduceIte])
    refine VcCall.fr (FnFr.of_ok refNo_ok rfl rfl) (by simp only [noIdR_ok, argOkL, argOk, allOk, argOkN, List.drop_zero, lk, reduceIte, reduceCtorEq, Nat.reduceEqDiff, Option.some.injEq, Item.row.injEq, Item.box.injEq, AV.ro.injEq, exists_eq_left, exists_and_left, exists_eq_left', exists_eq_right, and_assoc, and_true, true_and, List.cons.injEq, exists_eq', exists_eq]) 1 rfl (by simp [rowsB, Item.below, belowR_ok]) ?_
    (repeat' first | with_reducible (first | intro _ | refine rc ?_ | refine rl ?_ | refine rh ?_ | refine ru ?_ | refine rt ?_ | refine rf ?_ | refine rs ?_ | refine And.intro ?_ ?_) | omega | simp (maxSteps := 1000000) only [go_sem, simprocAttr, ↓reduceIte, renR_ok])
    refine Ret.auto 1 ?_ rfl ?_ <;> simp only [go_sem, reduceCtorEq, reduceIte, Nat.reduceEqDiff, Nat.reduceLT, Nat.reduceLeDiff, Int.natCast_succ, Post, renR_ok, belowR_ok]
  | some z1 =>
  obtain ⟨m1, l1⟩ := z1
  obtain ⟨r1, r2, r3⟩ := rdE_some hg1
  rw [r1, r2, r3] at kn
  obtain ⟨w1, w2, w3⟩ := rdG_len hg1
  have w4 := rdG_most hg1
  rw [List.length_drop] at w1
  have kn2 := refReadG_ok (s.drop (n + 3 + l1)) (by rw [List.length_drop]; omega)
  have e4 : (s.drop n).drop (3 + l1) = s.drop (n + 3 + l1) := by rw [List.drop_drop, Nat.add_assoc]
  have ht4 : (s.drop (n + 3 + l1)).take (s.length - n - (3 + l1)) = s.drop (n + 3 + l1) := List.take_of_length_le (by rw [List.length_drop]; omega)
  have hi4 : ((3 : Int) + (l1 : Int)).toNat = 3 + l1 := by omega
  refine VcCall.k (kn) ?_
  (repeat' first | with_reducible (first | intro _ | refine rc ?_ | refine rl ?_ | refine rh ?_ | refine ru ?_ | refine rt ?_ | refine rf ?_ | refine rs ?_ | refine And.intro ?_ ?_) | omega | simp (maxSteps := 1000000) only [go_sem, simprocAttr, ↓reduceIte, hyl, hi4, e4, ht4])
  cases hg2 : rdG (s.drop (n + 3 + l1)) with
  | none =>
    obtain ⟨r1, r2, r3⟩ := rdE_none hg2
    rw [r1, r2, r3] at kn2
    have hst : rdStep false above (s.drop n) p k = none := by rw [hst0]; unfold farOf; rw [e3, hg1]; dsimp only; rw [e4, hg2]
    rw [hI0.fail hle h0 hst, lnN_none, lnE_none, lnL_none]
    refine VcCall.k (kn2) ?_
    (repeat' first | with_reducible (first | intro _ | refine rc ?_ | refine rl ?_ | refine rh ?_ | refine ru ?_ | refine rt ?_ | refine rf ?_ | refine rs ?_ | refine And.intro ?_ ?_) | omega | simp (maxSteps := 1000000) only [go_sem, simprocAttr, ↓reduceIte])
    refine VcCall.fr (FnFr.of_ok refNo_ok rfl rfl) (by simp only [noIdR_ok, argOkL, argOk, allOk, argOkN, List.drop_zero, lk, reduceIte, reduceCtorEq, Nat.reduceEqDiff, Option.some.injEq, Item.row.injEq, Item.box.injEq, AV.ro.injEq, exists_eq_left, exists_and_left, exists_eq_left', exists_eq_right, and_assoc, and_true, true_and, List.cons.injEq, exists_eq', exists_eq]) 1 rfl (by simp [rowsB, Item.below, belowR_ok]) ?_
    (repeat' first | with_reducible (first | intro _ | refine rc ?_ | refine rl ?_ | refine rh ?_ | refine ru ?_ | refine rt ?_ | refine rf ?_ | refine rs ?_ | refine And.intro ?_ ?_) | omega | simp (maxSteps := 1000000) only [go_sem, simprocAttr, ↓reduceIte, renR_ok])
    refine Ret.auto 1 ?_ rfl ?_ <;> simp only [go_sem, reduceCtorEq, reduceIte, Nat.reduceEqDiff, Nat.reduceLT, Nat.reduceLeDiff, Int.natCast_succ, Post, renR_ok, belowR_ok]
  | some z2 =>
  obtain ⟨m2, l2⟩ := z2
  obtain ⟨r1, r2, r3⟩ := rdE_some hg2
  rw [r1, r2, r3] at kn2
  obtain ⟨w5, w6, w7⟩ := rdG_len hg2
  have w8 := rdG_most hg2
  rw [List.length_drop] at w5
  obtain ⟨A1, hA1⟩ : ∃ A1, p - 1 + (m1 - 1) = A1 := ⟨_, rfl⟩
  obtain ⟨A2, hA2⟩ : ∃ A2, A1 + (m2 - 1) = A2 := ⟨_, rfl⟩
  have hv1 : ((p - 1 : Nat) : Int) + (m1 : Int) - 1 = (A1 : Int) := by omega
  have hv2 : (A1 : Int) + (m2 : Int) - 1 = (A2 : Int) := by omega
  have hstf : rdStep false above (s.drop n) p k = if (false = true → p ≤ A1) ∧ A2 ≤ above.length ∧ p ≤ A2 then some ⟨A2 + 1, k, List.replicate (m1 - 1) k ++ List.replicate (m2 - 1) (!k), 3 + l1 + l2⟩ else none := by
    rw [hst0]; unfold farOf; rw [e3, hg1]; dsimp only; rw [e4, hg2]; dsimp only; rw [hA1, hA2]
  refine VcCall.k (kn2) ?_
  by_cases h5 : A2 ≤ above.length
  rotate_left
  · have hst := hstf
    rw [if_neg (fun h => h5 h.2.1)] at hst
    have f5 : ((above.length : Int) < (A2 : Int)) = True := eq_true (by omega)
    rw [hI0.fail hle h0 hst, lnN_none, lnE_none, lnL_none]
    (repeat' first | with_reducible (first | intro _ | refine rc ?_ | refine rl ?_ | refine rh ?_ | refine ru ?_ | refine rt ?_ | refine rf ?_ | refine rs ?_ | refine And.intro ?_ ?_) | omega | simp (maxSteps := 1000000) only [go_sem, simprocAttr, ↓reduceIte, hmx, hv1, hv2, f5])
    refine VcCall.fr (FnFr.of_ok refNo_ok rfl rfl) (by simp only [noIdR_ok, argOkL, argOk, allOk, argOkN, List.drop_zero, lk, reduceIte, reduceCtorEq, Nat.reduceEqDiff, Option.some.injEq, Item.row.injEq, Item.box.injEq, AV.ro.injEq, exists_eq_left, exists_and_left, exists_eq_left', exists_eq_right, and_assoc, and_true, true_and, List.cons.injEq, exists_eq', exists_eq]) 1 rfl (by simp [rowsB, Item.below, belowR_ok]) ?_
    (repeat' first | with_reducible (first | intro _ | refine rc ?_ | refine rl ?_ | refine rh ?_ | refine ru ?_ | refine rt ?_ | refine rf ?_ | refine rs ?_ | refine And.intro ?_ ?_) | omega | simp (maxSteps := 1000000) only [go_sem, simprocAttr, ↓reduceIte, renR_ok])
    refine Ret.auto 1 ?_ rfl ?_ <;> simp only [go_sem, reduceCtorEq, reduceIte, Nat.reduceEqDiff, Nat.reduceLT, Nat.reduceLeDiff, Int.natCast_succ, Post, renR_ok, belowR_ok]
  have f5 : ((above.length : Int) < (A2 : Int)) = False := eq_false (by omega)
  have f6 : ((above.length : Int) < (A1 : Int)) = False := eq_false (by omega)
  have kf := refFill_io R A1 k (by omega) (by omega)
  rw [hR, show A1 - (p - 1) = m1 - 1 by omega] at kf
  have hRl : (R ++ List.replicate (m1 - 1) k).length = A1 := by rw [List.length_append, List.length_replicate]; omega
  have kf2 := refFill_io (R ++ List.replicate (m1 - 1) k) A2 (!k) (by omega) (by omega)
  rw [hRl, show A2 - A1 = m2 - 1 by omega, List.append_assoc] at kf2
  (repeat' first | with_reducible (first | intro _ | refine rc ?_ | refine rl ?_ | refine rh ?_ | refine ru ?_ | refine rt ?_ | refine rf ?_ | refine rs ?_ | refine And.intro ?_ ?_) | omega | simp (maxSteps := 1000000) only [go_sem, simprocAttr, ↓reduceIte, hmx, hv1, hv2, f5, f6])
  refine VcCall.io [0, 1] kf (by decide) (by simp [renL, ren, ioN]) rfl (by simp [subOk, ioN, lk, Item.ren, Item.below, ren, renL, belowL, Fv.below, renR_ok, belowR_ok]) covB2 3 (by decide) rfl (by simp [rowsB, Item.below, Fv.below, belowL, belowR_ok]) ?_
  (repeat' first | with_reducible (first | intro _ | refine rc ?_ | refine rl ?_ | refine rh ?_ | refine ru ?_ | refine rt ?_ | refine rf ?_ | refine rs ?_ | refine And.intro ?_ ?_) | omega | simp (maxSteps := 1000000) only [go_sem, simprocAttr, ↓reduceIte, S.ioS, ioRows, ioN, delL, Item.ren, ren, renL, renR_ok, List.length_cons, List.length_nil, List.getElem?_cons_zero, List.getElem?_cons_succ, List.getElem?_nil, List.cons_append, List.nil_append, Nat.reduceAdd, Nat.sub_self, Nat.add_zero, List.filter])
  refine VcCall.io [0, 3] kf2 (by decide) (by simp [renL, ren, ioN]) rfl (by simp [subOk, ioN, lk, Item.ren, Item.below, ren, renL, belowL, Fv.below, renR_ok, belowR_ok]) covB2 3 (by decide) rfl (by simp [rowsB, Item.below, Fv.below, belowL, belowR_ok]) ?_
  by_cases hok : p ≤ A2
  · have hst := hstf
    rw [if_pos ⟨(by intro h; cases h), h5, hok⟩] at hst
    obtain ⟨g1, g2, g3⟩ := hI0.step hle h0 hst
    have f7 : ((A2 : Int) ≤ (p : Int) - 1) = False := eq_false (by omega)
    (repeat' first | with_reducible (first | intro _ | refine rc ?_ | refine rl ?_ | refine rh ?_ | refine ru ?_ | refine rt ?_ | refine rf ?_ | refine rs ?_ | refine And.intro ?_ ?_) | omega | simp (maxSteps := 1000000) only [go_sem, simprocAttr, ↓reduceIte, f7, S.ioS, ioRows, ioN, delL, Item.ren, ren, renL, renR_ok, List.length_cons, List.length_nil, List.getElem?_cons_zero, List.getElem?_cons_succ, List.getElem?_nil, List.cons_append, List.nil_append, Nat.reduceAdd, Nat.sub_self, Nat.add_zero, List.filter])
    refine ⟨⟨A2 + 1, k, n + (3 + l1 + l2), R ++ (List.replicate (m1 - 1) k ++ List.replicate (m2 - 1) (!k))⟩, Ent.auto0 rfl ?_ ?_, g1, by dsimp only; omega⟩ <;> simp only [go_sem, reduceCtorEq, reduceIte, Nat.reduceEqDiff, Nat.reduceLT, Nat.reduceLeDiff, Int.natCast_succ, List.length_cons, List.length_nil, Nat.reduceAdd, renR_ok, belowR_ok]
    all_goals first | rfl | omega | (refine ⟨?_, ?_⟩ <;> first | rfl | omega)
  · have hst := hstf
    rw [if_neg (fun h => hok h.2.2)] at hst
    have f7 : ((A2 : Int) ≤ (p : Int) - 1) = True := eq_true (by omega)
    rw [hI0.fail hle h0 hst, lnN_none, lnE_none, lnL_none]
    (repeat' first | with_reducible (first | intro _ | refine rc ?_ | refine rl ?_ | refine rh ?_ | refine ru ?_ | refine rt ?_ | refine rf ?_ | refine rs ?_ | refine And.intro ?_ ?_) | omega | simp (maxSteps := 1000000) only [go_sem, simprocAttr, ↓reduceIte, f7, S.ioS, ioRows, ioN, delL, Item.ren, ren, renL, renR_ok, List.length_cons, List.length_nil, List.getElem?_cons_zero, List.getElem?_cons_succ, List.getElem?_nil, List.cons_append, List.nil_append, Nat.reduceAdd, Nat.sub_self, Nat.add_zero, List.filter])
    refine VcCall.fr (FnFr.of_ok refNo_ok rfl rfl) (by simp only [noIdR_ok, argOkL, argOk, allOk, argOkN, List.drop_zero, lk, reduceIte, reduceCtorEq, Nat.reduceEqDiff, Option.some.injEq, Item.row.injEq, Item.box.injEq, AV.ro.injEq, exists_eq_left, exists_and_left, exists_eq_left', exists_eq_right, and_assoc, and_true, true_and, List.cons.injEq, exists_eq', exists_eq]) 1 rfl (by simp [rowsB, Item.below, belowR_ok]) ?_
    (repeat' first | with_reducible (first | intro _ | refine rc ?_ | refine rl ?_ | refine rh ?_ | refine ru ?_ | refine rt ?_ | refine rf ?_ | refine rs ?_ | refine And.intro ?_ ?_) | omega | simp (maxSteps := 1000000) only [go_sem, simprocAttr, ↓reduceIte, renR_ok])
    refine Ret.auto 1 ?_ rfl ?_ <;> simp only [go_sem, reduceCtorEq, reduceIte, Nat.reduceEqDiff, Nat.reduceLT, Nat.reduceLeDiff, Int.natCast_succ, Post, renR_ok, belowR_ok]
end Go.Fv.G

namespace Go.Fv.G
open Go Go.Proofs
set_option linter.unusedSimpArgs false
set_option linter.unusedVariables false
set_option maxRecDepth 8000
set_option maxHeartbeats 1000000 in
theorem equalBools_ok (a b : List Bool) : FnOk Tryd.prog 13 [.ro (.bools a), .ro (.bools b)] (.bool (decide (a = b))) [] := by
  refine FnOk.of_vc Tryd.func13 rfl (by decide) (by simp [Tryd.f13]) [.tmp 4] rfl fun w0 T0 _ => ?_
  simp only [Tryd.f13, argEnv]
  simp (maxSteps := 1000000) only [go_sem, simprocAttr, ↓reduceIte]
  refine Asm.intro fun _ => Asm.intro fun _ => Ite.decide (fun h => ?_) fun h => ?_
  · simp (maxSteps := 1000000) only [go_sem, simprocAttr, ↓reduceIte]
    refine Ret.auto 0 ?_ rfl (by simp [subOk])
    have : a ≠ b := by intro e; subst e; exact h rfl
    simp only [go_sem, reduceCtorEq, reduceIte, Nat.reduceEqDiff, Nat.reduceLT, Nat.reduceLeDiff, Int.natCast_succ, Post, this, decide_false, decide_true]
  have hl : a.length = b.length := by omega
  simp (maxSteps := 1000000) only [go_sem, simprocAttr, ↓reduceIte]
  refine Asm.intro fun _ => VcLoop.intro (fun i : Nat => ⟨26, [(0, .ro (.bools a)), (1, .ro (.bools b)), (12, .int .i64 a.length), (13, .int .i64 i)], [], 0⟩) (fun i => i ≤ a.length ∧ ∀ j, j < i → a.getD j false = b.getD j false) (fun i => a.length - i) 0 ?_ ⟨by omega, fun j hj => by omega⟩ fun i hi => ?_
  · refine Ent.auto0 rfl ?_ ?_ <;> simp only [go_sem, reduceCtorEq, reduceIte, Nat.reduceEqDiff, Nat.reduceLT, Nat.reduceLeDiff, Int.natCast_succ]
  simp (maxSteps := 1000000) only [go_sem, simprocAttr, ↓reduceIte]
  refine Ite.decide (fun h1 => ?_) (fun h1 => ?_)
  · simp (maxSteps := 1000000) only [go_sem, simprocAttr, ↓reduceIte]
    refine VcDraw.lex [] [] (by kernel_rfl) (by kernel_rfl) ?_
    simp (maxSteps := 1000000) only [go_sem, simprocAttr, ↓reduceIte]
    (repeat' first | (with_reducible refine Asm.intro fun _ => ?_) | ((with_reducible refine Chk.intro ?_ ?_); (· first | omega | (with_reducible refine Chk.intro ?_ ?_ <;> omega) | (simp; done) | (simp; omega))) | ((with_reducible refine LetW.i64 ?_ ?_ ?_); (· omega); (· omega)) | ((with_reducible refine Ite.decide (fun _ => ?_) (fun _ => ?_)) <;> first | (exfalso; omega) | simp (maxSteps := 1000000) only [go_sem, simprocAttr, ↓reduceIte]) | ((with_reducible refine Ite.bool (fun _ => ?_) (fun _ => ?_)) <;> simp (maxSteps := 1000000) only [go_sem, simprocAttr, ↓reduceIte]) | (with_reducible refine And.intro ?_ ?_))
    · rename_i h2
      refine Ret.auto 0 ?_ rfl (by simp [subOk])
      have : a ≠ b := by intro e; subst e; exact h2 rfl
      simp only [go_sem, reduceCtorEq, reduceIte, Nat.reduceEqDiff, Nat.reduceLT, Nat.reduceLeDiff, Int.natCast_succ, Post, this]
    · rename_i h2
      refine ⟨i + 1, Ent.auto0 rfl ?_ ?_, ⟨by omega, fun j hj => ?_⟩, by omega⟩
      · simp only [go_sem, reduceCtorEq, reduceIte, Nat.reduceEqDiff, Nat.reduceLT, Nat.reduceLeDiff, Int.natCast_succ]
        all_goals omega
      · simp only [go_sem, reduceCtorEq, reduceIte, Nat.reduceEqDiff, Nat.reduceLT, Nat.reduceLeDiff, Int.natCast_succ]
      · by_cases e : j = i
        · subst e; exact Decidable.of_not_not h2
        · exact hi.2 j (by omega)
  · simp (maxSteps := 1000000) only [go_sem, simprocAttr, ↓reduceIte]
    refine Ret.auto 0 ?_ rfl (by simp [subOk])
    have : a = b := eq_of_getD false hl fun j hj => hi.2 j (by omega)
    simp only [go_sem, reduceCtorEq, reduceIte, Nat.reduceEqDiff, Nat.reduceLT, Nat.reduceLeDiff, Int.natCast_succ, Post, this, decide_false, decide_true]

end Go.Fv.G

/- The law of Gamma and ReadGamma. -/
namespace Go.Fv.G
open Go Go.Proofs
set_option linter.unusedSimpArgs false
set_option linter.unusedVariables false
set_option linter.unnecessarySimpa false
set_option maxRecDepth 8000

theorem landedG_ok : FnOk Tryd.prog 5 [] (.bool true) [] := by
  have k := isName_ok [97]
  refine FnOk.of_vc Tryd.func5 rfl (by decide) (by simp [Tryd.f5]) [.tmp 0] rfl fun w0 T0 _ => ?_
  simp only [Tryd.f5, argEnv]
  have e : nameOk [97] = true := by decide
  rw [e] at k
  (repeat' first | with_reducible (first | intro _ | refine rc ?_ | refine rl ?_ | refine rh ?_ | refine ru ?_ | refine rt ?_ | refine rf ?_ | refine rs ?_ | refine And.intro ?_ ?_) | omega | simp (maxSteps := 1000000) only [go_sem, simprocAttr, ↓reduceIte])
  refine VcCall.k (k) ?_
  (repeat' first | with_reducible (first | intro _ | refine rc ?_ | refine rl ?_ | refine rh ?_ | refine ru ?_ | refine rt ?_ | refine rf ?_ | refine rs ?_ | refine And.intro ?_ ?_) | omega | simp (maxSteps := 1000000) only [go_sem, simprocAttr, ↓reduceIte])
  refine Ret.auto 0 ?_ rfl ?_ <;> simp only [go_sem, reduceCtorEq, reduceIte, Nat.reduceEqDiff, Nat.reduceLT, Nat.reduceLeDiff, Int.natCast_succ, Post]
end Go.Fv.G

/- The law of Line and ReadLine. -/
namespace Go.Fv.G
open Go Go.Proofs
set_option linter.unusedSimpArgs false
set_option linter.unusedVariables false
set_option linter.unnecessarySimpa false
set_option maxRecDepth 8000

def lineS (row above : List Bool) : Bytes := if row.length > 4000 ∨ above.length > 4000 then [] else if row.length ≠ above.length then [] else lineB row above
def lineC (row above : List Bool) : Int := if row.length > 4000 ∨ above.length > 4000 then 4 else if row.length ≠ above.length then 2 else 0
theorem lineE_ok (row above : List Bool) : FnOk Tryd.prog 10 [.ro (.bools row), .ro (.bools above)] (.tup [.str (lineS row above), .int .i64 (lineC row above)]) [] := by
  by_cases h1 : row.length > 4000 ∨ above.length > 4000
  · have e1 : lineS row above = [] := if_pos h1
    have e2 : lineC row above = 4 := if_pos h1
    rw [e1, e2]
    refine FnOk.of_vc Tryd.func10 rfl (by decide) (by simp [Tryd.f10]) [.tmp 4, .tmp 5] rfl fun w0 T0 _ => ?_
    simp only [Tryd.f10, argEnv]
    by_cases h2 : 4000 < row.length
    · have f1 : (4000 < (row.length : Int)) = True := eq_true (by omega)
      (repeat' first | with_reducible (first | intro _ | refine rc ?_ | refine rl ?_ | refine rh ?_ | refine ru ?_ | refine rt ?_ | refine rf ?_ | refine rs ?_ | refine And.intro ?_ ?_) | omega | simp (maxSteps := 1000000) only [go_sem, simprocAttr, ↓reduceIte, f1])
      refine Ret.auto 0 ?_ rfl ?_ <;> simp only [go_sem, reduceCtorEq, reduceIte, Nat.reduceEqDiff, Nat.reduceLT, Nat.reduceLeDiff, Int.natCast_succ, Post]
    · have f1 : (4000 < (row.length : Int)) = False := eq_false (by omega)
      have f2 : (4000 < (above.length : Int)) = True := eq_true (by omega)
      (repeat' first | with_reducible (first | intro _ | refine rc ?_ | refine rl ?_ | refine rh ?_ | refine ru ?_ | refine rt ?_ | refine rf ?_ | refine rs ?_ | refine And.intro ?_ ?_) | omega | simp (maxSteps := 1000000) only [go_sem, simprocAttr, ↓reduceIte, f1, f2])
      refine Ret.auto 0 ?_ rfl ?_ <;> simp only [go_sem, reduceCtorEq, reduceIte, Nat.reduceEqDiff, Nat.reduceLT, Nat.reduceLeDiff, Int.natCast_succ, Post]
  have f1 : (4000 < (row.length : Int)) = False := eq_false (by omega)
  have f2 : (4000 < (above.length : Int)) = False := eq_false (by omega)
  by_cases h3 : row.length = above.length
  · have e1 : lineS row above = lineB row above := by unfold lineS; rw [if_neg h1, if_neg (fun h => h h3)]
    have e2 : lineC row above = 0 := by unfold lineC; rw [if_neg h1, if_neg (fun h => h h3)]
    have k := line_ok row above (by omega) h3.symm
    rw [e1, e2]
    have f3 : ((row.length : Int) = (above.length : Int)) = True := eq_true (by omega)
    refine FnOk.of_vc Tryd.func10 rfl (by decide) (by simp [Tryd.f10]) [.tmp 4, .tmp 5] rfl fun w0 T0 _ => ?_
    simp only [Tryd.f10, argEnv]
    (repeat' first | with_reducible (first | intro _ | refine rc ?_ | refine rl ?_ | refine rh ?_ | refine ru ?_ | refine rt ?_ | refine rf ?_ | refine rs ?_ | refine And.intro ?_ ?_) | omega | simp (maxSteps := 1000000) only [go_sem, simprocAttr, ↓reduceIte, f1, f2, f3])
    refine VcCall.k (k) ?_
    (repeat' first | with_reducible (first | intro _ | refine rc ?_ | refine rl ?_ | refine rh ?_ | refine ru ?_ | refine rt ?_ | refine rf ?_ | refine rs ?_ | refine And.intro ?_ ?_) | omega | simp (maxSteps := 1000000) only [go_sem, simprocAttr, ↓reduceIte])
    refine Ret.auto 0 ?_ rfl ?_ <;> simp only [go_sem, reduceCtorEq, reduceIte, Nat.reduceEqDiff, Nat.reduceLT, Nat.reduceLeDiff, Int.natCast_succ, Post]
  · have e1 : lineS row above = [] := by unfold lineS; rw [if_neg h1, if_pos h3]
    have e2 : lineC row above = 2 := by unfold lineC; rw [if_neg h1, if_pos h3]
    rw [e1, e2]
    have f3 : ((row.length : Int) = (above.length : Int)) = False := eq_false (by omega)
    refine FnOk.of_vc Tryd.func10 rfl (by decide) (by simp [Tryd.f10]) [.tmp 4, .tmp 5] rfl fun w0 T0 _ => ?_
    simp only [Tryd.f10, argEnv]
    (repeat' first | with_reducible (first | intro _ | refine rc ?_ | refine rl ?_ | refine rh ?_ | refine ru ?_ | refine rt ?_ | refine rf ?_ | refine rs ?_ | refine And.intro ?_ ?_) | omega | simp (maxSteps := 1000000) only [go_sem, simprocAttr, ↓reduceIte, f1, f2, f3])
    refine Ret.auto 0 ?_ rfl ?_ <;> simp only [go_sem, reduceCtorEq, reduceIte, Nat.reduceEqDiff, Nat.reduceLT, Nat.reduceLeDiff, Int.natCast_succ, Post]
theorem readLineE_ok (s : Bytes) (above : List Bool) (hs : s.length ≤ 290000000000000) (hw : above.length ≤ 4000) :
    FnOk Tryd.prog 11 [.str s, .ro (.bools above)] (.tup [.own 0, .int .i64 (lnN (rdLine true above s)), .int .i64 (lnE (rdLine true above s))]) [(0, .row 4 (.bools (lnL (rdLine true above s))))] := by
  have k := readLine_ok s above hs hw
  have f1 : (4000 < (above.length : Int)) = False := eq_false (by omega)
  have hres : rdLine true above s = match rdAll true above s with | none => none | some (l, n) => if lineB l above = s.take n then some (l, n) else none := rfl
  rw [hres]
  refine FnOk.of_vc Tryd.func11 rfl (by decide) (by simp [Tryd.f11]) [.tmp 4, .tmp 5, .tmp 6] rfl fun w0 T0 _ => ?_
  simp only [Tryd.f11, argEnv]
  cases hr : rdAll true above s with
  | none =>
    rw [hr, rlOut_none, rlRows_none] at k
    dsimp only
    rw [lnL_none, lnN_none, lnE_none]
    (repeat' first | with_reducible (first | intro _ | refine rc ?_ | refine rl ?_ | refine rh ?_ | refine ru ?_ | refine rt ?_ | refine rf ?_ | refine rs ?_ | refine And.intro ?_ ?_) | omega | simp (maxSteps := 1000000) only [go_sem, simprocAttr, ↓reduceIte, f1])
    refine VcCall.k (k) ?_
    (repeat' first | with_reducible (first | intro _ | refine rc ?_ | refine rl ?_ | refine rh ?_ | refine ru ?_ | refine rt ?_ | refine rf ?_ | refine rs ?_ | refine And.intro ?_ ?_) | omega | simp (maxSteps := 1000000) only [go_sem, simprocAttr, ↓reduceIte])
    refine Ret.auto 1 ?_ rfl ?_ <;> simp only [go_sem, reduceCtorEq, reduceIte, Nat.reduceEqDiff, Nat.reduceLT, Nat.reduceLeDiff, Int.natCast_succ, Post, renR_ok, belowR_ok]
  | some x =>
    obtain ⟨l, n⟩ := x
    rw [hr, rlOut_some, rlRows_some] at k
    dsimp only
    by_cases hb : lineB l above = s.take n
    · rw [if_pos hb, lnL_some, lnN_some, lnE_some]
      rw [decide_eq_true hb] at k
      (repeat' first | with_reducible (first | intro _ | refine rc ?_ | refine rl ?_ | refine rh ?_ | refine ru ?_ | refine rt ?_ | refine rf ?_ | refine rs ?_ | refine And.intro ?_ ?_) | omega | simp (maxSteps := 1000000) only [go_sem, simprocAttr, ↓reduceIte, f1])
      refine VcCall.fr (FnFr.of_ok k rfl rfl) (by simp only [noIdR_ok, argOkL, argOk, allOk, argOkN, List.drop_zero, lk, reduceIte, reduceCtorEq, Nat.reduceEqDiff, Option.some.injEq, Item.row.injEq, Item.box.injEq, AV.ro.injEq, exists_eq_left, exists_and_left, exists_eq_left', exists_eq_right, and_assoc, and_true, true_and, List.cons.injEq, exists_eq', exists_eq]) 1 rfl (by simp [rowsB, Item.below, belowR_ok]) ?_
      (repeat' first | with_reducible (first | intro _ | refine rc ?_ | refine rl ?_ | refine rh ?_ | refine ru ?_ | refine rt ?_ | refine rf ?_ | refine rs ?_ | refine And.intro ?_ ?_) | omega | simp (maxSteps := 1000000) only [go_sem, simprocAttr, ↓reduceIte, renR_ok])
      refine Ret.auto 1 ?_ rfl ?_ <;> simp only [go_sem, reduceCtorEq, reduceIte, Nat.reduceEqDiff, Nat.reduceLT, Nat.reduceLeDiff, Int.natCast_succ, Post, renR_ok, belowR_ok]
    · rw [if_neg hb, lnL_none, lnN_none, lnE_none]
      rw [decide_eq_false hb] at k
      (repeat' first | with_reducible (first | intro _ | refine rc ?_ | refine rl ?_ | refine rh ?_ | refine ru ?_ | refine rt ?_ | refine rf ?_ | refine rs ?_ | refine And.intro ?_ ?_) | omega | simp (maxSteps := 1000000) only [go_sem, simprocAttr, ↓reduceIte, f1])
      refine VcCall.fr (FnFr.of_ok k rfl rfl) (by simp only [noIdR_ok, argOkL, argOk, allOk, argOkN, List.drop_zero, lk, reduceIte, reduceCtorEq, Nat.reduceEqDiff, Option.some.injEq, Item.row.injEq, Item.box.injEq, AV.ro.injEq, exists_eq_left, exists_and_left, exists_eq_left', exists_eq_right, and_assoc, and_true, true_and, List.cons.injEq, exists_eq', exists_eq]) 1 rfl (by simp [rowsB, Item.below, belowR_ok]) ?_
      (repeat' first | with_reducible (first | intro _ | refine rc ?_ | refine rl ?_ | refine rh ?_ | refine ru ?_ | refine rt ?_ | refine rf ?_ | refine rs ?_ | refine And.intro ?_ ?_) | omega | simp (maxSteps := 1000000) only [go_sem, simprocAttr, ↓reduceIte, renR_ok])
      refine Ret.auto 1 ?_ rfl ?_ <;> simp only [go_sem, reduceCtorEq, reduceIte, Nat.reduceEqDiff, Nat.reduceLT, Nat.reduceLeDiff, Int.natCast_succ, Post, renR_ok, belowR_ok]
theorem lineB_len {row above : List Bool} (hr : row.length ≤ 4000) (hw : above.length = row.length) : (lineB row above).length ≤ 1000000 := by
  have key : ∀ (f p : Nat) (ink : Bool), row.length + 1 - p ≤ f → (lnGo row above p ink).length ≤ 100 * f := by
    intro f
    induction f with
    | zero => intro p ink h; rw [lnGo_end (by omega)]; simp
    | succ f ih =>
      intro p ink h
      by_cases hp : p ≤ row.length
      · have hs := lnStep_lt hw hp ink
        have hsh := lnStep_short (above := above) hr p ink
        rw [lnGo_step hw hp, List.length_append]
        have := ih (lnStep row above p ink).p (lnStep row above p ink).k (by omega)
        omega
      · rw [lnGo_end hp]; simp
  unfold lineB
  split
  · simp
  · have := key (row.length + 1) 0 false (by omega); omega
set_option maxHeartbeats 8000000 in
theorem linesAreCoded_ok (row above : List Bool) (s : Bytes) (hs : s.length ≤ 140737488351232) : FnOk Tryd.prog 4 [.ro (.bools row), .ro (.bools above), .str s] (.bool true) [] := by
  have kl := lineE_ok row above
  by_cases h1 : row.length > 4000 ∨ above.length > 4000
  · have e1 : lineS row above = [] := if_pos h1
    have e2 : lineC row above = 4 := if_pos h1
    rw [e1, e2] at kl
    refine FnOk.of_vc Tryd.func4 rfl (by decide) (by simp [Tryd.f4]) [.tmp 6] rfl fun w0 T0 _ => ?_
    simp only [Tryd.f4, argEnv]
    (repeat' first | with_reducible (first | intro _ | refine rc ?_ | refine rl ?_ | refine rh ?_ | refine ru ?_ | refine rt ?_ | refine rf ?_ | refine rs ?_ | refine And.intro ?_ ?_) | omega | simp (maxSteps := 1000000) only [go_sem, simprocAttr, ↓reduceIte])
    refine VcCall.k (landedG_ok) ?_
    (repeat' first | with_reducible (first | intro _ | refine rc ?_ | refine rl ?_ | refine rh ?_ | refine ru ?_ | refine rt ?_ | refine rf ?_ | refine rs ?_ | refine And.intro ?_ ?_) | omega | simp (maxSteps := 1000000) only [go_sem, simprocAttr, ↓reduceIte])
    refine VcCall.k (kl) ?_
    by_cases h2 : 4000 < row.length
    · have f1 : (4000 < (row.length : Int)) = True := eq_true (by omega)
      (repeat' first | with_reducible (first | intro _ | refine rc ?_ | refine rl ?_ | refine rh ?_ | refine ru ?_ | refine rt ?_ | refine rf ?_ | refine rs ?_ | refine And.intro ?_ ?_) | omega | simp (maxSteps := 1000000) only [go_sem, simprocAttr, ↓reduceIte, f1])
      refine Ret.auto 0 ?_ rfl ?_ <;> simp only [go_sem, reduceCtorEq, reduceIte, Nat.reduceEqDiff, Nat.reduceLT, Nat.reduceLeDiff, Int.natCast_succ, Post]
    · have f1 : (4000 < (row.length : Int)) = False := eq_false (by omega)
      have f2 : (4000 < (above.length : Int)) = True := eq_true (by omega)
      (repeat' first | with_reducible (first | intro _ | refine rc ?_ | refine rl ?_ | refine rh ?_ | refine ru ?_ | refine rt ?_ | refine rf ?_ | refine rs ?_ | refine And.intro ?_ ?_) | omega | simp (maxSteps := 1000000) only [go_sem, simprocAttr, ↓reduceIte, f1, f2])
      refine Ret.auto 0 ?_ rfl ?_ <;> simp only [go_sem, reduceCtorEq, reduceIte, Nat.reduceEqDiff, Nat.reduceLT, Nat.reduceLeDiff, Int.natCast_succ, Post]
  have hw : above.length ≤ 4000 := by omega
  have f1 : (4000 < (row.length : Int)) = False := eq_false (by omega)
  have f2 : (4000 < (above.length : Int)) = False := eq_false (by omega)
  have k1 := readLineE_ok s above (by omega) hw
  have k2 := refReadLine_ok s above (by omega) hw
  rw [rdLine_eq true false hw s] at k1
  have ke := equalBools_ok (lnL (rdLine false above s)) (lnL (rdLine false above s))
  rw [decide_eq_true rfl] at ke
  generalize lnL (rdLine false above s) = l1 at *
  generalize lnN (rdLine false above s) = n1 at *
  generalize lnE (rdLine false above s) = x1 at *
  by_cases h3 : row.length = above.length
  · have e1 : lineS row above = lineB row above := by unfold lineS; rw [if_neg h1, if_neg (fun h => h h3)]
    have e2 : lineC row above = 0 := by unfold lineC; rw [if_neg h1, if_neg (fun h => h h3)]
    rw [e1, e2] at kl
    have hll := lineB_len (row := row) (above := above) (by omega) h3.symm
    have k3 := readLineE_ok (lineB row above ++ s) above (by rw [List.length_append]; omega) hw
    rw [rdLine_code true h3.symm (by omega) s, lnL_some, lnN_some, lnE_some] at k3
    have k4 := refLine_ok row above (by omega) h3.symm
    have k5 := equalBools_ok row row
    rw [decide_eq_true rfl] at k5
    generalize lineB row above = lb at *
    have f3 : ((row.length : Int) = (above.length : Int)) = True := eq_true (by omega)
    refine FnOk.of_vc Tryd.func4 rfl (by decide) (by simp [Tryd.f4]) [.tmp 6] rfl fun w0 T0 _ => ?_
    simp only [Tryd.f4, argEnv]
    (repeat' first | with_reducible (first | intro _ | refine rc ?_ | refine rl ?_ | refine rh ?_ | refine ru ?_ | refine rt ?_ | refine rf ?_ | refine rs ?_ | refine And.intro ?_ ?_) | omega | simp (maxSteps := 1000000) only [go_sem, simprocAttr, ↓reduceIte])
    refine VcCall.k (landedG_ok) ?_
    (repeat' first | with_reducible (first | intro _ | refine rc ?_ | refine rl ?_ | refine rh ?_ | refine ru ?_ | refine rt ?_ | refine rf ?_ | refine rs ?_ | refine And.intro ?_ ?_) | omega | simp (maxSteps := 1000000) only [go_sem, simprocAttr, ↓reduceIte])
    refine VcCall.k (kl) ?_
    (repeat' first | with_reducible (first | intro _ | refine rc ?_ | refine rl ?_ | refine rh ?_ | refine ru ?_ | refine rt ?_ | refine rf ?_ | refine rs ?_ | refine And.intro ?_ ?_) | omega | simp (maxSteps := 1000000) only [go_sem, simprocAttr, ↓reduceIte, f1, f2, f3])
    refine VcCall.fr (FnFr.of_ok k3 rfl rfl) (by simp only [noIdR_ok, argOkL, argOk, allOk, argOkN, List.drop_zero, lk, reduceIte, reduceCtorEq, Nat.reduceEqDiff, Option.some.injEq, Item.row.injEq, Item.box.injEq, AV.ro.injEq, exists_eq_left, exists_and_left, exists_eq_left', exists_eq_right, and_assoc, and_true, true_and, List.cons.injEq, exists_eq', exists_eq]) 1 rfl (by simp [rowsB, Item.below, belowR_ok]) ?_
    (repeat' first | with_reducible (first | intro _ | refine rc ?_ | refine rl ?_ | refine rh ?_ | refine ru ?_ | refine rt ?_ | refine rf ?_ | refine rs ?_ | refine And.intro ?_ ?_) | omega | simp (maxSteps := 1000000) only [go_sem, simprocAttr, ↓reduceIte, renR_ok])
    refine VcCall.k (k4) ?_
    (repeat' first | with_reducible (first | intro _ | refine rc ?_ | refine rl ?_ | refine rh ?_ | refine ru ?_ | refine rt ?_ | refine rf ?_ | refine rs ?_ | refine And.intro ?_ ?_) | omega | simp (maxSteps := 1000000) only [go_sem, simprocAttr, ↓reduceIte, renR_ok])
    refine VcCall.k (k5) ?_
    (repeat' first | with_reducible (first | intro _ | refine rc ?_ | refine rl ?_ | refine rh ?_ | refine ru ?_ | refine rt ?_ | refine rf ?_ | refine rs ?_ | refine And.intro ?_ ?_) | omega | simp (maxSteps := 1000000) only [go_sem, simprocAttr, ↓reduceIte, renR_ok])
    refine VcCall.fr (FnFr.of_ok k1 rfl rfl) (by simp only [noIdR_ok, argOkL, argOk, allOk, argOkN, List.drop_zero, lk, reduceIte, reduceCtorEq, Nat.reduceEqDiff, Option.some.injEq, Item.row.injEq, Item.box.injEq, AV.ro.injEq, exists_eq_left, exists_and_left, exists_eq_left', exists_eq_right, and_assoc, and_true, true_and, List.cons.injEq, exists_eq', exists_eq]) 1 rfl (by simp [rowsB, Item.below, belowR_ok]) ?_
    (repeat' first | with_reducible (first | intro _ | refine rc ?_ | refine rl ?_ | refine rh ?_ | refine ru ?_ | refine rt ?_ | refine rf ?_ | refine rs ?_ | refine And.intro ?_ ?_) | omega | simp (maxSteps := 1000000) only [go_sem, simprocAttr, ↓reduceIte, renR_ok])
    refine VcCall.fr (FnFr.of_ok k2 rfl rfl) (by simp only [noIdR_ok, argOkL, argOk, allOk, argOkN, List.drop_zero, lk, reduceIte, reduceCtorEq, Nat.reduceEqDiff, Option.some.injEq, Item.row.injEq, Item.box.injEq, AV.ro.injEq, exists_eq_left, exists_and_left, exists_eq_left', exists_eq_right, and_assoc, and_true, true_and, List.cons.injEq, exists_eq', exists_eq]) 1 rfl (by simp [rowsB, Item.below, belowR_ok]) ?_
    (repeat' first | with_reducible (first | intro _ | refine rc ?_ | refine rl ?_ | refine rh ?_ | refine ru ?_ | refine rt ?_ | refine rf ?_ | refine rs ?_ | refine And.intro ?_ ?_) | omega | simp (maxSteps := 1000000) only [go_sem, simprocAttr, ↓reduceIte, renR_ok])
    refine VcCall.k (ke) ?_
    (repeat' first | with_reducible (first | intro _ | refine rc ?_ | refine rl ?_ | refine rh ?_ | refine ru ?_ | refine rt ?_ | refine rf ?_ | refine rs ?_ | refine And.intro ?_ ?_) | omega | simp (maxSteps := 1000000) only [go_sem, simprocAttr, ↓reduceIte, renR_ok])
    refine Ret.auto 0 ?_ rfl ?_ <;> simp only [go_sem, reduceCtorEq, reduceIte, Nat.reduceEqDiff, Nat.reduceLT, Nat.reduceLeDiff, Int.natCast_succ, Post]
  · have e1 : lineS row above = [] := by unfold lineS; rw [if_neg h1, if_pos h3]
    have e2 : lineC row above = 2 := by unfold lineC; rw [if_neg h1, if_pos h3]
    rw [e1, e2] at kl
    have f3 : ((row.length : Int) = (above.length : Int)) = False := eq_false (by omega)
    refine FnOk.of_vc Tryd.func4 rfl (by decide) (by simp [Tryd.f4]) [.tmp 6] rfl fun w0 T0 _ => ?_
    simp only [Tryd.f4, argEnv]
    (repeat' first | with_reducible (first | intro _ | refine rc ?_ | refine rl ?_ | refine rh ?_ | refine ru ?_ | refine rt ?_ | refine rf ?_ | refine rs ?_ | refine And.intro ?_ ?_) | omega | simp (maxSteps := 1000000) only [go_sem, simprocAttr, ↓reduceIte])
    refine VcCall.k (landedG_ok) ?_
    (repeat' first | with_reducible (first | intro _ | refine rc ?_ | refine rl ?_ | refine rh ?_ | refine ru ?_ | refine rt ?_ | refine rf ?_ | refine rs ?_ | refine And.intro ?_ ?_) | omega | simp (maxSteps := 1000000) only [go_sem, simprocAttr, ↓reduceIte])
    refine VcCall.k (kl) ?_
    (repeat' first | with_reducible (first | intro _ | refine rc ?_ | refine rl ?_ | refine rh ?_ | refine ru ?_ | refine rt ?_ | refine rf ?_ | refine rs ?_ | refine And.intro ?_ ?_) | omega | simp (maxSteps := 1000000) only [go_sem, simprocAttr, ↓reduceIte, f1, f2, f3])
    refine VcCall.fr (FnFr.of_ok k1 rfl rfl) (by simp only [noIdR_ok, argOkL, argOk, allOk, argOkN, List.drop_zero, lk, reduceIte, reduceCtorEq, Nat.reduceEqDiff, Option.some.injEq, Item.row.injEq, Item.box.injEq, AV.ro.injEq, exists_eq_left, exists_and_left, exists_eq_left', exists_eq_right, and_assoc, and_true, true_and, List.cons.injEq, exists_eq', exists_eq]) 1 rfl (by simp [rowsB, Item.below, belowR_ok]) ?_
    (repeat' first | with_reducible (first | intro _ | refine rc ?_ | refine rl ?_ | refine rh ?_ | refine ru ?_ | refine rt ?_ | refine rf ?_ | refine rs ?_ | refine And.intro ?_ ?_) | omega | simp (maxSteps := 1000000) only [go_sem, simprocAttr, ↓reduceIte, renR_ok])
    refine VcCall.fr (FnFr.of_ok k2 rfl rfl) (by simp only [noIdR_ok, argOkL, argOk, allOk, argOkN, List.drop_zero, lk, reduceIte, reduceCtorEq, Nat.reduceEqDiff, Option.some.injEq, Item.row.injEq, Item.box.injEq, AV.ro.injEq, exists_eq_left, exists_and_left, exists_eq_left', exists_eq_right, and_assoc, and_true, true_and, List.cons.injEq, exists_eq', exists_eq]) 1 rfl (by simp [rowsB, Item.below, belowR_ok]) ?_
    (repeat' first | with_reducible (first | intro _ | refine rc ?_ | refine rl ?_ | refine rh ?_ | refine ru ?_ | refine rt ?_ | refine rf ?_ | refine rs ?_ | refine And.intro ?_ ?_) | omega | simp (maxSteps := 1000000) only [go_sem, simprocAttr, ↓reduceIte, renR_ok])
    refine VcCall.k (ke) ?_
    (repeat' first | with_reducible (first | intro _ | refine rc ?_ | refine rl ?_ | refine rh ?_ | refine ru ?_ | refine rt ?_ | refine rf ?_ | refine rs ?_ | refine And.intro ?_ ?_) | omega | simp (maxSteps := 1000000) only [go_sem, simprocAttr, ↓reduceIte, renR_ok])
    refine Ret.auto 0 ?_ rfl ?_ <;> simp only [go_sem, reduceCtorEq, reduceIte, Nat.reduceEqDiff, Nat.reduceLT, Nat.reduceLeDiff, Int.natCast_succ, Post]
end Go.Fv.G
