/-
  A part of the proof of the claim: walks over the program's functions and the plain laws that these need. No condition of its own.
-/
import Derived.Test.YtmdaiceacfgkpaaGreatDoorYCorrectsCardPart4
import Derived.Test.YtmdaiceacfgkpaaGreatDoorYCorrectsCardPart5
import Derived.Test.YtmdaiceacfgkpaaGreatDoorYCorrectsCardPart1
import Derived.Test.YtmdaiceacfgkpaaGreatDoorFvPart11
import Derived.Test.YtmdaiceacfgkpaaGreatDoorYCorrectsCardPart2
import Derived.Test.YtmdaiceacfgkpaaGreatDoorYCorrectsCardPart3
/- Comparisons of guesses, of the program and of the reference, and slices.SortFunc of guesses. -/
namespace Go.Proofs
open Go.Shelf
def Tryz.lSoG_ren : Go.Shelf.Ren := ⟨fun | 6 => 54 | 15 => 95 | 14 => 94 | 28 => 126 | 29 => 127 | 20 => 118 | 21 => 119 | 22 => 120 | 23 => 121 | 24 => 122 | 25 => 123 | 26 => 124 | 27 => 125 | 46 => 157 | 47 => 158 | 48 => 159 | 49 => 160 | 50 => 161 | 57 => 174 | n => n, fun | 22 => 36 | 24 => 41 | 25 => 94 | 3 => 3 | 39 => 145 | 0 => 0 | 53 => 165 | 55 => 167 | 4 => 4 | 46 => 158 | 45 => 157 | 50 => 162 | 5 => 5 | 9 => 9 | 66 => 187 | 70 => 191 | 76 => 199 | 77 => 200 | n => n, fun | n => n⟩
theorem Tryz.lSoG : Go.Proofs.SlLaysF0.n6 Tryz.prog Tryz.lSoG_ren := {
  mixed := by kernel_rfl
  f6 := ⟨Tryz.f54.name, by decide, Tryz.func54.trans (congrArg some (by kernel_rfl))⟩
  f14 := ⟨Tryz.f94.name, by decide, Tryz.func94.trans (congrArg some (by kernel_rfl))⟩
  f15 := Tryz.func95.trans (congrArg some (by kernel_rfl))
  f20 := ⟨Tryz.f118.name, by decide, Tryz.func118.trans (congrArg some (by kernel_rfl))⟩
  f21 := ⟨Tryz.f119.name, by decide, Tryz.func119.trans (congrArg some (by kernel_rfl))⟩
  f22 := ⟨Tryz.f120.name, by decide, Tryz.func120.trans (congrArg some (by kernel_rfl))⟩
  f23 := ⟨Tryz.f121.name, by decide, Tryz.func121.trans (congrArg some (by kernel_rfl))⟩
  f24 := ⟨Tryz.f122.name, by decide, Tryz.func122.trans (congrArg some (by kernel_rfl))⟩
  f25 := ⟨Tryz.f123.name, by decide, Tryz.func123.trans (congrArg some (by kernel_rfl))⟩
  f26 := ⟨Tryz.f124.name, by decide, Tryz.func124.trans (congrArg some (by kernel_rfl))⟩
  f27 := ⟨Tryz.f125.name, by decide, Tryz.func125.trans (congrArg some (by kernel_rfl))⟩
  f28 := Tryz.func126.trans (congrArg some (by kernel_rfl))
  f29 := Tryz.func127.trans (congrArg some (by kernel_rfl))
  f46 := ⟨Tryz.f157.name, by decide, Tryz.func157.trans (congrArg some (by kernel_rfl))⟩
  f47 := Tryz.func158.trans (congrArg some (by kernel_rfl))
  f48 := Tryz.func159.trans (congrArg some (by kernel_rfl))
  f49 := ⟨Tryz.f160.name, by decide, Tryz.func160.trans (congrArg some (by kernel_rfl))⟩
  f50 := ⟨Tryz.f161.name, by decide, Tryz.func161.trans (congrArg some (by kernel_rfl))⟩
  f57 := ⟨Tryz.f174.name, by decide, Tryz.func174.trans (congrArg some (by kernel_rfl))⟩
  t0 := Tryz.underlying0
  a0 := Tryz.isAgg0
  z0 := Tryz.sizeOf0
  v0 := Tryz.zeroValue0
  t3 := Tryz.underlying3
  a3 := Tryz.isAgg3
  z3 := Tryz.sizeOf3
  v3 := Tryz.zeroValue3
  t4 := Tryz.underlying4
  a4 := Tryz.isAgg4
  z4 := Tryz.sizeOf4
  v4 := Tryz.zeroValue4
  t5 := Tryz.underlying5
  a5 := Tryz.isAgg5
  z5 := Tryz.sizeOf5
  v5 := Tryz.zeroValue5
  t9 := Tryz.underlying9
  a9 := Tryz.isAgg9
  z9 := Tryz.sizeOf9
  v9 := Tryz.zeroValue9
  t22 := Tryz.underlying36
  a22 := Tryz.isAgg36
  z22 := Tryz.sizeOf36
  v22 := Tryz.zeroValue36
  t25 := Tryz.underlying94
  a25 := Tryz.isAgg94
  z25 := Tryz.sizeOf94
  v25 := Tryz.zeroValue94
  t39 := Tryz.underlying145
  a39 := Tryz.isAgg145
  z39 := Tryz.sizeOf145
  v39 := Tryz.zeroValue145
  t45 := Tryz.underlying157
  a45 := Tryz.isAgg157
  z45 := Tryz.sizeOf157
  v45 := Tryz.zeroValue157
  t46 := Tryz.underlying158
  a46 := Tryz.isAgg158
  z46 := Tryz.sizeOf158
  v46 := Tryz.zeroValue158
  t50 := Tryz.underlying162
  a50 := Tryz.isAgg162
  z50 := Tryz.sizeOf162
  v50 := Tryz.zeroValue162
  t53 := Tryz.underlying165
  a53 := Tryz.isAgg165
  z53 := Tryz.sizeOf165
  v53 := Tryz.zeroValue165
  t55 := Tryz.underlying167
  a55 := Tryz.isAgg167
  z55 := Tryz.sizeOf167
  v55 := Tryz.zeroValue167
  t66 := Tryz.underlying187
  a66 := Tryz.isAgg187
  z66 := Tryz.sizeOf187
  v66 := Tryz.zeroValue187
  t70 := Tryz.underlying191
  a70 := Tryz.isAgg191
  z70 := Tryz.sizeOf191
  v70 := Tryz.zeroValue191
  t76 := Tryz.underlying199
  a76 := Tryz.isAgg199
  z76 := Tryz.sizeOf199
  v76 := Tryz.zeroValue199
  t77 := Tryz.underlying200
  a77 := Tryz.isAgg200
  z77 := Tryz.sizeOf200
  v77 := Tryz.zeroValue200 }
end Go.Proofs
namespace Go.Fv.Y
open Go Go.Proofs
set_option linter.unusedSimpArgs false
set_option linter.unusedVariables false
set_option linter.unnecessarySimpa false
set_option maxRecDepth 8000

theorem gsNaN_ok (a : Int) : FnOk Tryz.prog 117 [.int .i64 a] (.bool false) [] := by
  refine FnOk.of_vc Tryz.func117 rfl (by decide) (by simp [Tryz.f117]) [.tmp 2] rfl fun w0 T0 _ => ?_
  simp only [Tryz.f117, argEnv]
  (repeat' first | with_reducible (first | intro _ | refine rc ?_ | refine rl ?_ | refine rh ?_ | refine rt ?_ | refine rf ?_ | refine rs ?_ | refine And.intro ?_ ?_) | omega | simp (maxSteps := 1000000) only [go_sem, simprocAttr, ↓reduceIte])
  refine Ret.auto 0 ?_ rfl ?_ <;> simp only [go_sem, reduceCtorEq, reduceIte, Nat.reduceEqDiff, Nat.reduceLT, Nat.reduceLeDiff, Int.natCast_succ, Post]
  all_goals simp
theorem gsCompare_ok (a b : Int) : FnOk Tryz.prog 92 [.int .i64 a, .int .i64 b] (.int .i64 (cmpI a b)) [] := by
  unfold cmpI
  refine FnOk.of_vc Tryz.func92 rfl (by decide) (by simp [Tryz.f92]) [.tmp 4] rfl fun w0 T0 _ => ?_
  simp only [Tryz.f92, argEnv]
  (repeat' first | with_reducible (first | intro _ | refine rc ?_ | refine rl ?_ | refine rh ?_ | refine rt ?_ | refine rf ?_ | refine rs ?_ | refine And.intro ?_ ?_) | omega | simp (maxSteps := 1000000) only [go_sem, simprocAttr, ↓reduceIte])
  refine VcCall.k (gsNaN_ok a) ?_
  (repeat' first | with_reducible (first | intro _ | refine rc ?_ | refine rl ?_ | refine rh ?_ | refine rt ?_ | refine rf ?_ | refine rs ?_ | refine And.intro ?_ ?_) | omega | simp (maxSteps := 1000000) only [go_sem, simprocAttr, ↓reduceIte])
  refine VcCall.k (gsNaN_ok b) ?_
  by_cases h1 : a < b
  · rw [if_pos h1]
    (repeat' first | with_reducible (first | intro _ | refine rc ?_ | refine rl ?_ | refine rh ?_ | refine rt ?_ | refine rf ?_ | refine rs ?_ | refine And.intro ?_ ?_) | omega | simp (maxSteps := 1000000) only [go_sem, simprocAttr, ↓reduceIte])
    refine Ret.auto 0 ?_ rfl ?_ <;> simp only [go_sem, reduceCtorEq, reduceIte, Nat.reduceEqDiff, Nat.reduceLT, Nat.reduceLeDiff, Int.natCast_succ, Post]
  · rw [if_neg h1]
    by_cases h2 : b < a
    · rw [if_pos h2]
      (repeat' first | with_reducible (first | intro _ | refine rc ?_ | refine rl ?_ | refine rh ?_ | refine rt ?_ | refine rf ?_ | refine rs ?_ | refine And.intro ?_ ?_) | omega | simp (maxSteps := 1000000) only [go_sem, simprocAttr, ↓reduceIte])
      refine Ret.auto 0 ?_ rfl ?_ <;> simp only [go_sem, reduceCtorEq, reduceIte, Nat.reduceEqDiff, Nat.reduceLT, Nat.reduceLeDiff, Int.natCast_succ, Post]
    · rw [if_neg h2]
      (repeat' first | with_reducible (first | intro _ | refine rc ?_ | refine rl ?_ | refine rh ?_ | refine rt ?_ | refine rf ?_ | refine rs ?_ | refine And.intro ?_ ?_) | omega | simp (maxSteps := 1000000) only [go_sem, simprocAttr, ↓reduceIte])
      refine Ret.auto 0 ?_ rfl ?_ <;> simp only [go_sem, reduceCtorEq, reduceIte, Nat.reduceEqDiff, Nat.reduceLT, Nat.reduceLeDiff, Int.natCast_succ, Post]
def orI : List Int → Int
  | [] => 0
  | x :: l => if x = 0 then orI l else x
theorem orI_drop (l : List Int) {k : Nat} (h : k < l.length) : orI (l.drop k) = if l.getD k 0 = 0 then orI (l.drop (k + 1)) else l.getD k 0 := by
  rw [List.drop_eq_getElem_cons h, orI, getD_lt h]
theorem gsOr_ok (l : List Int) : FnOk Tryz.prog 56 [.ro (.ints .i64 l)] (.int .i64 (orI l)) [] := by
  refine FnOk.of_vc Tryz.func56 rfl (by decide) (by simp [Tryz.f56]) [.tmp 2] rfl fun w0 T0 _ => ?_
  simp only [Tryz.f56, argEnv]
  (repeat' first | with_reducible (first | intro _ | refine rc ?_ | refine rl ?_ | refine rh ?_ | refine rt ?_ | refine rf ?_ | refine rs ?_ | refine And.intro ?_ ?_) | omega | simp (maxSteps := 1000000) only [go_sem, simprocAttr, ↓reduceIte])
  refine VcLoop.intro (fun i : Nat => ⟨18, [(8, .int .i64 i), (7, .int .i64 l.length), (6, .ro (.ints .i64 l)), (3, .int .i64 0)], [], 0⟩) (fun i => i ≤ l.length ∧ orI l = orI (l.drop i)) (fun i => l.length - i) 0 ?_ ⟨Nat.zero_le _, rfl⟩ fun i hi => ?_
  · refine Ent.auto0 rfl ?_ ?_ <;> simp only [go_sem, reduceCtorEq, reduceIte, Nat.reduceEqDiff, Nat.reduceLT, Nat.reduceLeDiff, Int.natCast_succ]
  obtain ⟨hi, ho⟩ := hi
  by_cases hlt : i < l.length
  · have hd := orI_drop l hlt
    by_cases h0 : l.getD i 0 = 0
    · rw [if_pos h0] at hd
      (repeat' first | with_reducible (first | intro _ | refine rc ?_ | refine rl ?_ | refine rh ?_ | refine rt ?_ | refine rf ?_ | refine rs ?_ | refine And.intro ?_ ?_) | omega | simp (maxSteps := 1000000) only [go_sem, simprocAttr, ↓reduceIte, h0])
      refine ⟨i + 1, Ent.auto0 rfl ?_ ?_, ⟨by omega, ho.trans hd⟩, by omega⟩ <;> simp only [go_sem, reduceCtorEq, reduceIte, Nat.reduceEqDiff, Nat.reduceLT, Nat.reduceLeDiff, Int.natCast_succ]
    · rw [if_neg h0] at hd
      (repeat' first | with_reducible (first | intro _ | refine rc ?_ | refine rl ?_ | refine rh ?_ | refine rt ?_ | refine rf ?_ | refine rs ?_ | refine And.intro ?_ ?_) | omega | simp (maxSteps := 1000000) only [go_sem, simprocAttr, ↓reduceIte])
      refine Ret.auto 0 ?_ rfl ?_ <;> simp only [go_sem, reduceCtorEq, reduceIte, Nat.reduceEqDiff, Nat.reduceLT, Nat.reduceLeDiff, Int.natCast_succ, Post, ho.trans hd]
  · have e : i = l.length := by omega
    subst e
    have : orI l = 0 := by rw [ho, List.drop_length]; rfl
    (repeat' first | with_reducible (first | intro _ | refine rc ?_ | refine rl ?_ | refine rh ?_ | refine rt ?_ | refine rf ?_ | refine rs ?_ | refine And.intro ?_ ?_) | omega | simp (maxSteps := 1000000) only [go_sem, simprocAttr, ↓reduceIte])
    refine Ret.auto 0 ?_ rfl ?_ <;> simp only [go_sem, reduceCtorEq, reduceIte, Nat.reduceEqDiff, Nat.reduceLT, Nat.reduceLeDiff, Int.natCast_succ, Post, this]
theorem cfG_or (x y : Gs) : orI [cmpI x.d y.d, cmpI y.c x.c] = cfG x y := by
  unfold cfG orI orI orI
  by_cases h : cmpI x.d y.d = 0
  · rw [if_pos h, if_pos h]
    by_cases h2 : cmpI y.c x.c = 0
    · rw [if_pos h2, h2]
    · rw [if_neg h2]
  · rw [if_neg h, if_neg h]
set_option maxHeartbeats 2000000 in
theorem near1_ok : CmpG 91 := fun x y => by
  have k1 := gsCompare_ok x.d y.d
  have k2 := gsCompare_ok y.c x.c
  have k3 := gsOr_ok [cmpI x.d y.d, cmpI y.c x.c]
  rw [cfG_or] at k3
  generalize cfG x y = r at *
  generalize cmpI x.d y.d = c1 at *
  generalize cmpI y.c x.c = c2 at *
  refine FnOk.of_vc Tryz.func91 rfl (by decide) (by simp [Tryz.f91]) [.tmp 4] rfl fun w0 T0 _ => ?_
  simp only [Tryz.f91, argEnv]
  (repeat' first | with_reducible (first | intro _ | refine rc ?_ | refine rl ?_ | refine rh ?_ | refine rt ?_ | refine rf ?_ | refine rs ?_ | refine And.intro ?_ ?_) | omega | simp (maxSteps := 1000000) only [go_sem, simprocAttr, ↓reduceIte])
  refine VcDraw.lex [10] [] (by kernel_rfl) (by kernel_rfl) ?_
  (repeat' first | with_reducible (first | intro _ | refine rc ?_ | refine rl ?_ | refine rh ?_ | refine rt ?_ | refine rf ?_ | refine rs ?_ | refine And.intro ?_ ?_) | omega | simp (maxSteps := 1000000) only [go_sem, simprocAttr, ↓reduceIte])
  refine QV.intro (.int .i64 c1) ?_ ?_
  · (repeat' first | with_reducible (first | intro _ | refine rc ?_ | refine rl ?_ | refine rh ?_ | refine rt ?_ | refine rf ?_ | refine rs ?_ | refine And.intro ?_ ?_) | omega | simp (maxSteps := 1000000) only [go_sem, simprocAttr, ↓reduceIte])
    refine VcCall.k (k1) ?_
    (repeat' first | with_reducible (first | intro _ | refine rc ?_ | refine rl ?_ | refine rh ?_ | refine rt ?_ | refine rf ?_ | refine rs ?_ | refine And.intro ?_ ?_) | omega | simp (maxSteps := 1000000) only [go_sem, simprocAttr, ↓reduceIte])
  (repeat' first | with_reducible (first | intro _ | refine rc ?_ | refine rl ?_ | refine rh ?_ | refine rt ?_ | refine rf ?_ | refine rs ?_ | refine And.intro ?_ ?_) | omega | simp (maxSteps := 1000000) only [go_sem, simprocAttr, ↓reduceIte])
  refine QV.intro (.int .i64 c2) ?_ ?_
  · (repeat' first | with_reducible (first | intro _ | refine rc ?_ | refine rl ?_ | refine rh ?_ | refine rt ?_ | refine rf ?_ | refine rs ?_ | refine And.intro ?_ ?_) | omega | simp (maxSteps := 1000000) only [go_sem, simprocAttr, ↓reduceIte])
    refine VcCall.k (k2) ?_
    (repeat' first | with_reducible (first | intro _ | refine rc ?_ | refine rl ?_ | refine rh ?_ | refine rt ?_ | refine rf ?_ | refine rs ?_ | refine And.intro ?_ ?_) | omega | simp (maxSteps := 1000000) only [go_sem, simprocAttr, ↓reduceIte])
  (repeat' first | with_reducible (first | intro _ | refine rc ?_ | refine rl ?_ | refine rh ?_ | refine rt ?_ | refine rf ?_ | refine rs ?_ | refine And.intro ?_ ?_) | omega | simp (maxSteps := 1000000) only [go_sem, simprocAttr, ↓reduceIte])
  refine QV.intro (.int .i64 r) ?_ ?_
  · (repeat' first | with_reducible (first | intro _ | refine rc ?_ | refine rl ?_ | refine rh ?_ | refine rt ?_ | refine rf ?_ | refine rs ?_ | refine And.intro ?_ ?_) | omega | simp (maxSteps := 1000000) only [go_sem, simprocAttr, ↓reduceIte])
    refine VcCall.k (k3) ?_
    (repeat' first | with_reducible (first | intro _ | refine rc ?_ | refine rl ?_ | refine rh ?_ | refine rt ?_ | refine rf ?_ | refine rs ?_ | refine And.intro ?_ ?_) | omega | simp (maxSteps := 1000000) only [go_sem, simprocAttr, ↓reduceIte])
  (repeat' first | with_reducible (first | intro _ | refine rc ?_ | refine rl ?_ | refine rh ?_ | refine rt ?_ | refine rf ?_ | refine rs ?_ | refine And.intro ?_ ?_) | omega | simp (maxSteps := 1000000) only [go_sem, simprocAttr, ↓reduceIte])
  refine Ret.auto 0 ?_ rfl ?_ <;> simp only [go_sem, reduceCtorEq, reduceIte, Nat.reduceEqDiff, Nat.reduceLT, Nat.reduceLeDiff, Int.natCast_succ, Post]
/-! ### The reference -/
def cfR (x y : Gs) : Int := orI [x.d - y.d, y.c - x.c, Lib.compareBytes x.t y.t]
def GsOk (x : Gs) : Prop := x.t.length ≤ 1048576 ∧ (0 ≤ x.d ∧ x.d ≤ 1000000000000) ∧ (0 ≤ x.c ∧ x.c ≤ 1000000000000)
theorem cfR_lt (x y : Gs) : cfR x y < 0 ↔ ¬ leG y x = true := by
  rw [leG_iff]
  unfold cfR orI orI orI orI
  have hc := cmp_lt x.t y.t
  have hle : y.t ≤ x.t ↔ ¬ x.t < y.t := ⟨fun h h2 => h h2, fun h => h⟩
  by_cases h : x.d - y.d = 0
  · rw [if_pos h]
    by_cases h2 : y.c - x.c = 0
    · rw [if_pos h2]
      have hk : ke y x := by unfold ke; omega
      have hn : ¬ lt0 y x := by unfold lt0; omega
      have e : (if Lib.compareBytes x.t y.t = 0 then 0 else Lib.compareBytes x.t y.t) = Lib.compareBytes x.t y.t := by
        by_cases h5 : Lib.compareBytes x.t y.t = 0
        · rw [if_pos h5, h5]
        · rw [if_neg h5]
      rw [e, hc, hle]
      constructor
      · rintro h3 (h4 | ⟨_, h4⟩)
        · exact hn h4
        · exact h4 h3
      · intro h3
        exact Classical.byContradiction fun h4 => h3 (.inr ⟨hk, h4⟩)
    · rw [if_neg h2]
      unfold lt0 ke
      constructor
      · intro h3; omega
      · intro h3; omega
  · rw [if_neg h]
    unfold lt0 ke
    constructor
    · intro h3; omega
    · intro h3; omega
theorem cfR_n (x y : Gs) : ¬ cfR x y < 0 ↔ leG y x = true := by rw [cfR_lt, Classical.not_not]
theorem leG_refl (x : Gs) : leG x x = true := leG_iff.2 (.inr ⟨⟨rfl, rfl⟩, List.le_refl _⟩)
theorem leG_or {x y : Gs} (h : ¬ leG x y = true) : leG y x = true := by
  have := leG_total x y
  rw [Bool.or_eq_true] at this
  rcases this with h2 | h2
  · exact absurd h2 h
  · exact h2
theorem cfR_ord : CmpOrd GsOk cfR where
  irrefl := fun x _ => (cfR_n x x).2 (leG_refl x)
  trans := fun x y z _ _ _ h1 h2 => (cfR_lt x z).2 fun h => ((cfR_lt y z).1 h2) (leG_trans _ _ _ h (leG_or ((cfR_lt x y).1 h1)))
  ntrans := fun x y z _ _ _ h1 h2 => (cfR_n x z).2 (leG_trans _ _ _ ((cfR_n y z).1 h2) ((cfR_n x y).1 h1))
set_option maxHeartbeats 2000000 in
theorem refNear1_ok (x y : Gs) (hx : GsOk x) (hy : GsOk y) : FnOk Tryz.prog 55 [.agg x.av, .agg y.av] (.int .i64 (cfR x y)) [] := by
  have k1 := compareS_ok x.t y.t
  have k2 := gsOr_ok [x.d - y.d, y.c - x.c, Lib.compareBytes x.t y.t]
  unfold GsOk at hx hy
  unfold Gs.av cfR
  generalize orI [x.d - y.d, y.c - x.c, Lib.compareBytes x.t y.t] = r at *
  generalize Lib.compareBytes x.t y.t = c3 at *
  refine FnOk.of_vc Tryz.func55 rfl (by decide) (by simp [Tryz.f55]) [.tmp 4] rfl fun w0 T0 _ => ?_
  simp only [Tryz.f55, argEnv]
  (repeat' first | with_reducible (first | intro _ | refine rc ?_ | refine rl ?_ | refine rh ?_ | refine rt ?_ | refine rf ?_ | refine rs ?_ | refine And.intro ?_ ?_) | omega | simp (maxSteps := 1000000) only [go_sem, simprocAttr, ↓reduceIte])
  refine VcDraw.lex [15] [] (by kernel_rfl) (by kernel_rfl) ?_
  (repeat' first | with_reducible (first | intro _ | refine rc ?_ | refine rl ?_ | refine rh ?_ | refine rt ?_ | refine rf ?_ | refine rs ?_ | refine And.intro ?_ ?_) | omega | simp (maxSteps := 1000000) only [go_sem, simprocAttr, ↓reduceIte])
  refine QV.intro (.int .i64 c3) ?_ ?_
  · (repeat' first | with_reducible (first | intro _ | refine rc ?_ | refine rl ?_ | refine rh ?_ | refine rt ?_ | refine rf ?_ | refine rs ?_ | refine And.intro ?_ ?_) | omega | simp (maxSteps := 1000000) only [go_sem, simprocAttr, ↓reduceIte])
    refine VcCall.k (k1) ?_
    (repeat' first | with_reducible (first | intro _ | refine rc ?_ | refine rl ?_ | refine rh ?_ | refine rt ?_ | refine rf ?_ | refine rs ?_ | refine And.intro ?_ ?_) | omega | simp (maxSteps := 1000000) only [go_sem, simprocAttr, ↓reduceIte])
  (repeat' first | with_reducible (first | intro _ | refine rc ?_ | refine rl ?_ | refine rh ?_ | refine rt ?_ | refine rf ?_ | refine rs ?_ | refine And.intro ?_ ?_) | omega | simp (maxSteps := 1000000) only [go_sem, simprocAttr, ↓reduceIte])
  refine QV.intro (.int .i64 r) ?_ ?_
  · (repeat' first | with_reducible (first | intro _ | refine rc ?_ | refine rl ?_ | refine rh ?_ | refine rt ?_ | refine rf ?_ | refine rs ?_ | refine And.intro ?_ ?_) | omega | simp (maxSteps := 1000000) only [go_sem, simprocAttr, ↓reduceIte])
    refine VcCall.k (k2) ?_
    (repeat' first | with_reducible (first | intro _ | refine rc ?_ | refine rl ?_ | refine rh ?_ | refine rt ?_ | refine rf ?_ | refine rs ?_ | refine And.intro ?_ ?_) | omega | simp (maxSteps := 1000000) only [go_sem, simprocAttr, ↓reduceIte])
  (repeat' first | with_reducible (first | intro _ | refine rc ?_ | refine rl ?_ | refine rh ?_ | refine rt ?_ | refine rf ?_ | refine rs ?_ | refine And.intro ?_ ?_) | omega | simp (maxSteps := 1000000) only [go_sem, simprocAttr, ↓reduceIte])
  refine Ret.auto 0 ?_ rfl ?_ <;> simp only [go_sem, reduceCtorEq, reduceIte, Nat.reduceEqDiff, Nat.reduceLT, Nat.reduceLeDiff, Int.natCast_succ, Post]
theorem sortGs_io (l : List Gs) (hl : ∀ x, x ∈ l → GsOk x) (hln : l.length ≤ 1000000000) :
    FnIO Tryz.prog 54 [.own 0, .fn 55 []] [(0, .row 41 (gsR l))] 1 (.tup []) [(0, .row 41 (gsR (sortG l)))] := by
  obtain ⟨l', hp, hs, kS⟩ := sortFK_io Gs.av 3 (fun _ => rfl) (by decide) Tryz.lSoG ⟨_, Tryz.func54, by kernel_rfl, by kernel_rfl⟩ Tryz.isAgg41 Tryz.sizeOf41 41 (good := GsOk)
    cfR_ord 55 [] rfl (fun x y hx hy => FnFr.of_ok (refNear1_ok x y hx hy) rfl rfl) l hl (fun x hx y hy => by
      unfold GsOk at hx
      unfold Gs.av at hy
      rcases List.mem_cons.1 hy with rfl | hy
      · show x.t.length ≤ maxLen
        have : maxLen = 9223372036854775807 := rfl
        omega
      rcases List.mem_cons.1 hy with rfl | hy
      · exact InK_i64.2 (by omega)
      · rw [List.mem_singleton] at hy; subst hy; exact InK_i64.2 (by omega)) (by omega)
  rw [sortG_eq hp (hs.imp fun h => (cfR_n _ _).1 h)] at kS
  exact kS
end Go.Fv.Y

namespace Go.Fv.Y
open Go Go.Proofs
set_option linter.unusedSimpArgs false
set_option linter.unusedVariables false
set_option linter.unnecessarySimpa false
set_option maxRecDepth 8000

def Mx.av (m : Mx) : List AV := [.str m.f, .str m.t, .int .i64 m.c]
def Mx.zero : Mx := ⟨[], [], 0⟩
def mxs (l : List Mx) : RowV := .objs 3 (l.map Mx.av)
theorem mx_elem (l : List Mx) {i : Nat} (h : i < l.length) : (l.map Mx.av).getD i [] = [.str (l.getD i Mx.zero).f, .str (l.getD i Mx.zero).t, .int .i64 (l.getD i Mx.zero).c] := by
  rw [getD_lt (by simpa using h), getD_lt h, List.getElem_map]; rfl
theorem laidOut : laidOutB Tryz.prog = true := by kernel_rfl
theorem keyed2 : Maps.Keyed Tryz.prog 113 := keyed_deep laidOut (of_decide_eq_true (by kernel_rfl)) (by kernel_rfl) (by rw [Tryz.underlying113])
theorem key2T (k : Key) : KeyT Tryz.prog 113 (key2 k) := KeyT.strs2 Tryz.underlying113 Tryz.underlying9 (by kernel_rfl) c113 c9 (of_decide_eq_true (by kernel_rfl)) k.1 k.2
theorem key2Ts (l : List Key) : KeysT Tryz.prog 113 (l.map key2) := KeysT_map key2T l

theorem part_ok (s : List UInt8) : FnOk Tryz.prog 69 [.str s] (.bool (partOk s)) [] := by
  have e : partOk s = decide (1 ≤ (s.length : Int) ∧ (s.length : Int) ≤ 3) := by
    unfold partOk
    rw [← Bool.decide_and]; congr 1; apply propext; omega
  rw [e]
  refine FnOk.of_vc Tryz.func69 rfl (by decide) (by simp [Tryz.f69]) [.tmp 2] rfl fun w0 T0 _ => ?_
  simp only [Tryz.f69, argEnv]
  (repeat' first | with_reducible (first | intro _ | refine rc ?_ | refine rl ?_ | refine rh ?_ | refine rt ?_ | refine rf ?_ | refine rs ?_ | refine And.intro ?_ ?_) | omega | simp (maxSteps := 1000000) only [go_sem, simprocAttr, ↓reduceIte])
  refine Ret.auto 0 ?_ rfl ?_ <;> simp only [go_sem, reduceCtorEq, reduceIte, Nat.reduceEqDiff, Nat.reduceLT, Nat.reduceLeDiff, Int.natCast_succ, Post]

def seenK (l : List Mx) (i : Nat) : List Key := (l.take i).map Mx.key
theorem seenK_succ (l : List Mx) {i : Nat} (h : i < l.length) : seenK l (i + 1) = seenK l i ++ [(l.getD i Mx.zero).key] := by
  unfold seenK
  rw [List.take_succ_eq_append_getElem h, List.map_append, getD_lt h]; rfl
theorem mixEs_drop (l : List Mx) {i : Nat} (h : i < l.length) (s : List Key) : mixEs s (l.drop i) = if mixE s (l.getD i Mx.zero) = 0 then mixEs (s ++ [(l.getD i Mx.zero).key]) (l.drop (i + 1)) else mixE s (l.getD i Mx.zero) := by
  rw [List.drop_eq_getElem_cons h, getD_lt h]; rfl
theorem insE_new {α : Type} [DecidableEq α] {l : List α} {x : α} (h : x ∉ l) : insE l x = l ++ [x] := if_neg h

set_option maxHeartbeats 4000000 in
theorem checkMixes_ok (l : List Mx) : FnOk Tryz.prog 23 [.ro (mxs l)] (.int .i64 (mixErr l)) [] := by
  unfold mixErr
  refine FnOk.of_vc Tryz.func23 rfl (by decide) (by simp [Tryz.f23]) [.tmp 2] rfl fun w0 T0 _ => ?_
  simp only [Tryz.f23, argEnv]
  (repeat' first | with_reducible (first | intro _ | refine rc ?_ | refine rl ?_ | refine rh ?_ | refine rt ?_ | refine rf ?_ | refine rs ?_ | refine And.intro ?_ ?_) | omega | simp (maxSteps := 1000000) only [go_sem, simprocAttr, ↓reduceIte, List.length_map, mxs])
  · refine Ret.auto 0 ?_ rfl ?_ <;> simp only [go_sem, reduceCtorEq, reduceIte, Nat.reduceEqDiff, Nat.reduceLT, Nat.reduceLeDiff, Int.natCast_succ, Post]
    rw [if_pos (by omega)]
  rw [if_neg (by omega)]
  refine VcLoop.intro (fun i : Nat => ⟨59, [(14, .int .i64 i), (13, .int .i64 l.length), (12, .ro (mxs l)), (3, .own 0), (4, .fn 69 [])], [(0, .map ((seenK l i).map key2) ((seenK l i).map fun _ => .bool true))], 1⟩) (fun i => i ≤ l.length ∧ mixEs (seenK l i) (l.drop i) = mixEs [] l) (fun i => l.length - i) 0 ?_ ⟨Nat.zero_le _, rfl⟩ fun i hi => ?_
  · refine Ent.auto0 rfl ?_ ?_ <;> simp only [go_sem, reduceCtorEq, reduceIte, Nat.reduceEqDiff, Nat.reduceLT, Nat.reduceLeDiff, Int.natCast_succ, seenK, List.take_zero, mxs]
  by_cases hlt : i < l.length
  · have he := mx_elem l hlt
    have hs := seenK_succ l hlt
    have hd := mixEs_drop l hlt (seenK l i)
    generalize l.getD i Mx.zero = m at *
    have k1 := part_ok m.f
    have k2 := part_ok m.t
    have kk : KeyT Tryz.prog 113 (.agg [.str m.f, .str m.t]) := key2T m.key
    have ks := key2Ts (seenK l i)
    have hE : mixE (seenK l i) m = if partOk m.f = false ∨ partOk m.t = false ∨ m.f = m.t then 2 else if m.c < 0 ∨ 100 < m.c then 3 else if m.key ∈ seenK l i then 6 else 0 := rfl
    have e3 : getB ((seenK l i).map key2) ((seenK l i).map fun _ => .bool true) (.agg [.str m.f, .str m.t]) = decide (m.key ∈ seenK l i) := (getB_set eqKey2 (seenK l i) m.key).trans (by congr)
    have e4 : updKs ((seenK l i).map key2) (.agg [.str m.f, .str m.t]) = _ := updKs_set eqKey2 (seenK l i) m.key
    have e5 : updVs ((seenK l i).map key2) ((seenK l i).map fun _ => .bool true) (.agg [.str m.f, .str m.t]) (.bool true) = _ := updVs_set eqKey2 (seenK l i) m.key
    generalize partOk m.f = p at *
    generalize partOk m.t = q at *
    (repeat' first | with_reducible (first | intro _ | refine rc ?_ | refine rl ?_ | refine rh ?_ | refine rt ?_ | refine rf ?_ | refine rs ?_ | refine And.intro ?_ ?_) | omega | simp (maxSteps := 1000000) only [go_sem, simprocAttr, ↓reduceIte, elemA, he, mxs, List.length_map])
    refine VcCall.k k1 ?_
    cases p with
    | false =>
      (repeat' first | with_reducible (first | intro _ | refine rc ?_ | refine rl ?_ | refine rh ?_ | refine rt ?_ | refine rf ?_ | refine rs ?_ | refine And.intro ?_ ?_) | omega | simp (maxSteps := 1000000) only [go_sem, simprocAttr, ↓reduceIte])
      refine Ret.auto 0 ?_ rfl ?_ <;> simp only [go_sem, reduceCtorEq, reduceIte, Nat.reduceEqDiff, Nat.reduceLT, Nat.reduceLeDiff, Int.natCast_succ, Post]
      rw [← hi.2, hd, hE]; simp
    | true =>
      (repeat' first | with_reducible (first | intro _ | refine rc ?_ | refine rl ?_ | refine rh ?_ | refine rt ?_ | refine rf ?_ | refine rs ?_ | refine And.intro ?_ ?_) | omega | simp (maxSteps := 1000000) only [go_sem, simprocAttr, ↓reduceIte])
      refine VcCall.k k2 ?_
      cases q with
      | false =>
        (repeat' first | with_reducible (first | intro _ | refine rc ?_ | refine rl ?_ | refine rh ?_ | refine rt ?_ | refine rf ?_ | refine rs ?_ | refine And.intro ?_ ?_) | omega | simp (maxSteps := 1000000) only [go_sem, simprocAttr, ↓reduceIte])
        refine Ret.auto 0 ?_ rfl ?_ <;> simp only [go_sem, reduceCtorEq, reduceIte, Nat.reduceEqDiff, Nat.reduceLT, Nat.reduceLeDiff, Int.natCast_succ, Post]
        rw [← hi.2, hd, hE]; simp
      | true =>
        (repeat' first | with_reducible (first | intro _ | refine rc ?_ | refine rl ?_ | refine rh ?_ | refine rt ?_ | refine rf ?_ | refine rs ?_ | refine And.intro ?_ ?_) | omega | simp (maxSteps := 1000000) only [go_sem, simprocAttr, ↓reduceIte, e3, e4, e5, all_isB, eq_true kk, eq_true ks, eq_true keyed2])
        · rename_i h1
          refine Ret.auto 0 ?_ rfl ?_ <;> simp only [go_sem, reduceCtorEq, reduceIte, Nat.reduceEqDiff, Nat.reduceLT, Nat.reduceLeDiff, Int.natCast_succ, Post]
          rw [← hi.2, hd, hE]; simp [h1]
        · rename_i h1 _ h2
          refine Ret.auto 0 ?_ rfl ?_ <;> simp only [go_sem, reduceCtorEq, reduceIte, Nat.reduceEqDiff, Nat.reduceLT, Nat.reduceLeDiff, Int.natCast_succ, Post]
          rw [← hi.2, hd, hE]; simp [h1, h2]
        · rename_i h1 _ h2 h3
          refine Ret.auto 0 ?_ rfl ?_ <;> simp only [go_sem, reduceCtorEq, reduceIte, Nat.reduceEqDiff, Nat.reduceLT, Nat.reduceLeDiff, Int.natCast_succ, Post]
          rw [← hi.2, hd, hE]; simp [h1, h2, h3]
        · rename_i h1 _ h2 h3
          have h0 : mixE (seenK l i) m = 0 := by rw [hE]; simp [h1, h2, h3]
          rw [if_pos h0, hi.2] at hd
          refine ⟨i + 1, Ent.auto0 rfl ?_ ?_, ⟨by omega, by rw [hs]; exact hd.symm⟩, by omega⟩ <;> simp only [go_sem, reduceCtorEq, reduceIte, Nat.reduceEqDiff, Nat.reduceLT, Nat.reduceLeDiff, Int.natCast_succ, hs, insE_new h3, mxs]
  · have e : i = l.length := by omega
    have h0 := hi.2
    rw [e, List.drop_length] at h0
    (repeat' first | with_reducible (first | intro _ | refine rc ?_ | refine rl ?_ | refine rh ?_ | refine rt ?_ | refine rf ?_ | refine rs ?_ | refine And.intro ?_ ?_) | omega | simp (maxSteps := 1000000) only [go_sem, simprocAttr, ↓reduceIte, mxs, List.length_map])
    refine Ret.auto 0 ?_ rfl ?_ <;> simp only [go_sem, reduceCtorEq, reduceIte, Nat.reduceEqDiff, Nat.reduceLT, Nat.reduceLeDiff, Int.natCast_succ, Post]
    rw [← h0]; rfl
end Go.Fv.Y

namespace Go.Fv.Y
open Go Go.Proofs
set_option linter.unusedSimpArgs false
set_option linter.unusedVariables false
set_option linter.unnecessarySimpa false
set_option maxRecDepth 8000

theorem sw_elem (l : List Sw) {i : Nat} (h : i < l.length) : (l.map Sw.av).getD i [] = [.str (l.getD i Sw.zero).o, .str (l.getD i Sw.zero).n, .int .i64 (l.getD i Sw.zero).c] := by
  rw [getD_lt (by simpa using h), getD_lt h, List.getElem_map]; rfl
theorem minF_step (f : Sw → Bool) (g : Sw → Int) (l : List Sw) {i : Nat} (h : i < l.length) (b : Int) : minF f g b (l.drop i) = minF f g (if f (l.getD i Sw.zero) then min b (g (l.getD i Sw.zero)) else b) (l.drop (i + 1)) := by
  rw [List.drop_eq_getElem_cons h, getD_lt h]; rfl

set_option maxHeartbeats 16000000 in
theorem table_ok (sw : List Sw) (hg : GoodSw sw) (hswl : sw.length ≤ 4000) (a b : List UInt8) (ha : a.length ≤ 2000) (hb : b.length ≤ 2000) :
    FnOk Tryz.prog 89 [.str a, .str b, .mp (kgKs (grp [] sw)) (kgVs (grp [] sw))] (.own 0) [(0, .row 3 (.ints .i64 (tab sw a b 0)))] := by
  refine FnOk.of_vc Tryz.func89 rfl (by decide) (by simp [Tryz.f89]) [.tmp 6] rfl fun w0 T0 _ => ?_
  simp only [Tryz.f89, argEnv]
  have hnn : (a.length + 1) * (b.length + 1) ≤ 2001 * 2001 := Nat.mul_le_mul (by omega) (by omega)
  have up1 : ((a.length : Int) + 1) * ((b.length : Int) + 1) = (((a.length + 1) * (b.length + 1) : Nat) : Int) := by simp
  have hall := tab_all sw a b
  generalize hN : (a.length + 1) * (b.length + 1) = N at *
  (repeat' first | with_reducible (first | intro _ | refine rc ?_ | refine rl ?_ | refine rh ?_ | refine rt ?_ | refine rf ?_ | refine rs ?_ | refine And.intro ?_ ?_) | omega | simp (maxSteps := 1000000) only [go_sem, simprocAttr, ↓reduceIte, up1, Int.toNat_natCast])
  refine VcLoop.intro (fun r : Nat => ⟨173, [(9, .int .i64 ((r : Int) - 1)), (8, .own 0), (7, .int .i64 ((b.length : Int) + 1)), (0, .str a), (1, .str b), (2, .mp (kgKs (grp [] sw)) (kgVs (grp [] sw)))], [(0, .row 3 (.ints .i64 (tab sw a b (r * (b.length + 1)))))], 1⟩) (fun r => r ≤ a.length + 1) (fun r => r) (a.length + 1) ?_ (Nat.le_refl _) fun r hr => ?_
  · refine Ent.auto0 rfl ?_ ?_ <;> simp only [go_sem, reduceCtorEq, reduceIte, Nat.reduceEqDiff, Nat.reduceLT, Nat.reduceLeDiff, Int.natCast_succ, hall, hN]
    omega
  cases r with
  | zero =>
    (repeat' first | with_reducible (first | intro _ | refine rc ?_ | refine rl ?_ | refine rh ?_ | refine rt ?_ | refine rf ?_ | refine rs ?_ | refine And.intro ?_ ?_) | omega | simp (maxSteps := 1000000) only [go_sem, simprocAttr, ↓reduceIte])
    refine Ret.auto 1 ?_ rfl ?_ <;> simp only [go_sem, reduceCtorEq, reduceIte, Nat.reduceEqDiff, Nat.reduceLT, Nat.reduceLeDiff, Int.natCast_succ, Post, Nat.zero_mul]
  | succ i =>
    have er : (((i + 1 : Nat) : Int)) - 1 = (i : Int) := by omega
    (repeat' first | with_reducible (first | intro _ | refine rc ?_ | refine rl ?_ | refine rh ?_ | refine rt ?_ | refine rf ?_ | refine rs ?_ | refine And.intro ?_ ?_) | omega | simp (maxSteps := 1000000) only [go_sem, simprocAttr, ↓reduceIte, er])
    have hPw : (i + 1) * (b.length + 1) = i * (b.length + 1) + (b.length + 1) := by rw [Nat.succ_mul]
    have hPN : i * (b.length + 1) + (b.length + 1) ≤ N := by rw [← hPw, ← hN]; exact Nat.mul_le_mul_right _ hr
    have hPn : i < a.length → i * (b.length + 1) + (b.length + 1) + (b.length + 1) ≤ N := fun h => by
      have : (i + 2) * (b.length + 1) ≤ N := by rw [← hN]; exact Nat.mul_le_mul_right _ (by omega)
      have e : (i + 2) * (b.length + 1) = i * (b.length + 1) + (b.length + 1) + (b.length + 1) := by rw [Nat.succ_mul, Nat.succ_mul]
      omega
    have mul1 : (i : Int) * ((b.length : Int) + 1) = ((i * (b.length + 1) : Nat) : Int) := by simp
    have mul2 : ((i : Int) + 1) * ((b.length : Int) + 1) = ((i * (b.length + 1) + (b.length + 1) : Nat) : Int) := by rw [← hPw]; simp
    have hD0 : ∀ j, j < b.length + 1 → cellD sw a b (i * (b.length + 1) + j) = dist sw (a.drop i) (b.drop j) := fun j h => cellD_at sw a b h
    have hD1 : ∀ j, j < b.length + 1 → cellD sw a b (i * (b.length + 1) + (b.length + 1) + j) = dist sw (a.drop (i + 1)) (b.drop j) := fun j h => by rw [← hPw]; exact cellD_at sw a b h
    rw [hPw]
    refine VcLoop.intro (fun c : Nat => ⟨173, [(10, .int .i64 ((c : Int) - 1)), (9, .int .i64 i), (8, .own 0), (7, .int .i64 ((b.length : Int) + 1)), (0, .str a), (1, .str b), (2, .mp (kgKs (grp [] sw)) (kgVs (grp [] sw)))], [(0, .row 3 (.ints .i64 (tab sw a b (i * (b.length + 1) + c))))], 1⟩) (fun c => c ≤ b.length + 1) (fun c => c) (b.length + 1) ?_ (Nat.le_refl _) fun c hc => ?_
    · refine Ent.auto0 rfl ?_ ?_ <;> simp only [go_sem, reduceCtorEq, reduceIte, Nat.reduceEqDiff, Nat.reduceLT, Nat.reduceLeDiff, Int.natCast_succ, hall, hN]
      omega
    generalize hP : i * (b.length + 1) = P at *
    cases c with
    | zero =>
      (repeat' first | with_reducible (first | intro _ | refine rc ?_ | refine rl ?_ | refine rh ?_ | refine rt ?_ | refine rf ?_ | refine rs ?_ | refine And.intro ?_ ?_) | omega | simp (maxSteps := 1000000) only [go_sem, simprocAttr, ↓reduceIte])
      refine ⟨i, Ent.auto0 rfl ?_ ?_, by omega, by omega⟩ <;> simp only [go_sem, reduceCtorEq, reduceIte, Nat.reduceEqDiff, Nat.reduceLT, Nat.reduceLeDiff, Int.natCast_succ, hP, Nat.add_zero]
    | succ j =>
      have ej : (((j + 1 : Nat) : Int)) - 1 = (j : Int) := by omega
      have hlen := tab_len sw a b (P + (j + 1))
      rw [hN] at hlen
      have hst : ∀ v, v = dist sw (a.drop i) (b.drop j) → (tab sw a b (P + (j + 1))).set (P + j) v = tab sw a b (P + j) := fun v hv => tab_set (hv.trans (hD0 j (by omega)).symm)
      have tn0 : ((P : Int) + j).toNat = P + j := by omega
      by_cases hia : i = a.length
      · have hv : 100 * ((b.length : Int) - j) = dist sw (a.drop i) (b.drop j) := by
          rw [hia, List.drop_length, dist_left hg]; simp; omega
        have hc1 : decide ((i : Int) = (a.length : Int)) = true := by simp [hia]
        (repeat' first | with_reducible (first | intro _ | refine rc ?_ | refine rl ?_ | refine rh ?_ | refine rt ?_ | refine rf ?_ | refine rs ?_ | refine And.intro ?_ ?_) | omega | simp (maxSteps := 1000000) only [go_sem, simprocAttr, ↓reduceIte, ej, mul1, tn0, hlen, hst _ hv, hc1])
        refine ⟨j, Ent.auto0 rfl ?_ ?_, by omega, by omega⟩ <;> simp only [go_sem, reduceCtorEq, reduceIte, Nat.reduceEqDiff, Nat.reduceLT, Nat.reduceLeDiff, Int.natCast_succ]
      · have hc1 : decide ((i : Int) = (a.length : Int)) = false := by simp; omega
        by_cases hjb : j = b.length
        · have hv : 100 * ((a.length : Int) - i) = dist sw (a.drop i) (b.drop j) := by
            rw [hjb, List.drop_length, dist_right hg]; simp; omega
          have hc2 : decide ((j : Int) = (b.length : Int)) = true := by simp [hjb]
          (repeat' first | with_reducible (first | intro _ | refine rc ?_ | refine rl ?_ | refine rh ?_ | refine rt ?_ | refine rf ?_ | refine rs ?_ | refine And.intro ?_ ?_) | omega | simp (maxSteps := 1000000) only [go_sem, simprocAttr, ↓reduceIte, ej, mul1, tn0, hlen, hst _ hv, hc1, hc2])
          refine ⟨j, Ent.auto0 rfl ?_ ?_, by omega, by omega⟩ <;> simp only [go_sem, reduceCtorEq, reduceIte, Nat.reduceEqDiff, Nat.reduceLT, Nat.reduceLeDiff, Int.natCast_succ]
        · have hc2 : decide ((j : Int) = (b.length : Int)) = false := by simp; omega
          have hPn' := hPn (by omega)
          have hxn : a.drop i ≠ [] := by simp; omega
          have hyn : b.drop j ≠ [] := by simp; omega
          have hprog := dist_prog hg hxn hyn
          simp only [List.drop_drop] at hprog
          have hxg : (a.drop i).getD 0 0 = a.getD i 0 := by simp [List.getD]
          have hyg : (b.drop j).getD 0 0 = b.getD j 0 := by simp [List.getD]
          rw [hxg, hyg] at hprog
          have r11 : (tab sw a b (P + (j + 1))).getD (P + (b.length + 1) + j + 1) 0 = dist sw (a.drop (i + 1)) (b.drop (j + 1)) := by rw [tab_get (by omega) (by omega)]; exact hD1 (j + 1) (by omega)
          have r10 : (tab sw a b (P + (j + 1))).getD (P + (b.length + 1) + j) 0 = dist sw (a.drop (i + 1)) (b.drop j) := by rw [tab_get (by omega) (by omega)]; exact hD1 j (by omega)
          have r01 : (tab sw a b (P + (j + 1))).getD (P + j + 1) 0 = dist sw (a.drop i) (b.drop (j + 1)) := by rw [tab_get (by omega) (by omega)]; exact hD0 (j + 1) (by omega)
          have t11 : (((P + (b.length + 1) : Nat) : Int) + j + 1).toNat = P + (b.length + 1) + j + 1 := by omega
          have t10 : (((P + (b.length + 1) : Nat) : Int) + j).toNat = P + (b.length + 1) + j := by omega
          have t01 : ((P : Int) + j + 1).toNat = P + j + 1 := by omega
          have b11 := dist_bd hg _ (a.drop (i + 1)) (b.drop (j + 1)) (Nat.le_refl _)
          have b10 := dist_bd hg _ (a.drop (i + 1)) (b.drop j) (Nat.le_refl _)
          have b01 := dist_bd hg _ (a.drop i) (b.drop (j + 1)) (Nat.le_refl _)
          simp only [List.length_drop] at b11 b10 b01
          generalize dist sw (a.drop (i + 1)) (b.drop (j + 1)) = d11 at *
          generalize dist sw (a.drop (i + 1)) (b.drop j) = d10 at *
          generalize dist sw (a.drop i) (b.drop (j + 1)) = d01 at *
          have hmm : ∀ x y : Int, minmax false x y = min x y := fun _ _ => rfl
          (repeat' first | with_reducible (first | intro _ | refine rc ?_ | refine rl ?_ | refine rh ?_ | refine rt ?_ | refine rf ?_ | refine rs ?_ | refine And.intro ?_ ?_) | omega | simp (maxSteps := 1000000) only [go_sem, simprocAttr, ↓reduceIte, ej, mul1, mul2, tn0, hlen, hc1, hc2])
          refine VcDraw.lex [] [] (by kernel_rfl) (by kernel_rfl) ?_
          (repeat' first | with_reducible (first | intro _ | refine rc ?_ | refine rl ?_ | refine rh ?_ | refine rt ?_ | refine rf ?_ | refine rs ?_ | refine And.intro ?_ ?_) | omega | simp (maxSteps := 1000000) only [go_sem, simprocAttr, ↓reduceIte, mul1, mul2, hlen, t11, t10, t01, elemA, r11, r10, r01])
          have hil : (i : Int) < (a.length : Int) := by omega
          have hjl : (j : Int) < (b.length : Int) := by omega
          have hsa : List.take (a.length - i) (a.drop i) = a.drop i := List.take_of_length_le (by simp)
          have hsb : List.take (b.length - j) (b.drop j) = b.drop j := List.take_of_length_le (by simp)
          have hgr := grp_is sw
          have hks : KeysT Tryz.prog 5 (kgKs (grp [] sw)) := KeysT_map (fun c => .int Tryz.underlying5 _) _
          have hvO := getV_ro (grp [] sw) (a.getD i 0)
          have hUl := under_len sw (a.getD i 0)
          obtain ⟨V, hO, hV⟩ : ∃ V, getO (kgKs (grp [] sw)) (kgVs (grp [] sw)) (.int .u8 ((a.getD i 0).toNat : Int)) .nilS = V ∧ (V = .ro (sws (under sw (a.getD i 0))) ∨ (V = .nilS ∧ under sw (a.getD i 0) = [])) := by
            cases hx : ixOf (kgK (grp [] sw)) (a.getD i 0) with
            | some t =>
              rw [hx] at hvO
              obtain ⟨h1, h2⟩ := hgr.some _ _ hx
              exact ⟨_, getO_some hvO, .inl (by rw [getD_lt h1, h2])⟩
            | none =>
              rw [hx] at hvO
              exact ⟨_, getO_none hvO, .inr ⟨rfl, hgr.none _ hx⟩⟩
          refine VcDraw.lex [] [] (by kernel_rfl) (by kernel_rfl) ?_
          by_cases hce : a.getD i 0 = b.getD j 0
          case' pos =>
            have hcd : decide (((a.getD i 0).toNat : Int) = ((b.getD j 0).toNat : Int)) = true := decide_eq_true (by rw [hce])
            rw [if_pos hce] at hprog
            (repeat' first | with_reducible (first | intro _ | refine rc ?_ | refine rl ?_ | refine rh ?_ | refine rt ?_ | refine rf ?_ | refine rs ?_ | refine And.intro ?_ ?_) | omega | simp (maxSteps := 1000000) only [go_sem, simprocAttr, ↓reduceIte, hcd, mul2, t11, hlen, elemA, r11, hO, eq_true hks])
            have hb0 : 0 ≤ min (100 + min (min d11 d10) d01) d11 ∧ min (100 + min (min d11 d10) d01) d11 ≤ 1000000 := by omega
            generalize min (100 + min (min d11 d10) d01) d11 = b0 at *
          case' neg =>
            have hcd : decide (((a.getD i 0).toNat : Int) = ((b.getD j 0).toNat : Int)) = false := by
              refine decide_eq_false fun e => hce (UInt8.toNat_inj.1 ?_)
              omega
            rw [if_neg hce] at hprog
            (repeat' first | with_reducible (first | intro _ | refine rc ?_ | refine rl ?_ | refine rh ?_ | refine rt ?_ | refine rf ?_ | refine rs ?_ | refine And.intro ?_ ?_) | omega | simp (maxSteps := 1000000) only [go_sem, simprocAttr, ↓reduceIte, hcd, mul2, t11, hlen, elemA, r11, hO, eq_true hks])
            have hb0 : 0 ≤ 100 + min (min d11 d10) d01 ∧ 100 + min (min d11 d10) d01 ≤ 1000000 := by omega
            generalize 100 + min (min d11 d10) d01 = b0 at *
          all_goals
            rcases hV with rfl | ⟨rfl, hU0⟩
            all_goals
              (repeat' first | with_reducible (first | intro _ | refine rc ?_ | refine rl ?_ | refine rh ?_ | refine rt ?_ | refine rf ?_ | refine rs ?_ | refine And.intro ?_ ?_) | omega | simp (maxSteps := 1000000) only [go_sem, simprocAttr, ↓reduceIte, sws, List.length_map])
              refine VcLoop.intro (fun x : Nat × Int => ⟨173, [(124, .int .i64 x.1), (123, .int .i64 (under sw (a.getD i 0)).length), (122, .ro (sws (under sw (a.getD i 0)))), (11, .int .i64 x.2), (10, .int .i64 j), (9, .int .i64 i), (8, .own 0), (7, .int .i64 ((b.length : Int) + 1)), (0, .str a), (1, .str b), (2, .mp (kgKs (grp [] sw)) (kgVs (grp [] sw)))], [(0, .row 3 (.ints .i64 (tab sw a b (P + (j + 1)))))], 1⟩) (fun x => x.1 ≤ (under sw (a.getD i 0)).length ∧ 0 ≤ x.2 ∧ x.2 ≤ 1000000 ∧ minF (fits (a.drop i) (b.drop j)) (by_ sw (a.drop i) (b.drop j)) x.2 ((under sw (a.getD i 0)).drop x.1) = dist sw (a.drop i) (b.drop j)) (fun x => (under sw (a.getD i 0)).length - x.1) (0, b0) ?_ ⟨Nat.zero_le _, hb0.1, hb0.2, hprog⟩ fun x hx => ?_
              · first
                  | (refine Ent.auto0 rfl ?_ ?_ <;> simp only [go_sem, reduceCtorEq, reduceIte, Nat.reduceEqDiff, Nat.reduceLT, Nat.reduceLeDiff, Int.natCast_succ, sws]; done)
                  | (refine Ent.trans (Ent.nilRo 122 (sws (under sw (a.getD i 0))) rfl (by rw [hU0]; exact ⟨by decide, rfl⟩)) ?_
                     refine Ent.auto0 rfl ?_ ?_ <;> simp only [go_sem, reduceCtorEq, reduceIte, Nat.reduceEqDiff, Nat.reduceLT, Nat.reduceLeDiff, Int.natCast_succ, sws, hU0, List.map_nil, List.length_nil])
              obtain ⟨k, best⟩ := x
              dsimp only at hx
              by_cases hk : k < (under sw (a.getD i 0)).length
              · have hel := sw_elem (under sw (a.getD i 0)) hk
                have hstp := minF_step (fits (a.drop i) (b.drop j)) (by_ sw (a.drop i) (b.drop j)) (under sw (a.getD i 0)) hk best
                have hmem : (under sw (a.getD i 0)).getD k Sw.zero ∈ sw := by
                  rw [getD_lt hk]; exact (List.mem_filter.1 (List.getElem_mem hk)).1
                have hso := pos_of_ne (hg.o _ hmem)
                have hsc := hg.c0 _ hmem
                have hsc1 := hg.c1 _ hmem
                generalize (under sw (a.getD i 0)).getD k Sw.zero = s at *
                have hf : fits (a.drop i) (b.drop j) s = (s.o.isPrefixOf (a.drop i) && s.n.isPrefixOf (b.drop j)) := rfl
                have hby : by_ sw (a.drop i) (b.drop j) s = s.c + dist sw ((a.drop i).drop s.o.length) ((b.drop j).drop s.n.length) := rfl
                have k1 := hasPrefix_ok (a.drop i) s.o
                have k2 := hasPrefix_ok (b.drop j) s.n
                rw [hx.2.2.2] at hstp
                rw [List.drop_drop, List.drop_drop] at hby
                (repeat' first | with_reducible (first | intro _ | refine rc ?_ | refine rl ?_ | refine rh ?_ | refine rt ?_ | refine rf ?_ | refine rs ?_ | refine And.intro ?_ ?_) | omega | simp (maxSteps := 1000000) only [go_sem, simprocAttr, ↓reduceIte, elemA, hel, sws, List.length_map])
                refine VcDraw.lex [] [] (by kernel_rfl) (by kernel_rfl) ?_
                (repeat' first | with_reducible (first | intro _ | refine rc ?_ | refine rl ?_ | refine rh ?_ | refine rt ?_ | refine rf ?_ | refine rs ?_ | refine And.intro ?_ ?_) | omega | simp (maxSteps := 1000000) only [go_sem, simprocAttr, ↓reduceIte, hsa, hsb, Int.toNat_natCast])
                refine QV.intro (.bool (s.o.isPrefixOf (a.drop i))) ?_ ?_
                · (repeat' first | with_reducible (first | intro _ | refine rc ?_ | refine rl ?_ | refine rh ?_ | refine rt ?_ | refine rf ?_ | refine rs ?_ | refine And.intro ?_ ?_) | omega | simp (maxSteps := 1000000) only [go_sem, simprocAttr, ↓reduceIte])
                  refine VcCall.k k1 ?_
                  (repeat' first | with_reducible (first | intro _ | refine rc ?_ | refine rl ?_ | refine rh ?_ | refine rt ?_ | refine rf ?_ | refine rs ?_ | refine And.intro ?_ ?_) | omega | simp (maxSteps := 1000000) only [go_sem, simprocAttr, ↓reduceIte])
                cases hp1 : s.o.isPrefixOf (a.drop i) with
                | false =>
                  rw [hp1, Bool.false_and] at hf
                  simp only [hf, Bool.false_eq_true, if_false] at hstp
                  (repeat' first | with_reducible (first | intro _ | refine rc ?_ | refine rl ?_ | refine rh ?_ | refine rt ?_ | refine rf ?_ | refine rs ?_ | refine And.intro ?_ ?_) | omega | simp (maxSteps := 1000000) only [go_sem, simprocAttr, ↓reduceIte, hsa, hsb, Int.toNat_natCast])
                  refine QV.intro (.bool false) ?_ ?_
                  · (repeat' first | with_reducible (first | intro _ | refine rc ?_ | refine rl ?_ | refine rh ?_ | refine rt ?_ | refine rf ?_ | refine rs ?_ | refine And.intro ?_ ?_) | omega | simp (maxSteps := 1000000) only [go_sem, simprocAttr, ↓reduceIte])
                  (repeat' first | with_reducible (first | intro _ | refine rc ?_ | refine rl ?_ | refine rh ?_ | refine rt ?_ | refine rf ?_ | refine rs ?_ | refine And.intro ?_ ?_) | omega | simp (maxSteps := 1000000) only [go_sem, simprocAttr, ↓reduceIte])
                  refine ⟨(k + 1, best), Ent.auto0 rfl ?_ ?_, ⟨by dsimp only; omega, hx.2.1, hx.2.2.1, hstp.symm⟩, by dsimp only; omega⟩ <;> simp only [go_sem, reduceCtorEq, reduceIte, Nat.reduceEqDiff, Nat.reduceLT, Nat.reduceLeDiff, Int.natCast_succ, sws]
                | true =>
                  rw [hp1, Bool.true_and] at hf
                  have hl1 := prefix_len hp1
                  rw [List.length_drop] at hl1
                  (repeat' first | with_reducible (first | intro _ | refine rc ?_ | refine rl ?_ | refine rh ?_ | refine rt ?_ | refine rf ?_ | refine rs ?_ | refine And.intro ?_ ?_) | omega | simp (maxSteps := 1000000) only [go_sem, simprocAttr, ↓reduceIte, hsa, hsb, Int.toNat_natCast])
                  refine QV.intro (.bool (s.n.isPrefixOf (b.drop j))) ?_ ?_
                  · (repeat' first | with_reducible (first | intro _ | refine rc ?_ | refine rl ?_ | refine rh ?_ | refine rt ?_ | refine rf ?_ | refine rs ?_ | refine And.intro ?_ ?_) | omega | simp (maxSteps := 1000000) only [go_sem, simprocAttr, ↓reduceIte, hsa, hsb, Int.toNat_natCast])
                    refine VcCall.k k2 ?_
                    (repeat' first | with_reducible (first | intro _ | refine rc ?_ | refine rl ?_ | refine rh ?_ | refine rt ?_ | refine rf ?_ | refine rs ?_ | refine And.intro ?_ ?_) | omega | simp (maxSteps := 1000000) only [go_sem, simprocAttr, ↓reduceIte])
                  cases hp2 : s.n.isPrefixOf (b.drop j) with
                  | false =>
                    rw [hp2] at hf
                    simp only [hf, Bool.false_eq_true, if_false] at hstp
                    (repeat' first | with_reducible (first | intro _ | refine rc ?_ | refine rl ?_ | refine rh ?_ | refine rt ?_ | refine rf ?_ | refine rs ?_ | refine And.intro ?_ ?_) | omega | simp (maxSteps := 1000000) only [go_sem, simprocAttr, ↓reduceIte])
                    refine ⟨(k + 1, best), Ent.auto0 rfl ?_ ?_, ⟨by dsimp only; omega, hx.2.1, hx.2.2.1, hstp.symm⟩, by dsimp only; omega⟩ <;> simp only [go_sem, reduceCtorEq, reduceIte, Nat.reduceEqDiff, Nat.reduceLT, Nat.reduceLeDiff, Int.natCast_succ, sws]
                  | true =>
                    have hl2 := prefix_len hp2
                    rw [List.length_drop] at hl2
                    rw [hp2] at hf
                    simp only [hf, if_true] at hstp
                    have hQ1 : (i + s.o.length) * (b.length + 1) + (b.length + 1) ≤ N := by
                      rw [← hN, ← Nat.succ_mul]; exact Nat.mul_le_mul_right _ (by omega)
                    have hQ2 : P + (b.length + 1) ≤ (i + s.o.length) * (b.length + 1) := by
                      rw [← hPw]; exact Nat.mul_le_mul_right _ (by omega)
                    have hQ3 : ∀ q, q < b.length + 1 → cellD sw a b ((i + s.o.length) * (b.length + 1) + q) = dist sw (a.drop (i + s.o.length)) (b.drop q) := fun q h => cellD_at sw a b h
                    have mul3 : ((i : Int) + (s.o.length : Int)) * ((b.length : Int) + 1) = (((i + s.o.length) * (b.length + 1) : Nat) : Int) := by simp
                    generalize (i + s.o.length) * (b.length + 1) = Q at *
                    have rs : (tab sw a b (P + (j + 1))).getD (Q + j + s.n.length) 0 = dist sw (a.drop (i + s.o.length)) (b.drop (j + s.n.length)) := by
                      rw [tab_get (by omega) (by omega), Nat.add_assoc]; exact hQ3 _ (by omega)
                    have ts : ((Q : Int) + j + (s.n.length : Int)).toNat = Q + j + s.n.length := by omega
                    have bs := dist_bd hg _ (a.drop (i + s.o.length)) (b.drop (j + s.n.length)) (Nat.le_refl _)
                    simp only [List.length_drop] at bs
                    rw [hby] at hstp
                    generalize dist sw (a.drop (i + s.o.length)) (b.drop (j + s.n.length)) = ds at *
                    (repeat' first | with_reducible (first | intro _ | refine rc ?_ | refine rl ?_ | refine rh ?_ | refine rt ?_ | refine rf ?_ | refine rs ?_ | refine And.intro ?_ ?_) | omega | simp (maxSteps := 1000000) only [go_sem, simprocAttr, ↓reduceIte])
                    refine VcDraw.lex [] [] (by kernel_rfl) (by kernel_rfl) ?_
                    (repeat' first | with_reducible (first | intro _ | refine rc ?_ | refine rl ?_ | refine rh ?_ | refine rt ?_ | refine rf ?_ | refine rs ?_ | refine And.intro ?_ ?_) | omega | simp (maxSteps := 1000000) only [go_sem, simprocAttr, ↓reduceIte, mul3, hlen, ts, rs, elemA])
                    refine ⟨(k + 1, min best (s.c + ds)), Ent.auto0 rfl ?_ ?_, ⟨by dsimp only; omega, by dsimp only; omega, by dsimp only; omega, hstp.symm⟩, by dsimp only; omega⟩ <;> simp only [go_sem, reduceCtorEq, reduceIte, Nat.reduceEqDiff, Nat.reduceLT, Nat.reduceLeDiff, Int.natCast_succ, sws]
              · have ek : k = (under sw (a.getD i 0)).length := by omega
                have hfin := hx.2.2.2
                rw [ek, List.drop_length] at hfin
                have hfin' : best = dist sw (a.drop i) (b.drop j) := hfin
                (repeat' first | with_reducible (first | intro _ | refine rc ?_ | refine rl ?_ | refine rh ?_ | refine rt ?_ | refine rf ?_ | refine rs ?_ | refine And.intro ?_ ?_) | omega | simp (maxSteps := 1000000) only [go_sem, simprocAttr, ↓reduceIte, sws, List.length_map, mul1, tn0, hlen, hst _ hfin'])
                refine ⟨j, Ent.auto0 rfl ?_ ?_, by omega, by omega⟩ <;> simp only [go_sem, reduceCtorEq, reduceIte, Nat.reduceEqDiff, Nat.reduceLT, Nat.reduceLeDiff, Int.natCast_succ]
end Go.Fv.Y

namespace Go.Fv.Y
open Go Go.Proofs
set_option linter.unusedSimpArgs false
set_option linter.unusedVariables false
set_option linter.unnecessarySimpa false
set_option maxRecDepth 8000

end Go.Fv.Y

namespace Go.Fv.Y
open Go Go.Proofs
set_option linter.unusedSimpArgs false
set_option linter.unusedVariables false
set_option linter.unnecessarySimpa false
set_option maxRecDepth 8000

instance : FNoId Mx.av := ⟨fun _ => rfl⟩
instance {l : List Mx} : RowNoId (mxs l) := inferInstanceAs (RowNoId (.objs 3 (l.map Mx.av)))

theorem seenK_mem (l : List Mx) {i : Nat} (h : i ≤ l.length) (k : Key) : k ∈ seenK l i ↔ ∃ q, q < i ∧ (l.getD q Mx.zero).key = k := by
  unfold seenK
  simp only [List.mem_map]
  constructor
  · rintro ⟨m, hm, rfl⟩
    obtain ⟨q, hq, rfl⟩ := List.mem_iff_getElem.1 hm
    simp only [List.length_take] at hq
    refine ⟨q, by omega, ?_⟩
    rw [getD_lt (by omega), List.getElem_take]
  · rintro ⟨q, hq, rfl⟩
    refine ⟨l.getD q Mx.zero, ?_, rfl⟩
    rw [getD_lt (by omega)]
    exact List.mem_take_iff_getElem.2 ⟨q, by omega, rfl⟩

set_option maxHeartbeats 4000000 in
theorem mixesError_ok (l : List Mx) : FnOk Tryz.prog 46 [.ro (mxs l)] (.int .i64 (mixErr l)) [] := by
  unfold mixErr
  refine FnOk.of_vc Tryz.func46 rfl (by decide) (by simp [Tryz.f46]) [.tmp 2] rfl fun w0 T0 _ => ?_
  simp only [Tryz.f46, argEnv]
  (repeat' first | with_reducible (first | intro _ | refine rc ?_ | refine rl ?_ | refine rh ?_ | refine rt ?_ | refine rf ?_ | refine rs ?_ | refine And.intro ?_ ?_) | omega | simp (maxSteps := 1000000) only [go_sem, simprocAttr, ↓reduceIte, List.length_map, mxs])
  · refine Ret.auto 0 ?_ rfl ?_ <;> simp only [go_sem, reduceCtorEq, reduceIte, Nat.reduceEqDiff, Nat.reduceLT, Nat.reduceLeDiff, Int.natCast_succ, Post]
    rw [if_pos (by omega)]
  rw [if_neg (by omega)]
  refine VcLoop.intro (fun i : Nat => ⟨78, [(12, .int .i64 i), (11, .int .i64 l.length), (10, .ro (mxs l)), (0, .ro (mxs l))], [], 0⟩) (fun i => i ≤ l.length ∧ mixEs (seenK l i) (l.drop i) = mixEs [] l) (fun i => l.length - i) 0 ?_ ⟨Nat.zero_le _, rfl⟩ fun i hi => ?_
  · refine Ent.auto0 rfl ?_ ?_ <;> simp only [go_sem, reduceCtorEq, reduceIte, Nat.reduceEqDiff, Nat.reduceLT, Nat.reduceLeDiff, Int.natCast_succ, mxs]
  by_cases hlt : i < l.length
  · have he := mx_elem l hlt
    have hs := seenK_succ l hlt
    have hd := mixEs_drop l hlt (seenK l i)
    have hm := seenK_mem l hi.1 (l.getD i Mx.zero).key
    generalize l.getD i Mx.zero = m at *
    have hE : mixE (seenK l i) m = if partOk m.f = false ∨ partOk m.t = false ∨ m.f = m.t then 2 else if m.c < 0 ∨ 100 < m.c then 3 else if m.key ∈ seenK l i then 6 else 0 := rfl
    have hp : ∀ s, partOk s = false ↔ ((s.length : Int) < 1 ∨ 3 < (s.length : Int)) := fun s => by
      unfold partOk
      rw [Bool.and_eq_false_iff, decide_eq_false_iff_not, decide_eq_false_iff_not]; omega
    simp only [hp] at hE
    (repeat' first | with_reducible (first | intro _ | refine rc ?_ | refine rl ?_ | refine rh ?_ | refine rt ?_ | refine rf ?_ | refine rs ?_ | refine And.intro ?_ ?_) | omega | simp (maxSteps := 1000000) only [go_sem, simprocAttr, ↓reduceIte, elemA, he, mxs, List.length_map])
    · rename_i h1
      refine Ret.auto 0 ?_ rfl ?_ <;> simp only [go_sem, reduceCtorEq, reduceIte, Nat.reduceEqDiff, Nat.reduceLT, Nat.reduceLeDiff, Int.natCast_succ, Post]
      have h0 : mixE (seenK l i) m = 2 := by rw [hE, if_pos (by grind)]
      rw [← hi.2, hd, h0]; rfl
    · rename_i h1 _ h2
      refine Ret.auto 0 ?_ rfl ?_ <;> simp only [go_sem, reduceCtorEq, reduceIte, Nat.reduceEqDiff, Nat.reduceLT, Nat.reduceLeDiff, Int.natCast_succ, Post]
      have h0 : mixE (seenK l i) m = 3 := by rw [hE, if_neg (by grind), if_pos h2]
      rw [← hi.2, hd, h0]; rfl
    · rename_i h1 _ h2
      have hno : ¬ ((((m.f.length : Int) < 1 ∨ 3 < (m.f.length : Int)) ∨ ((m.t.length : Int) < 1 ∨ 3 < (m.t.length : Int)) ∨ m.f = m.t)) := by grind
      have hnr : ¬ (m.c < 0 ∨ 100 < m.c) := by assumption
      rw [if_neg hno, if_neg hnr] at hE
      have e1 : List.take (i - 0) (l.map Mx.av) = (l.take i).map Mx.av := by simp
      have hL : (l.take i).length = i := by simp; omega
      have hsk : seenK l i = (l.take i).map Mx.key := rfl
      rw [hsk] at hE
      refine VcLoop.intro (fun j : Nat => ⟨78, [(60, .int .i64 j), (59, .int .i64 i), (58, .ro (mxs (l.take i))), (4, .ptr 0 0), (12, .int .i64 i), (11, .int .i64 l.length), (10, .ro (mxs l)), (0, .ro (mxs l))], [(0, .box 54 [.str m.f, .str m.t, .int .i64 m.c])], 1⟩) (fun j => j ≤ i ∧ ∀ q, q < j → ((l.take i).getD q Mx.zero).key ≠ m.key) (fun j => i - j) 0 ?_ ⟨Nat.zero_le _, fun q hq => by omega⟩ fun j hj => ?_
      · refine Ent.auto0 rfl ?_ ?_ <;> simp only [go_sem, reduceCtorEq, reduceIte, Nat.reduceEqDiff, Nat.reduceLT, Nat.reduceLeDiff, Int.natCast_succ, mxs, e1, hL, List.length_map]
      generalize l.take i = L at *
      by_cases hjl : j < i
      · have he2 := mx_elem L (i := j) (by omega)
        generalize hx : L.getD j Mx.zero = x at *
        (repeat' first | with_reducible (first | intro _ | refine rc ?_ | refine rl ?_ | refine rh ?_ | refine rt ?_ | refine rf ?_ | refine rs ?_ | refine And.intro ?_ ?_) | omega | simp (maxSteps := 1000000) only [go_sem, simprocAttr, ↓reduceIte, elemA, he2, mxs, List.length_map, hL])
        · rename_i h3
          refine Ret.auto 0 ?_ rfl ?_ <;> simp only [go_sem, reduceCtorEq, reduceIte, Nat.reduceEqDiff, Nat.reduceLT, Nat.reduceLeDiff, Int.natCast_succ, Post]
          have hmem : m.key ∈ L.map Mx.key := List.mem_map.2 ⟨x, by rw [← hx, getD_lt (by omega)]; exact List.getElem_mem _, by unfold Mx.key; rw [h3.1, h3.2]⟩
          rw [if_pos hmem, ← hsk] at hE
          rw [← hi.2, hd, hE]; rfl
        · rename_i h3
          refine ⟨j + 1, Ent.auto0 rfl ?_ ?_, ⟨by omega, fun q hq => ?_⟩, by omega⟩
          · simp only [go_sem, reduceCtorEq, reduceIte, Nat.reduceEqDiff, Nat.reduceLT, Nat.reduceLeDiff, Int.natCast_succ, mxs]
          · simp only [go_sem, reduceCtorEq, reduceIte, Nat.reduceEqDiff, Nat.reduceLT, Nat.reduceLeDiff, Int.natCast_succ, mxs]
          · by_cases e : q = j
            · subst e; rw [hx]; intro e; injection e with e4 e5; exact h3 ⟨e4, e5⟩
            · exact hj.2 q (by omega)
      · have ej : j = i := by omega
        subst ej
        have hmem : m.key ∉ L.map Mx.key := by
          intro hm'
          obtain ⟨x, hx, hk⟩ := List.mem_map.1 hm'
          obtain ⟨q, hq, rfl⟩ := List.mem_iff_getElem.1 hx
          exact hj.2 q (by omega) (by rw [getD_lt hq]; exact hk)
        rw [if_neg hmem, ← hsk] at hE
        rw [if_pos hE, hi.2, ← hs] at hd
        (repeat' first | with_reducible (first | intro _ | refine rc ?_ | refine rl ?_ | refine rh ?_ | refine rt ?_ | refine rf ?_ | refine rs ?_ | refine And.intro ?_ ?_) | omega | simp (maxSteps := 1000000) only [go_sem, simprocAttr, ↓reduceIte, elemA, mxs, List.length_map, hL])
        refine ⟨j + 1, Ent.auto0 rfl ?_ ?_, ⟨by omega, hd.symm⟩, by omega⟩ <;> simp only [go_sem, reduceCtorEq, reduceIte, Nat.reduceEqDiff, Nat.reduceLT, Nat.reduceLeDiff, Int.natCast_succ, mxs]
  · have e : i = l.length := by omega
    have h0 := hi.2
    rw [e, List.drop_length] at h0
    (repeat' first | with_reducible (first | intro _ | refine rc ?_ | refine rl ?_ | refine rh ?_ | refine rt ?_ | refine rf ?_ | refine rs ?_ | refine And.intro ?_ ?_) | omega | simp (maxSteps := 1000000) only [go_sem, simprocAttr, ↓reduceIte, mxs, List.length_map])
    refine Ret.auto 0 ?_ rfl ?_ <;> simp only [go_sem, reduceCtorEq, reduceIte, Nat.reduceEqDiff, Nat.reduceLT, Nat.reduceLeDiff, Int.natCast_succ, Post]
    rw [← h0]; rfl

theorem cloneMix_ok (l : List Mx) (hl : l.length ≤ 137438953472) : FnOk Tryz.prog 47 [.ro (mxs l)] (.own 0) [(0, .row 54 (mxs l))] := by
  refine FnOk.of_vc Tryz.func47 rfl (by decide) (by simp [Tryz.f47]) [.tmp 2] rfl fun w0 T0 _ => ?_
  simp only [Tryz.f47, argEnv]
  (repeat' first | with_reducible (first | intro _ | refine rc ?_ | refine rl ?_ | refine rh ?_ | refine rt ?_ | refine rf ?_ | refine rs ?_ | refine And.intro ?_ ?_) | omega | simp (maxSteps := 1000000) only [go_sem, simprocAttr, ↓reduceIte, mxs, List.length_map])
  · rename_i h
    have : l = [] := List.eq_nil_of_length_eq_zero (by simpa using h)
    refine Ret.auto 1 ?_ rfl ?_ <;> simp only [go_sem, reduceCtorEq, reduceIte, Nat.reduceEqDiff, Nat.reduceLT, Nat.reduceLeDiff, Int.natCast_succ, Post, this, zrow, List.replicate_zero, mxs]
  · refine Ret.auto 1 ?_ rfl ?_ <;> simp only [go_sem, reduceCtorEq, reduceIte, Nat.reduceEqDiff, Nat.reduceLT, Nat.reduceLeDiff, Int.natCast_succ, Post, zrow, List.replicate_zero, mxs]

theorem mixSel_step (acc l : List Mx) {i : Nat} (h : i < l.length) : mixSel acc (l.drop i) = mixSel (if mixErr (acc ++ [l.getD i Mx.zero]) = 0 then acc ++ [l.getD i Mx.zero] else acc) (l.drop (i + 1)) := by
  rw [List.drop_eq_getElem_cons h, getD_lt h]; rfl
theorem mxs_snoc (l : List Mx) (m : Mx) : l.map Mx.av ++ [[.str m.f, .str m.t, .int .i64 m.c]] = (l ++ [m]).map Mx.av := by simp [Mx.av]

set_option maxHeartbeats 4000000 in
theorem mixes_ok (l : List Mx) : FnOk Tryz.prog 11 [.ro (mxs l)] (.own 0) [(0, .row 54 (mxs (mixSel [] (l.take 12))))] := by
  refine FnOk.of_vc Tryz.func11 rfl (by decide) (by simp [Tryz.f11]) [.tmp 2] rfl fun w0 T0 _ => ?_
  simp only [Tryz.f11, argEnv]
  have hmin : min (l.length : Int) 12 = ((min l.length 12 : Nat) : Int) := by omega
  have hsub : List.take (min l.length 12 - 0) (l.map Mx.av) = (l.take 12).map Mx.av := by
    simp only [← List.map_take, Nat.sub_zero]
    rcases Nat.le_total l.length 12 with h | h
    · rw [Nat.min_eq_left h, List.take_of_length_le (Nat.le_refl _), List.take_of_length_le h]
    · rw [Nat.min_eq_right h]
  have hl12 : (l.take 12).length ≤ 12 := by simp; omega
  generalize l.take 12 = q at *
  (repeat' first | with_reducible (first | intro _ | refine rc ?_ | refine rl ?_ | refine rh ?_ | refine rt ?_ | refine rf ?_ | refine rs ?_ | refine And.intro ?_ ?_) | omega | simp (maxSteps := 1000000) only [go_sem, simprocAttr, ↓reduceIte, minmax, hmin, Int.toNat_natCast, hsub, List.length_map, mxs])
  refine VcLoop.intro (fun x : Nat × List Mx => ⟨29, [(12, .int .i64 x.1), (11, .int .i64 q.length), (10, .ro (mxs q)), (3, .own 0)], [(0, .row 54 (mxs x.2))], 1⟩) (fun x => x.1 ≤ q.length ∧ x.2.length ≤ x.1 ∧ mixSel x.2 (q.drop x.1) = mixSel [] q) (fun x => q.length - x.1) (0, []) ?_ ⟨Nat.zero_le _, Nat.le_refl _, rfl⟩ fun x hx => ?_
  · refine Ent.auto0 rfl ?_ ?_ <;> simp only [go_sem, reduceCtorEq, reduceIte, Nat.reduceEqDiff, Nat.reduceLT, Nat.reduceLeDiff, Int.natCast_succ, mxs]
  obtain ⟨i, acc⟩ := x
  dsimp only at hx
  by_cases hlt : i < q.length
  · have he := mx_elem q hlt
    have hs := mixSel_step acc q hlt
    generalize q.getD i Mx.zero = m at *
    have k1 := cloneMix_ok acc (by omega)
    have k2 := mixesError_ok (acc ++ [m])
    have es := mxs_snoc acc m
    (repeat' first | with_reducible (first | intro _ | refine rc ?_ | refine rl ?_ | refine rh ?_ | refine rt ?_ | refine rf ?_ | refine rs ?_ | refine And.intro ?_ ?_) | omega | simp (maxSteps := 1000000) only [go_sem, simprocAttr, ↓reduceIte, elemA, he, mxs, List.length_map])
    refine VcDraw.cut (.first 0 (.cons 1 (.cons 2 (.cons 3 (.cons 4 (.cons 5 (.cons 6 .done .stop) .stop) .stop) .stop) .stop) (.cons 2 (.cons 1 (.cons 3 (.cons 4 (.cons 5 (.cons 6 .done .stop) .stop) .stop) .stop) (.cons 3 (.cons 1 (.cons 4 (.cons 5 (.cons 6 .done .stop) .stop) .stop) .stop) .stop)) .stop))) (by kernel_rfl) (by kernel_rfl) (by kernel_rfl)
      ⟨29, [(22, .bool (decide (mixErr (acc ++ [m]) = 0))), (12, .int .i64 i), (11, .int .i64 q.length), (10, .ro (mxs q)), (3, .own 0), (5, .ptr 1 0)], [(0, .row 54 (mxs acc)), (1, .box 54 [.str m.f, .str m.t, .int .i64 m.c])], 2⟩ ?_ ?_
    · (repeat' first | with_reducible (first | intro _ | refine rc ?_ | refine rl ?_ | refine rh ?_ | refine rt ?_ | refine rf ?_ | refine rs ?_ | refine And.intro ?_ ?_) | omega | simp (maxSteps := 1000000) only [go_sem, simprocAttr, ↓reduceIte])
      all_goals
        refine VcCall.fr (FnFr.of_ok k1 rfl (by simp [noRoRows, noRoItem, noRoRow, noRoL, noRo, mxs, Mx.av])) (by simp only [noIdR_ok, argOkL, argOk, allOk, argOkN, List.drop_zero, lk, reduceIte, reduceCtorEq, Nat.reduceEqDiff, Option.some.injEq, Item.row.injEq, Item.box.injEq, AV.ro.injEq, exists_eq_left, exists_and_left, exists_eq_left', exists_eq_right, and_assoc, and_true, true_and, List.cons.injEq, exists_eq', exists_eq, mxs]) 1 rfl (by simp [rowsB, Item.below]) ?_
        (repeat' first | with_reducible (first | intro _ | refine rc ?_ | refine rl ?_ | refine rh ?_ | refine rt ?_ | refine rf ?_ | refine rs ?_ | refine And.intro ?_ ?_) | omega | simp (maxSteps := 1000000) only [go_sem, simprocAttr, ↓reduceIte, mxs, es, List.length_map])
        refine VcCall.fr (FnFr.of_ok k2 rfl rfl) (by simp only [noIdR_ok, argOkL, argOk, allOk, argOkN, List.drop_zero, lk, reduceIte, reduceCtorEq, Nat.reduceEqDiff, Option.some.injEq, Item.row.injEq, Item.box.injEq, AV.ro.injEq, exists_eq_left, exists_and_left, exists_eq_left', exists_eq_right, and_assoc, and_true, true_and, List.cons.injEq, exists_eq', exists_eq, mxs]) 0 rfl (by simp [rowsB]) ?_
        (repeat' first | with_reducible (first | intro _ | refine rc ?_ | refine rl ?_ | refine rh ?_ | refine rt ?_ | refine rf ?_ | refine rs ?_ | refine And.intro ?_ ?_) | omega | simp (maxSteps := 1000000) only [go_sem, simprocAttr, ↓reduceIte])
        refine Ent.auto0 rfl ?_ ?_ <;> simp only [go_sem, reduceCtorEq, reduceIte, Nat.reduceEqDiff, Nat.reduceLT, Nat.reduceLeDiff, Int.natCast_succ, mxs]
    · (repeat' first | with_reducible (first | intro _ | refine rc ?_ | refine rl ?_ | refine rh ?_ | refine rt ?_ | refine rf ?_ | refine rs ?_ | refine And.intro ?_ ?_) | omega | simp (maxSteps := 1000000) only [go_sem, simprocAttr, ↓reduceIte, mxs, es, List.length_map])
      · rename_i h1
        rw [if_pos h1, hx.2.2] at hs
        refine ⟨(i + 1, acc ++ [m]), Ent.auto0 rfl ?_ ?_, ⟨by omega, ?_, hs.symm⟩, by omega⟩
        · simp only [go_sem, reduceCtorEq, reduceIte, Nat.reduceEqDiff, Nat.reduceLT, Nat.reduceLeDiff, Int.natCast_succ, mxs]
        · simp only [go_sem, reduceCtorEq, reduceIte, Nat.reduceEqDiff, Nat.reduceLT, Nat.reduceLeDiff, Int.natCast_succ, mxs]
        · simp; omega
      · rename_i h1
        rw [if_neg h1, hx.2.2] at hs
        refine ⟨(i + 1, acc), Ent.auto0 rfl ?_ ?_, ⟨by omega, ?_, hs.symm⟩, by omega⟩
        · simp only [go_sem, reduceCtorEq, reduceIte, Nat.reduceEqDiff, Nat.reduceLT, Nat.reduceLeDiff, Int.natCast_succ, mxs]
        · simp only [go_sem, reduceCtorEq, reduceIte, Nat.reduceEqDiff, Nat.reduceLT, Nat.reduceLeDiff, Int.natCast_succ, mxs]
        · dsimp only; omega
  · have e : i = q.length := by omega
    have h0 := hx.2.2
    rw [e, List.drop_length] at h0
    (repeat' first | with_reducible (first | intro _ | refine rc ?_ | refine rl ?_ | refine rh ?_ | refine rt ?_ | refine rf ?_ | refine rs ?_ | refine And.intro ?_ ?_) | omega | simp (maxSteps := 1000000) only [go_sem, simprocAttr, ↓reduceIte, mxs, List.length_map])
    refine Ret.auto 1 ?_ rfl ?_ <;> simp only [go_sem, reduceCtorEq, reduceIte, Nat.reduceEqDiff, Nat.reduceLT, Nat.reduceLeDiff, Int.natCast_succ, Post, ← h0, mixSel, mxs]
end Go.Fv.Y
