/-
  A part of the proof of the claim: walks over the program's functions and the plain laws that these need. No condition of its own.
-/
import Derived.Test.YtingcghleidhmaaGreatDoorQLayoutsMatchCardPart1
import Derived.Test.YtingcghleidhmaaGreatDoorFvPart11
import Derived.Test.YtingcghleidhmaaGreatDoorQLayoutsMatchCardPart3
import Derived.Test.YtingcghleidhmaaGreatDoorQLayoutsMatchCardPart2
import Derived.Test.YtingcghleidhmaaGreatDoorFvPart9
/- slices.Sort of ints, by the shelf. -/
namespace Go.Proofs
open Go.Shelf
def Tryz.lSort_ren : Go.Shelf.Ren := ⟨fun | 5 => 42 | 8 => 73 | 7 => 72 | 19 => 107 | 20 => 108 | 10 => 98 | 11 => 99 | 12 => 100 | 13 => 101 | 14 => 102 | 15 => 103 | 16 => 104 | 17 => 105 | 18 => 106 | 30 => 122 | 31 => 123 | 32 => 124 | 33 => 125 | 34 => 126 | 35 => 127 | 40 => 131 | n => n, fun | 23 => 64 | 25 => 3 | 3 => 3 | 32 => 120 | 22 => 64 | 0 => 0 | 44 => 152 | 46 => 154 | 4 => 4 | 36 => 145 | 35 => 144 | 41 => 149 | 5 => 5 | 9 => 9 | 53 => 168 | 57 => 172 | 63 => 175 | 64 => 162 | n => n, fun | n => n⟩
theorem Tryz.lSort : Go.Proofs.SlLaysM.n5 Tryz.prog Tryz.lSort_ren := {
  mixed := by kernel_rfl
  f5 := ⟨Tryz.f42.name, by decide, Tryz.func42.trans (congrArg some (by kernel_rfl))⟩
  f7 := ⟨Tryz.f72.name, by decide, Tryz.func72.trans (congrArg some (by kernel_rfl))⟩
  f8 := Tryz.func73.trans (congrArg some (by kernel_rfl))
  f10 := ⟨Tryz.f98.name, by decide, Tryz.func98.trans (congrArg some (by kernel_rfl))⟩
  f11 := ⟨Tryz.f99.name, by decide, Tryz.func99.trans (congrArg some (by kernel_rfl))⟩
  f12 := ⟨Tryz.f100.name, by decide, Tryz.func100.trans (congrArg some (by kernel_rfl))⟩
  f13 := ⟨Tryz.f101.name, by decide, Tryz.func101.trans (congrArg some (by kernel_rfl))⟩
  f14 := ⟨Tryz.f102.name, by decide, Tryz.func102.trans (congrArg some (by kernel_rfl))⟩
  f15 := ⟨Tryz.f103.name, by decide, Tryz.func103.trans (congrArg some (by kernel_rfl))⟩
  f16 := ⟨Tryz.f104.name, by decide, Tryz.func104.trans (congrArg some (by kernel_rfl))⟩
  f17 := ⟨Tryz.f105.name, by decide, Tryz.func105.trans (congrArg some (by kernel_rfl))⟩
  f18 := ⟨Tryz.f106.name, by decide, Tryz.func106.trans (congrArg some (by kernel_rfl))⟩
  f19 := Tryz.func107.trans (congrArg some (by kernel_rfl))
  f20 := Tryz.func108.trans (congrArg some (by kernel_rfl))
  f30 := ⟨Tryz.f122.name, by decide, Tryz.func122.trans (congrArg some (by kernel_rfl))⟩
  f31 := Tryz.func123.trans (congrArg some (by kernel_rfl))
  f32 := Tryz.func124.trans (congrArg some (by kernel_rfl))
  f33 := ⟨Tryz.f125.name, by decide, Tryz.func125.trans (congrArg some (by kernel_rfl))⟩
  f34 := ⟨Tryz.f126.name, by decide, Tryz.func126.trans (congrArg some (by kernel_rfl))⟩
  f35 := ⟨Tryz.f127.name, by decide, Tryz.func127.trans (congrArg some (by kernel_rfl))⟩
  f40 := ⟨Tryz.f131.name, by decide, Tryz.func131.trans (congrArg some (by kernel_rfl))⟩
  t0 := Tryz.underlying0
  a0 := Tryz.isAgg0
  z0 := Tryz.sizeOf0
  v0 := Tryz.zeroValue0
  t3 := Tryz.underlying3
  a3 := Tryz.isAgg3
  z3 := Tryz.sizeOf3
  v3 := Tryz.zeroValue3
  t4 := Tryz.underlying4
  a4 := Tryz.isAgg4
  z4 := Tryz.sizeOf4
  v4 := Tryz.zeroValue4
  t5 := Tryz.underlying5
  a5 := Tryz.isAgg5
  z5 := Tryz.sizeOf5
  v5 := Tryz.zeroValue5
  t9 := Tryz.underlying9
  a9 := Tryz.isAgg9
  z9 := Tryz.sizeOf9
  v9 := Tryz.zeroValue9
  t22 := Tryz.underlying64
  a22 := Tryz.isAgg64
  z22 := Tryz.sizeOf64
  v22 := Tryz.zeroValue64
  t23 := Tryz.underlying64
  a23 := Tryz.isAgg64
  z23 := Tryz.sizeOf64
  v23 := Tryz.zeroValue64
  t25 := Tryz.underlying3
  a25 := Tryz.isAgg3
  z25 := Tryz.sizeOf3
  v25 := Tryz.zeroValue3
  t32 := Tryz.underlying120
  a32 := Tryz.isAgg120
  z32 := Tryz.sizeOf120
  v32 := Tryz.zeroValue120
  t35 := Tryz.underlying144
  a35 := Tryz.isAgg144
  z35 := Tryz.sizeOf144
  v35 := Tryz.zeroValue144
  t36 := Tryz.underlying145
  a36 := Tryz.isAgg145
  z36 := Tryz.sizeOf145
  v36 := Tryz.zeroValue145
  t41 := Tryz.underlying149
  a41 := Tryz.isAgg149
  z41 := Tryz.sizeOf149
  v41 := Tryz.zeroValue149
  t44 := Tryz.underlying152
  a44 := Tryz.isAgg152
  z44 := Tryz.sizeOf152
  v44 := Tryz.zeroValue152
  t46 := Tryz.underlying154
  a46 := Tryz.isAgg154
  z46 := Tryz.sizeOf154
  v46 := Tryz.zeroValue154
  t53 := Tryz.underlying168
  a53 := Tryz.isAgg168
  z53 := Tryz.sizeOf168
  v53 := Tryz.zeroValue168
  t57 := Tryz.underlying172
  a57 := Tryz.isAgg172
  z57 := Tryz.sizeOf172
  v57 := Tryz.zeroValue172
  t63 := Tryz.underlying175
  a63 := Tryz.isAgg175
  z63 := Tryz.sizeOf175
  v63 := Tryz.zeroValue175
  t64 := Tryz.underlying162
  a64 := Tryz.isAgg162
  z64 := Tryz.sizeOf162
  v64 := Tryz.zeroValue162 }
end Go.Proofs
namespace Go.Fv.Q
open Go Go.Proofs
end Go.Fv.Q

/- slices.Sort of ints, as a contract that writes the caller's row. -/
namespace Go.Fv.Q
open Go Go.Proofs
theorem sortR_ok (l : List Int) (hl : l.length ≤ 1000000000) : FnIO Tryz.prog 42 [.own 0] [(0, .row 3 (.ints .i64 l))] 1 (.tup []) [(0, .row 3 (.ints .i64 (Go.Fv.sortI l)))] :=
  Go.Fv.sortInts_io Tryz.lSort ⟨_, Tryz.func42, by kernel_rfl, by kernel_rfl⟩ 3 l (by omega)
theorem cov1 {a : Item} : ∀ j, j < 1 → ∃ it, lk [(0, a)] j = some it
  | 0, _ => ⟨_, rfl⟩
  | _ + 1, h => absurd h (by omega)
end Go.Fv.Q

/-! The gap between words: the walk. -/
namespace Go.Fv.Q
open Go Go.Proofs
set_option linter.unusedSimpArgs false
set_option linter.unusedVariables false
set_option linter.unnecessarySimpa false
set_option maxRecDepth 8000

/-- The stretches of columns with ink, by places in the box. -/
def inkS (p : List Bool) (w : Nat) (b : Nb) : List (Nat × Nat) := strs (fun j => !colE p w b (b.x + j)) b.w 0
theorem inkS_abs (p : List Bool) (w : Nat) (b : Nb) : strs (fun i => !colE p w b i) b.w b.x = (inkS p w b).map fun s => (b.x + s.1, s.2) := by
  have h := strs_shift (fun i => !colE p w b i) b.x b.w 0
  rw [Nat.add_zero] at h
  exact h
theorem inkS_len (p : List Bool) (w : Nat) (b : Nb) : (inkS p w b).length ≤ b.w := strs_len _ _ _
theorem inkS_mem {p : List Bool} {w : Nat} {b : Nb} {s : Nat × Nat} (h : s ∈ inkS p w b) : s.1 + s.2 ≤ b.w := by
  have := strs_mem _ _ _ _ h
  omega
set_option maxHeartbeats 1000000 in
theorem gap1_ok (p : List Bool) (w h : Nat) (hw : w ≤ 4000) (hh : h ≤ 4000) (gx gy : Nat) (o : List Nb) (b : Nb) (i : Nat) (hi : i < w) (hb : InP b w h) :
    FnOk Tryz.prog 69 [.int .i64 i, .cell [.cell (ctr p w h gx gy (.ro (nbs o)))], .cell b.av] (.bool (!colE p w b i)) [] := by
  have k := column_ok p w h hw hh gx gy o b i hi hb
  have e : (!colE p w b i) = decide (0 < (colN p w b i : Int)) := by
    unfold colE
    by_cases h0 : colN p w b i = 0
    · rw [h0]; rfl
    · rw [decide_eq_false h0, decide_eq_true (by omega : 0 < (colN p w b i : Int))]; rfl
  rw [e]
  generalize decide (0 < (colN p w b i : Int)) = q at *
  unfold ctr Nb.av at *
  generalize sumL p w h = sc at *
  refine FnOk.of_vc Tryz.func69 rfl (by decide) (by simp [Tryz.f69]) [.tmp 4] rfl fun w0 T0 _ => ?_
  simp only [Tryz.f69, argEnv]
  (repeat' first | with_reducible (first | intro _ | refine rc ?_ | refine rl ?_ | refine rh ?_ | refine rt ?_ | refine rf ?_ | refine rs ?_ | refine And.intro ?_ ?_) | omega | simp (maxSteps := 1000000) only [go_sem, simprocAttr, ↓reduceIte])
  refine VcCall.k (k) ?_
  (repeat' first | with_reducible (first | intro _ | refine rc ?_ | refine rl ?_ | refine rh ?_ | refine rt ?_ | refine rf ?_ | refine rs ?_ | refine And.intro ?_ ?_) | omega | simp (maxSteps := 1000000) only [go_sem, simprocAttr, ↓reduceIte])
  refine Ret.auto 0 ?_ rfl ?_ <;> simp only [go_sem, reduceCtorEq, reduceIte, Nat.reduceEqDiff, Nat.reduceLT, Nat.reduceLeDiff, Int.natCast_succ, Post]
set_option maxHeartbeats 8000000 in
theorem gap_ok (p : List Bool) (w h : Nat) (hw : w ≤ 4000) (hh : h ≤ 4000) (gx gy : Nat) (b : Nb) (hb : InP b w h) :
    FnOk Tryz.prog 38 [.cell (ctr p w h gx gy (.ro (nbs []))), .agg b.av] (.int .i64 (gapV (inkS p w b))) [] := by
  have kS := stretches_ok b.x (b.x + b.w) (by omega) (by unfold InP at hb; omega) 69 [.cell [.cell (ctr p w h gx gy (.ro (nbs [])))], .cell b.av] (fun i => !colE p w b i) fun i h1 h2 => FnFr.of_ok (gap1_ok p w h hw hh gx gy [] b i (by unfold InP at hb; omega) hb) rfl rfl
  rw [Nat.add_sub_cancel_left, inkS_abs] at kS
  have bS : ∀ s, s ∈ inkS p w b → s.1 ≤ 10000 ∧ s.2 ≤ 10000 := fun s hs => by
    have := inkS_mem hs
    unfold InP at hb; omega
  have hlen := inkS_len p w b
  generalize inkS p w b = SL at *
  have hSb : SL.length ≤ 4000 := by unfold InP at hb; omega
  obtain ⟨bx, by', bw, bh⟩ := b
  have hbb := hb
  unfold InP at hbb
  dsimp only at hbb hlen
  simp only [ctr, Nb.av] at *
  generalize sumL p w h = sc at *
  refine FnOk.of_vc Tryz.func38 rfl (by decide) (by simp [Tryz.f38]) [.tmp 4] rfl fun w0 T0 _ => ?_
  simp only [Tryz.f38, argEnv]
  (repeat' first | with_reducible (first | intro _ | refine rc ?_ | refine rl ?_ | refine rh ?_ | refine rt ?_ | refine rf ?_ | refine rs ?_ | refine And.intro ?_ ?_) | omega | simp (maxSteps := 1000000) only [go_sem, simprocAttr, ↓reduceIte])
  refine VcCall.ro (.ro (stR (SL.map fun s => (bx + s.1, s.2)))) (FnFr.of_ok kS rfl (by simp [noRoRows, noRoItem, noRoRow, noRoL, noRo, stR, stAv])) (by simp only [noIdR_ok, argOkL, argOk, allOk, argOkN, List.drop_zero, lk, reduceIte, reduceCtorEq, Nat.reduceEqDiff, Option.some.injEq, Item.row.injEq, Item.box.injEq, AV.ro.injEq, exists_eq_left, exists_and_left, exists_eq_left', exists_eq_right, and_assoc, and_true, true_and, List.cons.injEq, exists_eq', exists_eq, nbs, noIdR_ok, Int.natCast_add]) (by simp [outOk, argOkL, allOk, argOk, argOkN, lk, noIdR_ok, stR, -List.map_map]) rfl ?_
  unfold stR
  (repeat' first | with_reducible (first | intro _ | refine rc ?_ | refine rl ?_ | refine rh ?_ | refine rt ?_ | refine rf ?_ | refine rs ?_ | refine And.intro ?_ ?_) | omega | simp (maxSteps := 1000000) only [go_sem, simprocAttr, ↓reduceIte, List.length_map])
  have elem : ∀ i, i < SL.length → ((SL.map fun s => (bx + s.1, s.2)).map stAv).getD i [] = [.int .i64 (bx + (SL.getD i (0, 0)).1 : Nat), .int .i64 (SL.getD i (0, 0)).2] := fun i hi => by
    rw [st_elem _ (by simpa using hi), getD_lt (by simpa using hi), getD_lt hi, List.getElem_map]
  have hSA : ((SL.map fun s => (bx + s.1, s.2)).map stAv).length = SL.length := by rw [List.length_map, List.length_map]
  generalize (SL.map fun s => (bx + s.1, s.2)).map stAv = SA at *
  refine VcLoop.intro (fun i : Nat => ⟨86, [(7, .int .i64 (i + 1 : Nat)), (5, .ro (.objs 2 SA)), (6, .own 0)], [(0, .row 3 (.ints .i64 (gpl SL i)))], 1⟩) (fun i => i ≤ SL.length - 1) (fun i => SL.length - i) 0 ?_ (Nat.zero_le _) fun i hi => ?_
  · refine Ent.auto0 rfl ?_ ?_ <;> simp only [go_sem, reduceCtorEq, reduceIte, Nat.reduceEqDiff, Nat.reduceLT, Nat.reduceLeDiff, Int.natCast_succ, gpl, List.range_zero, List.map_nil]
    all_goals rfl
  have hll := gpl_len SL i
  have hsu := gpl_succ SL i
  by_cases hlt : i + 1 < SL.length
  · have e1 := elem (i + 1) hlt
    have e0 := elem i (by omega)
    have b1 := bS (SL.getD (i + 1) (0, 0)) (by rw [getD_lt hlt]; exact List.getElem_mem hlt)
    have b0 := bS (SL.getD i (0, 0)) (by rw [getD_lt (show i < SL.length by omega)]; exact List.getElem_mem _)
    unfold gpf at hsu
    generalize SL.getD (i + 1) (0, 0) = u at *
    generalize SL.getD i (0, 0) = v at *
    generalize gpl SL i = G at *
    obtain ⟨u1, u2⟩ := u
    obtain ⟨v1, v2⟩ := v
    dsimp only at e1 e0 b1 b0 hsu
    have eN : (((i + 1 : Nat) : Int) - 1).toNat = i := by omega
    (repeat' first | with_reducible (first | intro _ | refine rc ?_ | refine rl ?_ | refine rh ?_ | refine rt ?_ | refine rf ?_ | refine rs ?_ | refine And.intro ?_ ?_) | omega | simp (maxSteps := 1000000) only [go_sem, simprocAttr, ↓reduceIte, hSA, Int.toNat_natCast])
    refine VcDraw.lex [20, 21] [(0, [1])] (by kernel_rfl) (by kernel_rfl) ?_
    (repeat' first | with_reducible (first | intro _ | refine rc ?_ | refine rl ?_ | refine rh ?_ | refine rt ?_ | refine rf ?_ | refine rs ?_ | refine And.intro ?_ ?_) | omega | simp (maxSteps := 1000000) only [go_sem, simprocAttr, ↓reduceIte, hSA, Int.toNat_natCast, eN, e1, e0])
    have eD : (bx : Int) + u1 - ((bx : Int) + v1) - v2 = (u1 : Int) - v1 - v2 := by omega
    refine ⟨i + 1, Ent.auto0 rfl ?_ ?_, by omega, by omega⟩ <;> simp only [go_sem, reduceCtorEq, reduceIte, Nat.reduceEqDiff, Nat.reduceLT, Nat.reduceLeDiff, Int.natCast_succ, hsu, eD, Int.natCast_add]
    all_goals rfl
  · have hi2 : i = SL.length - 1 := by omega
    (repeat' first | with_reducible (first | intro _ | refine rc ?_ | refine rl ?_ | refine rh ?_ | refine rt ?_ | refine rf ?_ | refine rs ?_ | refine And.intro ?_ ?_) | omega | simp (maxSteps := 1000000) only [go_sem, simprocAttr, ↓reduceIte, hSA])
    · rename_i h0
      have e : gapV SL = 1 := by unfold gapV; rw [if_pos (by omega)]
      rw [e]
      refine Ret.auto 0 ?_ rfl ?_ <;> simp only [go_sem, reduceCtorEq, reduceIte, Nat.reduceEqDiff, Nat.reduceLT, Nat.reduceLeDiff, Int.natCast_succ, Post]
    · rename_i h0
      have e : gapV SL = gapR (sortI (gpl SL i)) := by unfold gapV; rw [if_neg (by omega), hi2]
      have hWb := sortI_bd (gpl_bd bS i)
      have hWl : (sortI (gpl SL i)).length = i := by rw [sortI_lenG, hll]
      rw [e]
      refine VcCall.io [0] (sortR_ok (gpl SL i) (by omega)) (by decide) (by simp [renL, ren, ioN]) rfl (by simp [subOk, ioN, lk, Item.ren, Item.below, ren, renL, belowL, Fv.below, renR, belowR]) cov1 1 (by decide) rfl (by simp [rowsB, Item.below, Fv.below, belowL, belowR]) ?_
      generalize sortI (gpl SL i) = W at *
      have hb1 := wb_get hWb (W.length - 1)
      have eL : ((W.length : Int) - 1).toNat = W.length - 1 := by omega
      have hWp : 0 < W.length := by omega
      have hgb := gS_bd hWb
      unfold gapR
      (repeat' first | with_reducible (first | intro _ | refine rc ?_ | refine rl ?_ | refine rh ?_ | refine rt ?_ | refine rf ?_ | refine rs ?_ | refine And.intro ?_ ?_) | omega | simp (maxSteps := 1000000) only [go_sem, simprocAttr, ↓reduceIte, S.ioS, ioRows, ioN, delL, Item.ren, ren, renL, renR, List.map_nil, List.length_cons, List.length_nil, List.getElem?_cons_zero, List.getElem?_nil, List.cons_append, List.nil_append, Nat.reduceAdd, Nat.sub_self, Nat.add_zero, List.filter, eL])
      refine VcLoop.intro (fun j : Nat => ⟨86, [(10, .int .i64 (j + 1 : Nat)), (6, .own 0), (8, .int .i64 (gS W j).1), (9, .int .i64 (gS W j).2)], [(0, .row 3 (.ints .i64 W))], 1⟩) (fun j => j ≤ W.length - 1) (fun j => W.length - j) 0 ?_ (Nat.zero_le _) fun j hj => ?_
      · refine Ent.auto0 rfl ?_ ?_ <;> simp only [go_sem, reduceCtorEq, reduceIte, Nat.reduceEqDiff, Nat.reduceLT, Nat.reduceLeDiff, Int.natCast_succ]
        all_goals first | exact ⟨rfl, rfl⟩ | exact ⟨rfl, rfl, rfl⟩ | rfl
      have hgj := hgb j
      by_cases hlj : j + 1 < W.length
      · have hs : gS W (j + 1) = if (gS W j).2 ≤ W.getD (j + 1) 0 - W.getD j 0 then (W.getD (j + 1) 0, W.getD (j + 1) 0 - W.getD j 0) else gS W j := rfl
        have c1 := wb_get hWb (j + 1)
        have c0 := wb_get hWb j
        have eN : (((j + 1 : Nat) : Int) - 1).toNat = j := by omega
        generalize gS W j = g at *
        obtain ⟨g1, g2⟩ := g
        dsimp only at hgj hs
        (repeat' first | with_reducible (first | intro _ | refine rc ?_ | refine rl ?_ | refine rh ?_ | refine rt ?_ | refine rf ?_ | refine rs ?_ | refine And.intro ?_ ?_) | omega | simp (maxSteps := 1000000) only [go_sem, simprocAttr, ↓reduceIte, Int.toNat_natCast])
        refine VcDraw.lex [] [] (by kernel_rfl) (by kernel_rfl) ?_
        generalize hx : W.getD (j + 1) 0 = x at *
        generalize hy : W.getD j 0 = y at *
        (repeat' first | with_reducible (first | intro _ | refine rc ?_ | refine rl ?_ | refine rh ?_ | refine rt ?_ | refine rf ?_ | refine rs ?_ | refine And.intro ?_ ?_) | omega | simp (maxSteps := 1000000) only [go_sem, simprocAttr, ↓reduceIte, Int.toNat_natCast, eN, hx, hy])
        · rw [if_pos (by omega)] at hs
          refine ⟨j + 1, Ent.auto0 rfl ?_ ?_, by omega, by omega⟩ <;> simp only [go_sem, reduceCtorEq, reduceIte, Nat.reduceEqDiff, Nat.reduceLT, Nat.reduceLeDiff, Int.natCast_succ, hs, Int.natCast_add]
          all_goals rfl
        · rw [if_neg (by omega)] at hs
          refine ⟨j + 1, Ent.auto0 rfl ?_ ?_, by omega, by omega⟩ <;> simp only [go_sem, reduceCtorEq, reduceIte, Nat.reduceEqDiff, Nat.reduceLT, Nat.reduceLeDiff, Int.natCast_succ, hs, Int.natCast_add]
          all_goals rfl
      · have ej : j = W.length - 1 := by omega
        rw [← ej]
        (repeat' first | with_reducible (first | intro _ | refine rc ?_ | refine rl ?_ | refine rh ?_ | refine rt ?_ | refine rf ?_ | refine rs ?_ | refine And.intro ?_ ?_) | omega | simp (maxSteps := 1000000) only [go_sem, simprocAttr, ↓reduceIte])
        refine Ret.auto 0 ?_ rfl ?_ <;> simp only [go_sem, reduceCtorEq, reduceIte, Nat.reduceEqDiff, Nat.reduceLT, Nat.reduceLeDiff, Int.natCast_succ, Post]
end Go.Fv.Q

/-! Lines and words of a page's blocks: plain law. -/
namespace Go.Fv.Q
open Go
set_option linter.unusedSimpArgs false
set_option linter.unusedVariables false

theorem pairs_cuts {p : List Bool} {w : Nat} {b : Nb} {l : List (Nat × Nat)} {mk : Nat × Nat → Nb} {n : Nat} {F : Nat → Nat → Nat} (h : Cov F n l) (hF : ∀ t, t ∈ l → inkB p w (mk t) = F t.1 t.2) (h0 : F 0 n = inkB p w b) (hp : ∀ t, t ∈ l → PartOf (mk t) b ∧ 0 < inkB p w (mk t)) (ha : ∀ s t, s.1 < s.2 → t.1 < t.2 → s.2 ≤ t.1 → Apart (mk s) (mk t)) : Cuts p w b (l.map mk) where
  part := fun x hx => by
    obtain ⟨y, hy, rfl⟩ := List.mem_map.1 hx
    exact (hp y hy).1
  ink := fun x hx => by
    obtain ⟨y, hy, rfl⟩ := List.mem_map.1 hx
    exact (hp y hy).2
  sum := by
    rw [List.map_map, ← h0, ← h.sum]
    congr 1
    exact List.map_congr_left fun y hy => hF y hy
  apart := List.pairwise_map.2 (h.apart.imp_of_mem fun {x y} hx hy hxy => ha x y (h.bd x hx).1 (h.bd y hy).1 hxy)
theorem rows_cuts (p : List Bool) (w : Nat) (b : Nb) (gap : Nat) : Cuts p w b ((linesR p w b gap).map (rowBox p w b)) := by
  have h := rfGo_cov0 (F := fun a c => inkN p w b.x (b.y + a) b.w (c - a)) (fun a c d h1 h2 => by
    have := inkN_splitV p w b.x (b.y + a) b.w (c - a) (d - c)
    rw [show c - a + (d - c) = d - a by omega, show b.y + a + (c - a) = b.y + c by omega] at this
    exact this.symm) (fun j => !rowE p w b (b.y + j)) gap b.h (fun j hj hr => by
    have h1 : rowE p w b (b.y + j) = true := by simpa using hr
    unfold rowE rowN at h1
    rw [show j + 1 - j = 1 by omega]
    exact of_decide_eq_true h1)
  have k := pairs_cuts (p := p) (w := w) (b := b) (mk := rowBoxT b) h (fun t ht => rfl) (by unfold inkB; rfl) (fun t ht => (linesR_mem (gap := gap) ht).2.2) (fun s t h1 h2 h3 => by unfold Apart rowBoxT; dsimp only; omega)
  have k2 := k.tight
  rw [List.map_map] at k2
  exact k2
theorem words_cuts (p : List Bool) (w : Nat) (b : Nb) (gap : Nat) : Cuts p w b ((linesC p w b gap).map (wordBox p w b)) := by
  have h := rfGo_cov0 (F := fun a c => inkN p w (b.x + a) b.y (c - a) b.h) (fun a c d h1 h2 => by
    have := inkN_split p w (b.x + a) b.y (c - a) (d - c) b.h
    rw [show c - a + (d - c) = d - a by omega, show b.x + a + (c - a) = b.x + c by omega] at this
    exact this.symm) (fun j => !colE p w b (b.x + j)) gap b.w (fun j hj hr => by
    have h1 : colE p w b (b.x + j) = true := by simpa using hr
    unfold colE colN at h1
    rw [show j + 1 - j = 1 by omega]
    exact of_decide_eq_true h1)
  have k := pairs_cuts (p := p) (w := w) (b := b) (mk := wordBoxT b) h (fun t ht => rfl) (by unfold inkB; rfl) (fun t ht => (linesC_mem (gap := gap) ht).2.2) (fun s t h1 h2 h3 => by unfold Apart wordBoxT; dsimp only; omega)
  have k2 := k.tight
  rw [List.map_map] at k2
  exact k2
theorem strs_sep (is : Nat → Bool) : ∀ (n i : Nat), (strs is n i).Pairwise fun s t => s.1 + s.2 < t.1
  | 0, i => by unfold strs; exact List.Pairwise.nil
  | n + 1, i => by
    have hb := runE_bd is (n + 1) i
    unfold strs
    split
    · refine List.pairwise_cons.2 ⟨fun t ht => ?_, strs_sep is _ _⟩
      have := (strs_mem _ _ _ _ ht).1
      dsimp only; omega
    · exact strs_sep is n (i + 1)
termination_by n => n
decreasing_by all_goals omega
theorem gapV_bd (p : List Bool) (w : Nat) (b : Nb) (hb : b.w ≤ 3999) : ∃ g : Nat, gapV (inkS p w b) = g ∧ 1 ≤ g ∧ g ≤ 4000 := by
  have hs : (inkS p w b).Pairwise fun s t => s.1 + s.2 < t.1 := strs_sep _ _ _
  have hm : ∀ s, s ∈ inkS p w b → s.1 + s.2 ≤ b.w := fun s h => inkS_mem h
  generalize inkS p w b = S at *
  suffices h : 1 ≤ gapV S ∧ gapV S ≤ 4000 by exact ⟨(gapV S).toNat, by omega, by omega, by omega⟩
  unfold gapV
  split
  · omega
  · rename_i hl
    have hW : ∀ x, x ∈ sortI (gpl S (S.length - 1)) → 1 ≤ x ∧ x ≤ 3999 := fun x hx => by
      have hx := (List.mergeSort_perm _ _).mem_iff.1 hx
      unfold gpl at hx
      obtain ⟨i, hi, rfl⟩ := List.mem_map.1 hx
      have hi := List.mem_range.1 hi
      have h1 := List.pairwise_iff_getElem.1 hs i (i + 1) (by omega) (by omega) (by omega)
      have h2 := hm _ (List.getElem_mem (show i + 1 < S.length by omega))
      unfold gpf
      rw [getD_lt (show i < S.length by omega), getD_lt (show i + 1 < S.length by omega)]
      omega
    have hWl : 0 < (sortI (gpl S (S.length - 1))).length := by rw [sortI_lenG, gpl_len]; omega
    generalize sortI (gpl S (S.length - 1)) = W at *
    unfold gapR
    have get : ∀ j, j < W.length → 1 ≤ W.getD j 0 ∧ W.getD j 0 ≤ 3999 := fun j hj => by rw [getD_lt hj]; exact hW _ (List.getElem_mem hj)
    have aux : ∀ j, j ≤ W.length - 1 → 1 ≤ (gS W j).1 ∧ (gS W j).1 ≤ 4000 := by
      intro j
      induction j with
      | zero => intro _; have := get (W.length - 1) (by omega); unfold gS; dsimp only; omega
      | succ j ih =>
        intro hj
        have := get (j + 1) (by omega)
        have := ih (by omega)
        unfold gS
        split
        · dsimp only; omega
        · assumption
    exact aux _ (Nat.le_refl _)
end Go.Fv.Q

namespace Go.Fv.Q
open Go
set_option linter.unusedSimpArgs false
set_option linter.unusedVariables false

/-! ### Lengths, counted in a map -/
def uq (l : List Int) : List Int := l.foldl insE []
def cnt (l : List Int) (k : Int) : Int := ((l.count k : Nat) : Int)
theorem uq_snoc (l : List Int) (r : Int) : uq (l ++ [r]) = insE (uq l) r := by simp [uq, List.foldl_append]
theorem mem_foldl_insE : ∀ (l s : List Int) (x : Int), x ∈ l.foldl insE s ↔ x ∈ s ∨ x ∈ l
  | [], s, x => by simp
  | y :: l, s, x => by simp only [List.foldl_cons]; rw [mem_foldl_insE l, mem_insE, List.mem_cons, or_assoc]
theorem mem_uq {l : List Int} {x : Int} : x ∈ uq l ↔ x ∈ l := by unfold uq; rw [mem_foldl_insE]; simp
theorem insE_nodup {s : List Int} {x : Int} (h : s.Nodup) : (insE s x).Nodup := by
  unfold insE; split
  · exact h
  · rename_i hx
    rw [List.nodup_append]
    refine ⟨h, by simp, ?_⟩
    intro a ha b hb e
    simp only [List.mem_singleton] at hb
    subst hb; subst e; exact hx ha
theorem foldl_insE_nodup : ∀ (l s : List Int), s.Nodup → (l.foldl insE s).Nodup
  | [], s, h => h
  | y :: l, s, h => foldl_insE_nodup l _ (insE_nodup h)
theorem uq_nodup (l : List Int) : (uq l).Nodup := foldl_insE_nodup l [] List.nodup_nil
theorem cnt_snoc (l : List Int) (r k : Int) : cnt (l ++ [r]) k = if k = r then cnt l k + 1 else cnt l k := by
  unfold cnt
  rw [List.count_append]
  by_cases e : k = r
  · subst e; simp
  · rw [if_neg e, List.count_eq_zero (l := [r]).2 (by simp [e])]; simp
theorem cnt_none {l : List Int} {k : Int} (h : k ∉ l) : cnt l k = 0 := by unfold cnt; rw [List.count_eq_zero.2 h]; rfl
theorem cnt_bd (l : List Int) (k : Int) : 0 ≤ cnt l k ∧ cnt l k ≤ (l.length : Int) := by unfold cnt; have := List.count_le_length (a := k) (l := l); omega
/-- The keys and the values of such a map. -/
def cKs (l : List Int) : List AV := (uq l).map (.int .i64)
def cVs (l : List Int) : List AV := (uq l).map fun k => .int .i64 (cnt l k)
theorem getI_cnt (l : List Int) (r : Int) : getI (cKs l) (cVs l) (.int .i64 r) = cnt l r := by
  unfold getI getV cKs cVs
  rw [keyIdx_ints]
  cases h : ixOf (uq l) r with
  | none => simp [cnt_none (fun hm => ixOf_none.1 h (mem_uq.2 hm))]
  | some j => simp [ixOf_some h]
theorem updKs_cnt (l : List Int) (r : Int) : updKs (cKs l) (.int .i64 r) = cKs (l ++ [r]) := by
  unfold cKs; rw [updKs_ints, uq_snoc]
theorem set_cnt (l : List Int) (r : Int) : (entVs (cKs l) (cVs l) (.int .i64 r) (.int .i64 0)).set (entIx (cKs l) (.int .i64 r)) (.int .i64 (cnt l r + 1)) = cVs (l ++ [r]) := by
  unfold entIx entVs cKs cVs
  rw [keyIdx_ints, uq_snoc]
  cases h : ixOf (uq l) r with
  | none =>
    have hn := ixOf_none.1 h
    unfold insE
    rw [if_neg hn]
    simp only [List.map_append, List.map_cons, List.map_nil, List.length_map]
    rw [List.set_append_right _ _ (by simp)]
    simp only [List.length_map, Nat.sub_self, List.set_cons_zero]
    congr 1
    · refine List.map_congr_left fun k hk => ?_
      rw [cnt_snoc, if_neg (fun e => hn (by rw [← e]; exact hk))]
    · rw [cnt_snoc, if_pos rfl]
  | some j =>
    have hj := ixOf_some h
    have hm := List.mem_of_getElem? hj
    unfold insE
    rw [if_pos hm]
    refine List.ext_getElem? fun i => ?_
    rw [List.getElem?_set]
    by_cases e : j = i
    · subst e
      have hlt := (List.getElem?_eq_some_iff.1 hj).1
      simp only [List.length_map, hlt, reduceIte, List.getElem?_map, hj, Option.map_some]
      rw [cnt_snoc, if_pos rfl]
    · rw [if_neg e, List.getElem?_map, List.getElem?_map]
      cases hi : (uq l)[i]? with
      | none => rfl
      | some k =>
        simp only [Option.map_some]
        rw [cnt_snoc, if_neg]
        intro ek
        subst ek
        have h1 := (List.getElem?_eq_some_iff.1 hj)
        have h2 := (List.getElem?_eq_some_iff.1 hi)
        obtain ⟨a1, a2⟩ := h1
        obtain ⟨b1, b2⟩ := h2
        exact e ((List.getElem_inj (uq_nodup l)).1 (a2.trans b2.symm))

theorem updVs_cnt (l : List Int) (r : Int) : updVs (cKs l) (cVs l) (.int .i64 r) (.int .i64 (cnt l r + 1)) = cVs (l ++ [r]) := by
  rw [← set_cnt]
  unfold updVs entIx entVs cKs cVs
  rw [keyIdx_ints]
  cases h : ixOf (uq l) r with
  | none => simp
  | some j => simp
theorem isI_cnt (l : List Int) : (cVs l).all (isI .i64) = true := by simp [cVs, isI]
/-! ### The length that comes most often -/
def BestL (l S : List Int) (b : Int) : Prop := (S = [] ∧ b = 0) ∨ (b ∈ S ∧ ∀ k, k ∈ S → cnt l k < cnt l b ∨ (cnt l k = cnt l b ∧ b ≤ k))
def pickB (l : List Int) (b k : Int) : Int := if cnt l b < cnt l k ∨ (cnt l k = cnt l b ∧ k < b) then k else b
theorem BestL.step {l S : List Int} {b k : Int} (h0 : cnt l 0 = 0) (hk : 0 < cnt l k) (h : BestL l S b) : BestL l (S ++ [k]) (pickB l b k) := by
  unfold pickB
  rcases h with ⟨rfl, rfl⟩ | ⟨hb, ha⟩
  · rw [if_pos (.inl (by omega))]
    exact .inr ⟨by simp, fun k' hk' => .inr (by simp at hk'; subst hk'; exact ⟨rfl, Int.le_refl _⟩)⟩
  · split
    · rename_i hc
      refine .inr ⟨by simp, fun k' hk' => ?_⟩
      rcases List.mem_append.1 hk' with hk' | hk'
      · have := ha k' hk'; omega
      · simp at hk'; subst hk'; exact .inr ⟨rfl, Int.le_refl _⟩
    · rename_i hc
      refine .inr ⟨List.mem_append_left _ hb, fun k' hk' => ?_⟩
      rcases List.mem_append.1 hk' with hk' | hk'
      · exact ha k' hk'
      · simp at hk'; subst hk'; omega
theorem BestL.zero {l S : List Int} {b : Int} (hS : ∀ k, k ∈ S → 0 < k) (h : BestL l S b) : b = 0 ↔ S = [] := by
  rcases h with ⟨rfl, rfl⟩ | ⟨hb, ha⟩
  · simp
  · have := hS b hb
    constructor
    · intro e; omega
    · intro e; subst e; simp at hb
theorem BestL.one {l S S' : List Int} {b b' : Int} (he : ∀ k, k ∈ S ↔ k ∈ S') (h : BestL l S b) (h' : BestL l S' b') : b = b' := by
  rcases h with ⟨rfl, rfl⟩ | ⟨hb, ha⟩
  · rcases h' with ⟨_, rfl⟩ | ⟨hb', _⟩
    · rfl
    · exact absurd ((he _).2 hb') (by simp)
  · rcases h' with ⟨rfl, _⟩ | ⟨hb', ha'⟩
    · exact absurd ((he _).1 hb) (by simp)
    · have h1 := ha b' ((he _).2 hb')
      have h2 := ha' b ((he _).1 hb)
      omega
/-! ### All entries of a map, in any order -/
def left (n : Nat) (seen : List Nat) : Nat := ((List.range n).filter fun j => decide (j ∉ seen)).length
theorem filter_len_le {α : Type} {p q : α → Bool} : ∀ (l : List α), (∀ x, x ∈ l → q x = true → p x = true) → (l.filter q).length ≤ (l.filter p).length
  | [], _ => by simp
  | y :: l, h => by
    have ih := filter_len_le l (fun x hx => h x (.tail _ hx))
    have hy := h y (.head _)
    simp only [List.filter_cons]
    split
    · rw [if_pos (hy (by assumption))]; simp; exact ih
    · split
      · simp; omega
      · exact ih
theorem filter_len_lt {α : Type} {p q : α → Bool} : ∀ (l : List α) (a : α), a ∈ l → p a = true → q a = false → (∀ x, x ∈ l → q x = true → p x = true) → (l.filter q).length < (l.filter p).length
  | y :: l, a, ha, hp, hq, h => by
    simp only [List.filter_cons]
    rcases List.mem_cons.1 ha with rfl | ha
    · rw [if_pos hp, if_neg (by simp [hq])]
      have := filter_len_le l (fun x hx => h x (.tail _ hx))
      simp; omega
    · have ih := filter_len_lt l a ha hp hq (fun x hx => h x (.tail _ hx))
      have hy := h y (.head _)
      split
      · rw [if_pos (hy (by assumption))]; simp; exact ih
      · split
        · simp; omega
        · exact ih
theorem left_lt {n : Nat} {seen : List Nat} {j : Nat} (hj : j ∉ seen) (hn : j < n) : left n (seen ++ [j]) < left n seen := by
  unfold left
  refine filter_len_lt _ j (List.mem_range.2 hn) (by simpa using hj) (by simp) fun x _ hx => ?_
  simp only [List.mem_append, List.mem_singleton, not_or, decide_eq_true_eq] at hx ⊢
  exact hx.1
/-- The keys that were seen. -/
def seenK (l : List Int) (seen : List Nat) : List Int := seen.map fun j => (uq l).getD j 0
theorem seenK_snoc (l : List Int) (seen : List Nat) (j : Nat) : seenK l (seen ++ [j]) = seenK l seen ++ [(uq l).getD j 0] := by simp [seenK]
theorem cKs_at {l : List Int} {j : Nat} {x : AV} (h : (cKs l)[j]? = some x) : j < (uq l).length ∧ x = .int .i64 ((uq l).getD j 0) ∧ (uq l).getD j 0 ∈ l := by
  unfold cKs at h
  rw [List.getElem?_map, Option.map_eq_some_iff] at h
  obtain ⟨k, hk, rfl⟩ := h
  refine ⟨(List.getElem?_eq_some_iff.1 hk).1, ?_, ?_⟩
  · simp [hk]
  · have := List.mem_of_getElem? hk
    rw [List.getD_eq_getElem?_getD, hk]; exact mem_uq.1 this
theorem cVs_at {l : List Int} {j : Nat} {x : AV} (h : (cVs l)[j]? = some x) : x = .int .i64 (cnt l ((uq l).getD j 0)) := by
  unfold cVs at h
  rw [List.getElem?_map, Option.map_eq_some_iff] at h
  obtain ⟨k, hk, rfl⟩ := h
  simp [hk]
theorem cKs_len (l : List Int) : (cKs l).length = (uq l).length := by simp [cKs]
theorem seenK_mem {l : List Int} {seen : List Nat} (hs : ∀ j, j ∈ seen → j < (uq l).length) {k : Int} (hk : k ∈ seenK l seen) : k ∈ l := by
  unfold seenK at hk
  obtain ⟨j, hj, rfl⟩ := List.mem_map.1 hk
  have := hs j hj
  rw [List.getD_eq_getElem?_getD, List.getElem?_eq_getElem this]
  exact mem_uq.1 (List.getElem_mem this)
end Go.Fv.Q

/- Boxes, and the boxes of pixels, in plain words. -/
namespace Go.Fv.Q
open Go
set_option linter.unusedSimpArgs false
set_option linter.unusedVariables false
set_option maxRecDepth 8000

structure Bx where
  x : Int
  y : Int
  w : Int
  h : Int
def Bx.av (b : Bx) : List AV := [.int .i64 b.x, .int .i64 b.y, .int .i64 b.w, .int .i64 b.h]
def Bx.zero : Bx := ⟨0, 0, 0, 0⟩
abbrev bxs (l : List Bx) : RowV := .objs 4 (l.map Bx.av)
instance : FNoId Bx.av := ⟨fun _ => rfl⟩
theorem bx_elem (l : List Bx) {i : Nat} (h : i < l.length) : (l.map Bx.av).getD i [] = [.int .i64 (l.getD i Bx.zero).x, .int .i64 (l.getD i Bx.zero).y, .int .i64 (l.getD i Bx.zero).w, .int .i64 (l.getD i Bx.zero).h] := by
  simp [List.getD_eq_getElem?_getD, h, Bx.av]
def hull2 (a b : Bx) : Bx := ⟨min a.x b.x, min a.y b.y, max (a.x + a.w) (b.x + b.w) - min a.x b.x, max (a.y + a.h) (b.y + b.h) - min a.y b.y⟩
def hullL (l : List Bx) : Bx := l.foldl hull2 (l.getD 0 Bx.zero)

def mnF {α : Type} (f : α → Int) (a : Int) (l : List α) : Int := l.foldl (fun m i => min m (f i)) a
def mxF {α : Type} (f : α → Int) (a : Int) (l : List α) : Int := l.foldl (fun m i => max m (f i)) a
theorem le_mnF {α : Type} (f : α → Int) : ∀ (l : List α) (a m : Int), m ≤ mnF f a l ↔ m ≤ a ∧ ∀ i, i ∈ l → m ≤ f i
  | [], a, m => by simp [mnF]
  | x :: l, a, m => by
    have ih := le_mnF f l (min a (f x)) m
    show m ≤ mnF f (min a (f x)) l ↔ _
    rw [ih]
    constructor
    · rintro ⟨h1, h2⟩
      refine ⟨by omega, fun i hi => ?_⟩
      rcases List.mem_cons.1 hi with rfl | hi
      · omega
      · exact h2 i hi
    · rintro ⟨h1, h2⟩
      have := h2 x (List.mem_cons_self)
      exact ⟨by omega, fun i hi => h2 i (List.mem_cons_of_mem _ hi)⟩
theorem mxF_le {α : Type} (f : α → Int) : ∀ (l : List α) (a m : Int), mxF f a l ≤ m ↔ a ≤ m ∧ ∀ i, i ∈ l → f i ≤ m
  | [], a, m => by simp [mxF]
  | x :: l, a, m => by
    have ih := mxF_le f l (max a (f x)) m
    show mxF f (max a (f x)) l ≤ m ↔ _
    rw [ih]
    constructor
    · rintro ⟨h1, h2⟩
      refine ⟨by omega, fun i hi => ?_⟩
      rcases List.mem_cons.1 hi with rfl | hi
      · omega
      · exact h2 i hi
    · rintro ⟨h1, h2⟩
      have := h2 x (List.mem_cons_self)
      exact ⟨by omega, fun i hi => h2 i (List.mem_cons_of_mem _ hi)⟩
theorem eq_lo {a b : Int} (h : ∀ m, m ≤ a ↔ m ≤ b) : a = b := by
  have h1 := (h a).1 (Int.le_refl _)
  have h2 := (h b).2 (Int.le_refl _)
  omega
theorem eq_hi {a b : Int} (h : ∀ m, a ≤ m ↔ b ≤ m) : a = b := by
  have h1 := (h a).1 (Int.le_refl _)
  have h2 := (h b).2 (Int.le_refl _)
  omega
theorem mnF_mem {α : Type} (f : α → Int) (a : Int) {l l' : List α} (h : ∀ x, x ∈ l ↔ x ∈ l') : mnF f a l = mnF f a l' := by
  refine eq_lo fun m => ?_
  rw [le_mnF, le_mnF]
  simp only [h]
theorem mxF_mem {α : Type} (f : α → Int) (a : Int) {l l' : List α} (h : ∀ x, x ∈ l ↔ x ∈ l') : mxF f a l = mxF f a l' := by
  refine eq_hi fun m => ?_
  rw [mxF_le, mxF_le]
  simp only [h]
theorem mnF_snoc {α : Type} (f : α → Int) (a : Int) (l : List α) (x : α) : mnF f a (l ++ [x]) = min (mnF f a l) (f x) := by simp [mnF]
theorem mxF_snoc {α : Type} (f : α → Int) (a : Int) (l : List α) (x : α) : mxF f a (l ++ [x]) = max (mxF f a l) (f x) := by simp [mxF]
structure HullIs (r a : Bx) (l : List Bx) : Prop where
  x : ∀ m, m ≤ r.x ↔ m ≤ a.x ∧ ∀ b, b ∈ l → m ≤ b.x
  y : ∀ m, m ≤ r.y ↔ m ≤ a.y ∧ ∀ b, b ∈ l → m ≤ b.y
  w : ∀ m, r.x + r.w ≤ m ↔ a.x + a.w ≤ m ∧ ∀ b, b ∈ l → b.x + b.w ≤ m
  h : ∀ m, r.y + r.h ≤ m ↔ a.y + a.h ≤ m ∧ ∀ b, b ∈ l → b.y + b.h ≤ m
theorem hull_is : ∀ (l : List Bx) (a : Bx), HullIs (l.foldl hull2 a) a l
  | [], a => ⟨fun m => by simp, fun m => by simp, fun m => by simp, fun m => by simp⟩
  | c :: l, a => by
    obtain ⟨h1, h2, h3, h4⟩ := hull_is l (hull2 a c)
    refine ⟨fun m => ?_, fun m => ?_, fun m => ?_, fun m => ?_⟩
    · rw [List.foldl_cons, h1 m]
      show m ≤ min a.x c.x ∧ _ ↔ _
      simp only [List.mem_cons, forall_eq_or_imp]
      rw [(show m ≤ min a.x c.x ↔ m ≤ a.x ∧ m ≤ c.x by omega), and_assoc]
    · rw [List.foldl_cons, h2 m]
      show m ≤ min a.y c.y ∧ _ ↔ _
      simp only [List.mem_cons, forall_eq_or_imp]
      rw [(show m ≤ min a.y c.y ↔ m ≤ a.y ∧ m ≤ c.y by omega), and_assoc]
    · rw [List.foldl_cons, h3 m]
      show min a.x c.x + (max (a.x + a.w) (c.x + c.w) - min a.x c.x) ≤ m ∧ _ ↔ _
      simp only [List.mem_cons, forall_eq_or_imp]
      rw [(show min a.x c.x + (max (a.x + a.w) (c.x + c.w) - min a.x c.x) ≤ m ↔ a.x + a.w ≤ m ∧ c.x + c.w ≤ m by omega), and_assoc]
    · rw [List.foldl_cons, h4 m]
      show min a.y c.y + (max (a.y + a.h) (c.y + c.h) - min a.y c.y) ≤ m ∧ _ ↔ _
      simp only [List.mem_cons, forall_eq_or_imp]
      rw [(show min a.y c.y + (max (a.y + a.h) (c.y + c.h) - min a.y c.y) ≤ m ↔ a.y + a.h ≤ m ∧ c.y + c.h ≤ m by omega), and_assoc]

/-! ### The box of pixels -/
def leftP (w : Nat) (l : List Int) : Int := mnF (fun i => i % (w : Int)) w l
def topP (w h : Nat) (l : List Int) : Int := mnF (fun i => i / (w : Int)) h l
def rightP (w : Nat) (l : List Int) : Int := mxF (fun i => i % (w : Int)) (-1) l
def botP (w : Nat) (l : List Int) : Int := mxF (fun i => i / (w : Int)) (-1) l
def boxOf (w h : Nat) (l : List Int) : Bx := ⟨leftP w l, topP w h l, rightP w l - leftP w l + 1, botP w l - topP w h l + 1⟩
def pxB (w : Nat) (i : Int) : Bx := ⟨i % (w : Int), i / (w : Int), 1, 1⟩
theorem boxOf_mem (w h : Nat) {l l' : List Int} (hm : ∀ x, x ∈ l ↔ x ∈ l') : boxOf w h l = boxOf w h l' := by
  unfold boxOf leftP topP rightP botP
  rw [mnF_mem _ _ hm, mnF_mem (fun i => i / (w : Int)) _ hm, mxF_mem _ _ hm, mxF_mem (fun i => i / (w : Int)) _ hm]
def InPg (w h : Nat) (l : List Int) : Prop := ∀ i, i ∈ l → 0 ≤ i ∧ i < ((w * h : Nat) : Int)
theorem xy_bd' {w h : Nat} {c : Int} (h0 : 0 ≤ c) (h1 : c < ((w * h : Nat) : Int)) : (0 ≤ c % w ∧ c % w < w) ∧ (0 ≤ c / w ∧ c / w < h) := by
  obtain ⟨k, rfl⟩ : ∃ k : Nat, c = k := ⟨c.toNat, by omega⟩
  have hk : k < w * h := by omega
  have hw : 0 < w := by
    rcases Nat.eq_zero_or_pos w with h | h
    · rw [h, Nat.zero_mul] at hk; omega
    · exact h
  have e1 : (k : Int) % w = ((k % w : Nat) : Int) := rfl
  have e2 : (k : Int) / w = ((k / w : Nat) : Int) := rfl
  have h3 := Nat.mod_lt k hw
  have h4 : k / w < h := Nat.div_lt_of_lt_mul hk
  rw [e1, e2]
  exact ⟨⟨Int.natCast_nonneg _, Int.ofNat_lt.2 h3⟩, Int.natCast_nonneg _, Int.ofNat_lt.2 h4⟩
theorem hull_px {w h : Nat} {l : List Int} (hn : l ≠ []) (hb : InPg w h l) : hullL (l.map (pxB w)) = boxOf w h l := by
  obtain ⟨c, t, rfl⟩ : ∃ c t, l = c :: t := by cases l with | nil => exact absurd rfl hn | cons c t => exact ⟨c, t, rfl⟩
  have hc := xy_bd' (hb c (List.mem_cons_self)).1 (hb c (List.mem_cons_self)).2
  have hi := hull_is ((c :: t).map (pxB w)) (pxB w c)
  have e : hullL ((c :: t).map (pxB w)) = ((c :: t).map (pxB w)).foldl hull2 (pxB w c) := rfl
  rw [e]
  generalize ((c :: t).map (pxB w)).foldl hull2 (pxB w c) = r at *
  obtain ⟨h1, h2, h3, h4⟩ := hi
  have ex : r.x = leftP w (c :: t) := eq_lo fun m => by
    rw [h1 m, leftP, le_mnF]
    simp only [List.mem_map, forall_exists_index, and_imp, forall_apply_eq_imp_iff₂, pxB]
    constructor
    · rintro ⟨_, a⟩
      have := a c (List.mem_cons_self)
      exact ⟨by omega, a⟩
    · rintro ⟨_, a⟩
      exact ⟨a c (List.mem_cons_self), a⟩
  have ey : r.y = topP w h (c :: t) := eq_lo fun m => by
    rw [h2 m, topP, le_mnF]
    simp only [List.mem_map, forall_exists_index, and_imp, forall_apply_eq_imp_iff₂, pxB]
    constructor
    · rintro ⟨_, a⟩
      have := a c (List.mem_cons_self)
      exact ⟨by omega, a⟩
    · rintro ⟨_, a⟩
      exact ⟨a c (List.mem_cons_self), a⟩
  have ew : r.x + r.w = rightP w (c :: t) + 1 := eq_hi fun m => by
    have q := mxF_le (fun i => i % (w : Int)) (c :: t) (-1) (m - 1)
    have q2 : rightP w (c :: t) + 1 ≤ m ↔ rightP w (c :: t) ≤ m - 1 := by omega
    rw [h3 m, q2, rightP, q]
    simp only [List.mem_map, forall_exists_index, and_imp, forall_apply_eq_imp_iff₂, pxB]
    constructor
    · rintro ⟨_, a⟩
      have := a c (List.mem_cons_self)
      exact ⟨by omega, fun i hi => by have := a i hi; omega⟩
    · rintro ⟨_, a⟩
      exact ⟨by have := a c (List.mem_cons_self); omega, fun i hi => by have := a i hi; omega⟩
  have eh : r.y + r.h = botP w (c :: t) + 1 := eq_hi fun m => by
    have q := mxF_le (fun i => i / (w : Int)) (c :: t) (-1) (m - 1)
    have q2 : botP w (c :: t) + 1 ≤ m ↔ botP w (c :: t) ≤ m - 1 := by omega
    rw [h4 m, q2, botP, q]
    simp only [List.mem_map, forall_exists_index, and_imp, forall_apply_eq_imp_iff₂, pxB]
    constructor
    · rintro ⟨_, a⟩
      have := a c (List.mem_cons_self)
      exact ⟨by omega, fun i hi => by have := a i hi; omega⟩
    · rintro ⟨_, a⟩
      exact ⟨by have := a c (List.mem_cons_self); omega, fun i hi => by have := a i hi; omega⟩
  obtain ⟨rx, ry, rw', rh⟩ := r
  dsimp only at ex ey ew eh
  unfold boxOf
  rw [Bx.mk.injEq]
  omega
theorem sortI_mem (l : List Int) (x : Int) : x ∈ sortI l ↔ x ∈ l := (List.mergeSort_perm l _).mem_iff
theorem sortI_len (l : List Int) : (sortI l).length = l.length := (List.mergeSort_perm l _).length_eq
/-- The least one stands first. -/
theorem sortI_head {l : List Int} {i : Int} (hi : i ∈ l) (hb : ∀ x, x ∈ l → i ≤ x) : (sortI l).getD 0 0 = i := by
  have hs : (sortI l).Pairwise (fun a b => decide (a ≤ b) = true) := List.pairwise_mergeSort (fun a b c h1 h2 => by simp at *; omega) (fun a b => by simp; omega) l
  have hm := (sortI_mem l i).2 hi
  cases hq : sortI l with
  | nil => rw [hq] at hm; cases hm
  | cons y t =>
    rw [hq] at hs hm
    have hy : i ≤ y := hb y ((sortI_mem l y).1 (by rw [hq]; exact List.mem_cons_self))
    rcases List.mem_cons.1 hm with rfl | hm
    · rfl
    · have := List.rel_of_pairwise_cons hs hm
      simp at this
      show y = i
      omega
end Go.Fv.Q

/- What is joined, in plain words: a search from each number that is not seen yet. -/
namespace Go.Fv.Q
open Go
set_option linter.unusedSimpArgs false
set_option linter.unusedVariables false
set_option maxRecDepth 8000

/-- The numbers from a on, n of them. -/
def rng (a : Int) : Nat → List Int
  | 0 => []
  | n + 1 => a :: rng (a + 1) n
theorem rng_mem : ∀ {n : Nat} {a x : Int}, x ∈ rng a n → a ≤ x ∧ x < a + n
  | 0, a, x, h => by cases h
  | n + 1, a, x, h => by
    rcases List.mem_cons.1 h with rfl | h
    · omega
    · have := rng_mem h
      omega
/-- What is seen, and what was found, in order. -/
structure RS where
  seen : List Bool
  l : List Int
def RS.vis (ok : Nat → Bool) (s : RS) (i : Nat) : RS := if s.seen.getD i false = true ∨ ok i = false then s else ⟨s.seen.set i true, s.l ++ [(i : Int)]⟩
def bfs (f : RS → Int → RS) : Nat → Nat → RS → RS
  | 0, _, s => s
  | n + 1, k, s => if k < s.l.length then bfs f n (k + 1) (f s (s.l.getD k 0)) else s
def regs (ok : Nat → Bool) (f : RS → Int → RS) (n : Nat) : Nat → Nat → List Bool → List (List Int)
  | 0, _, _ => []
  | m + 1, i, seen => if seen.getD i false = true ∨ ok i = false then regs ok f n m (i + 1) seen else
    (bfs f n 0 ⟨seen.set i true, [(i : Int)]⟩).l :: regs ok f n m (i + 1) (bfs f n 0 ⟨seen.set i true, [(i : Int)]⟩).seen
def regsOf (ok : Nat → Bool) (f : RS → Int → RS) (n : Nat) : List (List Int) := regs ok f n n 0 (List.replicate n false)

theorem bfs_end (f : RS → Int → RS) (n k : Nat) (s : RS) (h : ¬ k < s.l.length) : bfs f n k s = s := by
  cases n with
  | zero => rfl
  | succ n => simp only [bfs]; rw [if_neg h]
theorem bfs_step (f : RS → Int → RS) {n k : Nat} {s : RS} (h : k < s.l.length) : bfs f (n + 1) k s = bfs f n (k + 1) (f s (s.l.getD k 0)) := by
  simp only [bfs]; rw [if_pos h]

/-! ### What holds of a region that grows -/
theorem count_set : ∀ {l : List Bool} {i : Nat}, i < l.length → l.getD i false = false → (l.set i true).count true = l.count true + 1
  | b :: l, 0, _, h => by
    have : b = false := h
    subst this
    simp
  | b :: l, i + 1, hi, h => by
    have ih := count_set (l := l) (i := i) (by simpa using hi) (by simpa using h)
    cases b <;> simp [ih]
structure RInv (ok : Nat → Bool) (n c0 : Nat) (s : RS) : Prop where
  len : s.seen.length = n
  cnt : s.seen.count true = c0 + s.l.length
  bd : ∀ x, x ∈ s.l → 0 ≤ x ∧ x < (n : Int)
  ink : ∀ j, s.seen.getD j false = true → ok j = true
  sn : ∀ x, x ∈ s.l → s.seen.getD x.toNat false = true
theorem getD_set_at {l : List Bool} {i : Nat} (hi : i < l.length) : (l.set i true).getD i false = true := by simp [List.getD_eq_getElem?_getD, hi]
theorem RInv.le {ok : Nat → Bool} {n c0 : Nat} {s : RS} (h : RInv ok n c0 s) : s.l.length ≤ n := by
  have h1 := h.cnt
  have h2 : s.seen.count true ≤ s.seen.length := List.count_le_length
  have h3 := h.len
  omega
theorem getD_set {l : List Bool} {i j : Nat} : (l.set i true).getD j false = true → l.getD j false = true ∨ j = i := by
  intro h
  by_cases e : i = j
  · exact .inr e.symm
  · rw [List.getD_eq_getElem?_getD, List.getElem?_set_ne e] at h
    exact .inl (by rw [List.getD_eq_getElem?_getD]; exact h)
theorem getD_set_mono {l : List Bool} {i j : Nat} (hi : i < l.length) : l.getD j false = true → (l.set i true).getD j false = true := by
  intro h
  by_cases e : i = j
  · subst e
    simp [List.getD_eq_getElem?_getD, hi]
  · rw [List.getD_eq_getElem?_getD, List.getElem?_set_ne e, ← List.getD_eq_getElem?_getD]; exact h
/-- How a region grows. -/
structure RLe (s s' : RS) : Prop where
  len : s.l.length ≤ s'.l.length
  pre : ∃ r, s'.l = s.l ++ r
  seen : ∀ j, s.seen.getD j false = true → s'.seen.getD j false = true
  new : ∀ x, x ∈ s'.l → x ∈ s.l ∨ s.seen.getD x.toNat false = false
theorem RLe.refl (s : RS) : RLe s s := ⟨Nat.le_refl _, ⟨[], (List.append_nil _).symm⟩, fun _ h => h, fun _ h => .inl h⟩
theorem RLe.trans {s s' s'' : RS} (h : RLe s s') (h' : RLe s' s'') : RLe s s'' := by
  refine ⟨Nat.le_trans h.len h'.len, ?_, fun j hj => h'.seen j (h.seen j hj), fun x hx => ?_⟩
  · obtain ⟨r, hr⟩ := h.pre
    obtain ⟨r', hr'⟩ := h'.pre
    exact ⟨r ++ r', by rw [hr', hr, List.append_assoc]⟩
  · rcases h'.new x hx with h1 | h1
    · exact h.new x h1
    · refine .inr ?_
      cases hq : s.seen.getD x.toNat false with
      | false => rfl
      | true => rw [h.seen _ hq] at h1; cases h1
theorem not_seen {a b : Bool} (h : ¬ (a = true ∨ b = false)) : a = false ∧ b = true := by
  cases a <;> cases b <;> simp at h ⊢
theorem RS.vis_inv {ok : Nat → Bool} {n c0 : Nat} {s : RS} (h : RInv ok n c0 s) {i : Nat} (hi : i < n) : RInv ok n c0 (s.vis ok i) ∧ RLe s (s.vis ok i) := by
  unfold RS.vis
  split
  · exact ⟨h, RLe.refl s⟩
  · rename_i hn
    obtain ⟨hs, hp⟩ := not_seen hn
    have hl : i < s.seen.length := by rw [h.len]; exact hi
    refine ⟨⟨by simp only [List.length_set]; exact h.len, ?_, fun x hx => ?_, fun j hj => ?_, fun x hx => ?_⟩, ⟨by simp, ⟨_, rfl⟩, fun j hj => getD_set_mono hl hj, fun x hx => ?_⟩⟩
    · simp only [count_set hl hs, List.length_append, List.length_cons, List.length_nil]
      have := h.cnt
      omega
    · rcases List.mem_append.1 hx with hx | hx
      · exact h.bd x hx
      · rw [List.mem_singleton.1 hx]; omega
    · rcases getD_set hj with hj | rfl
      · exact h.ink j hj
      · exact hp
    · rcases List.mem_append.1 hx with hx | hx
      · exact getD_set_mono hl (h.sn x hx)
      · rw [List.mem_singleton.1 hx, Int.toNat_natCast]; exact getD_set_at hl
    · rcases List.mem_append.1 hx with hx | hx
      · exact .inl hx
      · rw [List.mem_singleton.1 hx, Int.toNat_natCast]; exact .inr hs
theorem fold_inv {α β : Type} {P : α → Prop} {R : α → α → Prop} (hr : ∀ a, R a a) (ht : ∀ a b c, R a b → R b c → R a c) {f : α → β → α} : ∀ (l : List β) (s : α), P s → (∀ s x, P s → x ∈ l → P (f s x) ∧ R s (f s x)) → P (l.foldl f s) ∧ R s (l.foldl f s)
  | [], s, hs, _ => ⟨hs, hr s⟩
  | x :: l, s, hs, h => by
    obtain ⟨h1, h2⟩ := h s x hs (List.mem_cons_self)
    obtain ⟨h3, h4⟩ := fold_inv hr ht l (f s x) h1 fun s y hs hy => h s y hs (List.mem_cons_of_mem _ hy)
    exact ⟨h3, ht _ _ _ h2 h4⟩
/-- A step of the search. -/
def StepOk (ok : Nat → Bool) (n : Nat) (f : RS → Int → RS) : Prop := ∀ c0 s c, RInv ok n c0 s → 0 ≤ c → c < (n : Int) → RInv ok n c0 (f s c) ∧ RLe s (f s c)
theorem getD_mem {l : List Int} {k : Nat} (h : k < l.length) : l.getD k 0 ∈ l := by rw [getD_lt h]; exact List.getElem_mem h
theorem bfs_inv {ok : Nat → Bool} {n : Nat} {f : RS → Int → RS} (hf : StepOk ok n f) {c0 : Nat} : ∀ (m k : Nat) (s : RS), RInv ok n c0 s → RInv ok n c0 (bfs f m k s) ∧ RLe s (bfs f m k s)
  | 0, k, s, h => ⟨h, RLe.refl s⟩
  | m + 1, k, s, h => by
    simp only [bfs]
    split
    · rename_i hk
      obtain ⟨b1, b2⟩ := h.bd _ (getD_mem hk)
      obtain ⟨h1, h2⟩ := hf c0 s (s.l.getD k 0) h b1 b2
      obtain ⟨h3, h4⟩ := bfs_inv hf m (k + 1) _ h1
      exact ⟨h3, h2.trans h4⟩
    · exact ⟨h, RLe.refl s⟩
/-- What holds between the regions: before number i. -/
structure SInv (ok : Nat → Bool) (n i : Nat) (seen : List Bool) : Prop where
  len : seen.length = n
  ink : ∀ j, seen.getD j false = true → ok j = true
  all : ∀ j, j < i → ok j = true → seen.getD j false = true
theorem SInv.zero (ok : Nat → Bool) (n : Nat) : SInv ok n 0 (List.replicate n false) := by
  refine ⟨by simp, fun j hj => ?_, fun j hj => absurd hj (by omega)⟩
  rw [List.getD_eq_getElem?_getD, List.getElem?_replicate] at hj
  split at hj <;> cases hj
theorem SInv.skip {ok : Nat → Bool} {n i : Nat} {seen : List Bool} (h : SInv ok n i seen) (hn : seen.getD i false = true ∨ ok i = false) : SInv ok n (i + 1) seen := by
  refine ⟨h.len, h.ink, fun j hj hp => ?_⟩
  by_cases e : j = i
  · subst e
    rcases hn with hn | hn
    · exact hn
    · rw [hp] at hn; cases hn
  · exact h.all j (by omega) hp
theorem SInv.start {ok : Nat → Bool} {n i : Nat} {seen : List Bool} (h : SInv ok n i seen) (hi : i < n) (hn : ¬ (seen.getD i false = true ∨ ok i = false)) :
    RInv ok n (seen.count true) ⟨seen.set i true, [(i : Int)]⟩ := by
  obtain ⟨hs, hp⟩ := not_seen hn
  have hl := h.len
  refine ⟨by simp only [List.length_set]; exact hl, ?_, fun x hx => ?_, fun j hj => ?_, fun x hx => ?_⟩
  · simp only [count_set (show i < seen.length by omega) hs, List.length_cons, List.length_nil]
  · rw [List.mem_singleton.1 hx]; omega
  · rcases getD_set hj with hj | rfl
    · exact h.ink j hj
    · exact hp
  · rw [List.mem_singleton.1 hx, Int.toNat_natCast]; exact getD_set_at (by omega)
/-- What a region is: numbers from the first one on. -/
structure RegOk (n i : Nat) (l : List Int) : Prop where
  bd : ∀ x, x ∈ l → (i : Int) ≤ x ∧ x < (n : Int)
  hd : ∃ t, l = (i : Int) :: t
  le : l.length ≤ n
theorem SInv.region {ok : Nat → Bool} {n : Nat} {f : RS → Int → RS} (hf : StepOk ok n f) {i : Nat} {seen : List Bool} (h : SInv ok n i seen) (hi : i < n) (hn : ¬ (seen.getD i false = true ∨ ok i = false)) (m : Nat) :
    SInv ok n (i + 1) (bfs f m 0 ⟨seen.set i true, [(i : Int)]⟩).seen ∧ RegOk n i (bfs f m 0 ⟨seen.set i true, [(i : Int)]⟩).l ∧
    (bfs f m 0 ⟨seen.set i true, [(i : Int)]⟩).seen.count true = seen.count true + (bfs f m 0 ⟨seen.set i true, [(i : Int)]⟩).l.length := by
  obtain ⟨h1, h2⟩ := bfs_inv hf m 0 _ (h.start hi hn)
  have hlt : i < seen.length := by rw [h.len]; exact hi
  refine ⟨⟨h1.len, h1.ink, fun j hj hq => ?_⟩, ⟨fun x hx => ⟨?_, (h1.bd x hx).2⟩, ?_, h1.le⟩, h1.cnt⟩
  · refine h2.seen j ?_
    by_cases e : j = i
    · subst e; exact getD_set_at hlt
    · exact getD_set_mono hlt (h.all j (by omega) hq)
  · have hb := h1.bd x hx
    rcases h2.new x hx with hx' | hx'
    · rw [List.mem_singleton.1 hx']; omega
    · refine Classical.byContradiction fun hlt' => ?_
      have hj : x.toNat < i := by omega
      have hq : ok x.toNat = true := h1.ink _ (h1.sn x hx)
      rw [getD_set_mono hlt (h.all _ hj hq)] at hx'
      cases hx'
  · obtain ⟨r, hr⟩ := h2.pre
    exact ⟨r, hr⟩

/-! ### All regions -/
def sumLen (R : List (List Int)) : Nat := (R.map List.length).sum
theorem eq_of_bools {a b : List Bool} (h : a.length = b.length) (hh : ∀ j, a.getD j false = b.getD j false) : a = b := by
  refine List.ext_getElem h fun j h1 h2 => ?_
  have := hh j
  rwa [getD_lt h1, getD_lt h2] at this
theorem regs_sum {ok : Nat → Bool} {n : Nat} {f : RS → Int → RS} (hf : StepOk ok n f) : ∀ (m i : Nat) (seen : List Bool), SInv ok n i seen → i + m = n → sumLen (regs ok f n m i seen) + seen.count true = ((List.range n).map ok).count true
  | 0, i, seen, h, hm => by
    have e : seen = (List.range n).map ok := by
      refine eq_of_bools (by simp [h.len]) fun j => ?_
      by_cases hj : j < n
      · have e2 : ((List.range n).map ok).getD j false = ok j := by simp [List.getD_eq_getElem?_getD, hj]
        rw [e2, Bool.eq_iff_iff]
        exact ⟨h.ink j, h.all j (by omega)⟩
      · have := h.len
        rw [List.getD_eq_getElem?_getD, List.getD_eq_getElem?_getD, List.getElem?_eq_none (show seen.length ≤ j by omega), List.getElem?_eq_none (by simp; omega)]
    rw [← e]
    simp [regs, sumLen]
  | m + 1, i, seen, h, hm => by
    simp only [regs]
    split
    · rename_i hn
      exact regs_sum hf m (i + 1) seen (h.skip hn) (by omega)
    · rename_i hn
      obtain ⟨h1, h2, h3⟩ := h.region hf (by omega) hn n
      have ih := regs_sum hf m (i + 1) _ h1 (by omega)
      generalize bfs f n 0 ⟨seen.set i true, [(i : Int)]⟩ = s at *
      have e : sumLen (s.l :: regs ok f n m (i + 1) s.seen) = s.l.length + sumLen (regs ok f n m (i + 1) s.seen) := by simp [sumLen]
      rw [e]
      omega
theorem regs_ok {ok : Nat → Bool} {n : Nat} {f : RS → Int → RS} (hf : StepOk ok n f) : ∀ (m i : Nat) (seen : List Bool), SInv ok n i seen → i + m = n → ∀ r, r ∈ regs ok f n m i seen → ∃ j, j < n ∧ RegOk n j r
  | 0, i, seen, h, hm, r, hr => by cases hr
  | m + 1, i, seen, h, hm, r, hr => by
    simp only [regs] at hr
    split at hr
    · rename_i hn
      exact regs_ok hf m (i + 1) seen (h.skip hn) (by omega) r hr
    · rename_i hn
      obtain ⟨h1, h2, h3⟩ := h.region hf (by omega) hn n
      rcases List.mem_cons.1 hr with rfl | hr
      · exact ⟨i, by omega, h2⟩
      · exact regs_ok hf m (i + 1) _ h1 (by omega) r hr
theorem regs_len (ok : Nat → Bool) (f : RS → Int → RS) (n : Nat) : ∀ (m i : Nat) (seen : List Bool), (regs ok f n m i seen).length ≤ m
  | 0, i, seen => Nat.le_refl _
  | m + 1, i, seen => by
    simp only [regs]
    split
    · exact Nat.le_succ_of_le (regs_len ok f n m (i + 1) seen)
    · simp only [List.length_cons]
      exact Nat.succ_le_succ (regs_len ok f n m (i + 1) _)
theorem regsOf_sum {ok : Nat → Bool} {n : Nat} {f : RS → Int → RS} (hf : StepOk ok n f) : sumLen (regsOf ok f n) = ((List.range n).map ok).count true := by
  have := regs_sum hf n 0 _ (SInv.zero ok n) (by omega)
  have e : (List.replicate n false).count true = 0 := by rw [List.count_eq_zero]; simp
  rw [e] at this
  exact this
theorem regsOf_ok {ok : Nat → Bool} {n : Nat} {f : RS → Int → RS} (hf : StepOk ok n f) : ∀ r, r ∈ regsOf ok f n → ∃ j, j < n ∧ RegOk n j r := regs_ok hf _ 0 _ (SInv.zero ok n) (by omega)
theorem regsOf_len (ok : Nat → Bool) (f : RS → Int → RS) (n : Nat) : (regsOf ok f n).length ≤ n := regs_len ok f n _ _ _
end Go.Fv.Q

/- Joined pixels of a page, in plain words: the way round a pixel, and the reference's. -/
namespace Go.Fv.Q
open Go
set_option linter.unusedSimpArgs false
set_option linter.unusedVariables false
set_option maxRecDepth 8000

structure Pg2 where
  p : List Bool
  w : Nat
  h : Nat
  ink : Bool
  cor : Bool
def Pg2.ok (g : Pg2) (i : Nat) : Bool := g.p.getD i false == g.ink
def RS.pt (g : Pg2) (x y v : Int) (s : RS) (u : Int) : RS := if g.cor = false ∧ u ≠ x ∧ v ≠ y then s else s.vis g.ok (v * g.w + u).toNat
def RS.row (g : Pg2) (x y : Int) (us : List Int) (s : RS) (v : Int) : RS := us.foldl (RS.pt g x y v) s
def lo3 (x : Int) : Int := max (x - 1) 0
def hi3 (x w : Int) : Int := min (x + 1) (w - 1)
def rng3 (x w : Int) : List Int := rng (lo3 x) (hi3 x w + 1 - lo3 x).toNat
def pix (g : Pg2) (s : RS) (c : Int) : RS := (rng3 (c / g.w) g.h).foldl (RS.row g (c % g.w) (c / g.w) (rng3 (c % g.w) g.w)) s

theorem cell_lt {w h : Nat} {u v : Int} (hu : 0 ≤ u ∧ u < w) (hv : 0 ≤ v ∧ v < h) : (v * w + u).toNat < w * h ∧ 0 ≤ v * w + u ∧ v * w + u < ((w * h : Nat) : Int) := by
  obtain ⟨a, rfl⟩ : ∃ a : Nat, u = a := ⟨u.toNat, by omega⟩
  obtain ⟨b, rfl⟩ : ∃ b : Nat, v = b := ⟨v.toNat, by omega⟩
  have e : (b : Int) * w + a = ((b * w + a : Nat) : Int) := by simp
  rw [e]
  have h1 : b * w + w ≤ h * w := by rw [← Nat.succ_mul]; exact Nat.mul_le_mul_right _ (by omega)
  have h2 : w * h = h * w := Nat.mul_comm _ _
  omega
theorem rng3_mem {x w u : Int} (h : u ∈ rng3 x w) : 0 ≤ u ∧ u < w := by
  have := rng_mem h
  unfold lo3 hi3 at this
  omega
theorem pt_inv {g : Pg2} {c0 : Nat} {s : RS} (h : RInv g.ok (g.w * g.h) c0 s) {x y u v : Int} (hu : 0 ≤ u ∧ u < g.w) (hv : 0 ≤ v ∧ v < g.h) : RInv g.ok (g.w * g.h) c0 (RS.pt g x y v s u) ∧ RLe s (RS.pt g x y v s u) := by
  unfold RS.pt
  split
  · exact ⟨h, RLe.refl s⟩
  · exact RS.vis_inv h (cell_lt hu hv).1
theorem row_inv {g : Pg2} {c0 : Nat} {s : RS} (h : RInv g.ok (g.w * g.h) c0 s) {x y v : Int} {us : List Int} (hu : ∀ u, u ∈ us → 0 ≤ u ∧ u < g.w) (hv : 0 ≤ v ∧ v < g.h) : RInv g.ok (g.w * g.h) c0 (RS.row g x y us s v) ∧ RLe s (RS.row g x y us s v) :=
  fold_inv (P := RInv g.ok (g.w * g.h) c0) (R := RLe) RLe.refl (fun _ _ _ h h' => h.trans h') us s h fun s u hs hm => pt_inv hs (hu u hm) hv
theorem sq_inv {g : Pg2} {c0 : Nat} {s : RS} (h : RInv g.ok (g.w * g.h) c0 s) {x y : Int} {us vs : List Int} (hu : ∀ u, u ∈ us → 0 ≤ u ∧ u < g.w) (hv : ∀ v, v ∈ vs → 0 ≤ v ∧ v < g.h) : RInv g.ok (g.w * g.h) c0 (vs.foldl (RS.row g x y us) s) ∧ RLe s (vs.foldl (RS.row g x y us) s) :=
  fold_inv (P := RInv g.ok (g.w * g.h) c0) (R := RLe) RLe.refl (fun _ _ _ h h' => h.trans h') vs s h fun s v hs hm => row_inv hs hu (hv v hm)
theorem pix_step (g : Pg2) : StepOk g.ok (g.w * g.h) (pix g) := fun c0 s c h _ _ =>
  sq_inv h (fun _ hm => rng3_mem hm) (fun _ hm => rng3_mem hm)
def pieces (g : Pg2) : List (List Int) := regsOf g.ok (pix g) (g.w * g.h)
theorem pieces_ok (g : Pg2) : ∀ r, r ∈ pieces g → ∃ j, j < g.w * g.h ∧ RegOk (g.w * g.h) j r := regsOf_ok (pix_step g)
theorem pieces_len (g : Pg2) : (pieces g).length ≤ g.w * g.h := regsOf_len _ _ _
theorem pieces_sum (g : Pg2) (hp : g.p.length = g.w * g.h) : sumLen (pieces g) = g.p.count g.ink := by
  unfold pieces
  rw [regsOf_sum (pix_step g), ← hp]
  have e : (List.range g.p.length).map g.ok = g.p.map fun b => b == g.ink := by
    refine List.ext_getElem (by simp) fun j h1 h2 => ?_
    have hj : j < g.p.length := by simpa using h2
    simp [Pg2.ok, List.getD_eq_getElem?_getD, hj]
  rw [e]
  generalize g.p = p
  generalize g.ink = k
  induction p with
  | nil => rfl
  | cons b p ih =>
    simp only [List.map_cons, List.count_cons, ih]
    cases b <;> cases k <;> rfl

/-! ### The reference's way: all nine places, those outside left out -/
def okAt (g : Pg2) (v u : Int) : Prop := 0 ≤ u ∧ 0 ≤ v ∧ u < g.w ∧ v < g.h
instance (g : Pg2) (v u : Int) : Decidable (okAt g v u) := by unfold okAt; infer_instance
def pt9 (g : Pg2) (x y v : Int) (s : RS) (u : Int) : RS := if okAt g v u then RS.pt g x y v s u else s
def row9 (g : Pg2) (x y : Int) (s : RS) (v : Int) : RS := (rng (x - 1) 3).foldl (pt9 g x y v) s
def pix9 (g : Pg2) (s : RS) (c : Int) : RS := (rng (c / g.w - 1) 3).foldl (row9 g (c % g.w) (c / g.w)) s
theorem fold_skip {α : Type} {f : α → Int → α} : ∀ (l : List Int) (s : α), (∀ s x, x ∈ l → f s x = s) → l.foldl f s = s
  | [], s, _ => rfl
  | x :: l, s, h => by
    rw [List.foldl_cons, h s x (List.mem_cons_self)]
    exact fold_skip l s fun s y hy => h s y (List.mem_cons_of_mem _ hy)
theorem fold_congr {α : Type} {f f' : α → Int → α} : ∀ (l : List Int) (s : α), (∀ s x, x ∈ l → f s x = f' s x) → l.foldl f s = l.foldl f' s
  | [], s, _ => rfl
  | x :: l, s, h => by
    rw [List.foldl_cons, List.foldl_cons, h s x (List.mem_cons_self)]
    exact fold_congr l _ fun s y hy => h s y (List.mem_cons_of_mem _ hy)
/-- What is done at three places is done at those inside, where the others do nothing. -/
theorem fold3 {α : Type} {f : α → Int → α} {x w : Int} (hx : 0 ≤ x) (hxw : x < w) (s : α) (hout : ∀ s u, ¬ (0 ≤ u ∧ u < w) → f s u = s) : (rng (x - 1) 3).foldl f s = (rng3 x w).foldl f s := by
  unfold rng3 lo3 hi3
  by_cases h0 : x = 0
  · subst h0
    have e0 : (rng (0 - 1) 3) = [-1, 0, 1] := by decide
    rw [e0]
    simp only [List.foldl_cons, List.foldl_nil]
    rw [hout s (-1) (by omega)]
    by_cases h1 : w = 1
    · subst h1
      rw [hout _ 1 (by omega)]
      rfl
    · have : (min (0 + 1) (w - 1) + 1 - max ((0 : Int) - 1) 0).toNat = 2 := by omega
      have e2 : max ((0 : Int) - 1) 0 = 0 := by decide
      rw [this, e2]
      rfl
  · have em : max (x - 1) 0 = x - 1 := by omega
    rw [em]
    by_cases h1 : x = w - 1
    · have : (min (x + 1) (w - 1) + 1 - (x - 1)).toNat = 2 := by omega
      rw [this]
      simp only [rng, List.foldl_cons, List.foldl_nil]
      rw [hout _ (x - 1 + 1 + 1) (by omega)]
    · have : (min (x + 1) (w - 1) + 1 - (x - 1)).toNat = 3 := by omega
      rw [this]
theorem xy_bd {g : Pg2} {c : Int} (h0 : 0 ≤ c) (h1 : c < ((g.w * g.h : Nat) : Int)) : (0 ≤ c % g.w ∧ c % g.w < g.w) ∧ (0 ≤ c / g.w ∧ c / g.w < g.h) := by
  obtain ⟨k, rfl⟩ : ∃ k : Nat, c = k := ⟨c.toNat, by omega⟩
  have hk : k < g.w * g.h := by omega
  have hw : 0 < g.w := by
    rcases Nat.eq_zero_or_pos g.w with h | h
    · rw [h, Nat.zero_mul] at hk; omega
    · exact h
  have e1 : (k : Int) % g.w = ((k % g.w : Nat) : Int) := rfl
  have e2 : (k : Int) / g.w = ((k / g.w : Nat) : Int) := rfl
  have h3 := Nat.mod_lt k hw
  have h4 : k / g.w < g.h := Nat.div_lt_of_lt_mul hk
  rw [e1, e2]
  exact ⟨⟨Int.natCast_nonneg _, Int.ofNat_lt.2 h3⟩, Int.natCast_nonneg _, Int.ofNat_lt.2 h4⟩
theorem pix9_eq (g : Pg2) (s : RS) {c : Int} (h0 : 0 ≤ c) (h1 : c < ((g.w * g.h : Nat) : Int)) : pix9 g s c = pix g s c := by
  obtain ⟨hx, hy⟩ := xy_bd h0 h1
  unfold pix9 pix
  generalize c % g.w = x at *
  generalize c / g.w = y at *
  rw [fold3 (f := row9 g x y) (w := g.h) hy.1 hy.2 s fun s v hv => fold_skip (f := pt9 g x y v) _ _ fun s u _ => ?_]
  · refine fold_congr _ _ fun s v hv => ?_
    have hv' := rng3_mem hv
    unfold row9
    rw [fold3 (w := g.w) hx.1 hx.2 s fun s u hu => ?_]
    · refine fold_congr _ _ fun s u hu => ?_
      have hu' := rng3_mem hu
      unfold pt9
      rw [if_pos ⟨hu'.1, hv'.1, hu'.2, hv'.2⟩]
    · unfold pt9
      rw [if_neg fun h => hu ⟨h.1, h.2.2.1⟩]
  · unfold pt9
    rw [if_neg fun h => hv ⟨h.2.1, h.2.2.2⟩]
end Go.Fv.Q

/- Pixels of regions that are chosen change their colour, in plain words. -/
namespace Go.Fv.Q
open Go
set_option linter.unusedSimpArgs false
set_option linter.unusedVariables false
set_option maxRecDepth 8000

def chg (v : Bool) (p : List Bool) (l : List Int) : List Bool := l.foldl (fun p i => p.set i.toNat v) p
theorem chg_snoc (v : Bool) (p : List Bool) (l : List Int) (i : Int) : chg v p (l ++ [i]) = (chg v p l).set i.toNat v := by simp [chg]
theorem chg_len (v : Bool) : ∀ (l : List Int) (p : List Bool), (chg v p l).length = p.length
  | [], p => rfl
  | i :: l, p => by
    show (chg v (p.set i.toNat v) l).length = _
    rw [chg_len v l, List.length_set]
theorem chg_get (v : Bool) : ∀ (l : List Int) (p : List Bool), (∀ i, i ∈ l → 0 ≤ i) → ∀ j : Nat, j < p.length → (chg v p l).getD j false = if (j : Int) ∈ l then v else p.getD j false
  | [], p, _, j, _ => by simp [chg]
  | i :: l, p, h, j, hj => by
    show (chg v (p.set i.toNat v) l).getD j false = _
    rw [chg_get v l _ (fun x hx => h x (List.mem_cons_of_mem _ hx)) j (by rw [List.length_set]; exact hj)]
    have h0 := h i (List.mem_cons_self)
    by_cases e : (j : Int) ∈ l
    · rw [if_pos e, if_pos (List.mem_cons_of_mem _ e)]
    · rw [if_neg e]
      by_cases e2 : (j : Int) = i
      · subst e2
        rw [if_pos (List.mem_cons_self), Int.toNat_natCast]
        simp [List.getD_eq_getElem?_getD, hj]
      · rw [if_neg (by rw [List.mem_cons]; rintro (h | h); exact e2 h; exact e h)]
        have hne : i.toNat ≠ j := by omega
        rw [List.getD_eq_getElem?_getD, List.getElem?_set_ne hne, ← List.getD_eq_getElem?_getD]
theorem chg_mem (v : Bool) {l l' : List Int} (h : ∀ x, x ∈ l ↔ x ∈ l') (h0 : ∀ i, i ∈ l → 0 ≤ i) (p : List Bool) : chg v p l = chg v p l' := by
  refine eq_of_bools (by rw [chg_len, chg_len]) fun j => ?_
  by_cases hj : j < p.length
  · rw [chg_get v l p h0 j hj, chg_get v l' p (fun i hi => h0 i ((h i).2 hi)) j hj]
    simp only [h]
  · rw [List.getD_eq_getElem?_getD, List.getD_eq_getElem?_getD, List.getElem?_eq_none (by rw [chg_len]; omega), List.getElem?_eq_none (by rw [chg_len]; omega)]
structure CS where
  p : List Bool
  n : Nat
def CS.step (v : Bool) (sel : List Int → Bool) (s : CS) (l : List Int) : CS := if sel l = true then ⟨chg v s.p l, s.n + 1⟩ else s
def chgAll (v : Bool) (sel : List Int → Bool) (p : List Bool) (R : List (List Int)) : CS := R.foldl (CS.step v sel) ⟨p, 0⟩
theorem chgAll_snoc (v : Bool) (sel : List Int → Bool) (p : List Bool) (R : List (List Int)) (l : List Int) : chgAll v sel p (R ++ [l]) = CS.step v sel (chgAll v sel p R) l := by simp [chgAll]
theorem chgAll_len (v : Bool) (sel : List Int → Bool) (p : List Bool) (R : List (List Int)) : (chgAll v sel p R).p.length = p.length ∧ (chgAll v sel p R).n ≤ R.length := by
  unfold chgAll
  have key : ∀ (R : List (List Int)) (s : CS), (R.foldl (CS.step v sel) s).p.length = s.p.length ∧ (R.foldl (CS.step v sel) s).n ≤ s.n + R.length := by
    intro R
    induction R with
    | nil => intro s; exact ⟨rfl, Nat.le_refl _⟩
    | cons l R ih =>
      intro s
      obtain ⟨h1, h2⟩ := ih (CS.step v sel s l)
      have h3 : (CS.step v sel s l).p.length = s.p.length ∧ (CS.step v sel s l).n ≤ s.n + 1 := by
        unfold CS.step
        split
        · exact ⟨chg_len _ _ _, Nat.le_refl _⟩
        · exact ⟨rfl, Nat.le_succ _⟩
      refine ⟨h1.trans h3.1, ?_⟩
      rw [List.foldl_cons, List.length_cons]
      omega
  have := key R ⟨p, 0⟩
  exact ⟨this.1, by have := this.2; simpa using this⟩
theorem fold_congr' {α β : Type} {f f' : α → β → α} : ∀ (l : List β) (s : α), (∀ s x, x ∈ l → f s x = f' s x) → l.foldl f s = l.foldl f' s
  | [], s, _ => rfl
  | x :: l, s, h => by
    rw [List.foldl_cons, List.foldl_cons, h s x (List.mem_cons_self)]
    exact fold_congr' l _ fun s y hy => h s y (List.mem_cons_of_mem _ hy)
theorem chgAll_sort (v : Bool) {sel told : List Int → Bool} (p : List Bool) {R : List (List Int)} (h0 : ∀ l, l ∈ R → ∀ i, i ∈ l → 0 ≤ i) (h : ∀ l, l ∈ R → told (sortI l) = sel l) : chgAll v told p (R.map sortI) = chgAll v sel p R := by
  unfold chgAll
  rw [List.foldl_map]
  refine fold_congr' R _ fun s l hl => ?_
  unfold CS.step
  rw [h l hl, chg_mem v (fun x => sortI_mem l x) (fun i hi => h0 l hl i ((sortI_mem l i).1 hi))]

def speckB (most : Int) (l : List Int) : Bool := decide ((l.length : Int) ≤ most)
end Go.Fv.Q
