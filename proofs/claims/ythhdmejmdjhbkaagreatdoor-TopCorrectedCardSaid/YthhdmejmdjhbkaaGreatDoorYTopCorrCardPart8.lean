/-
  A part of the proof of the claim: walks over the program's functions and the plain laws that these need. No condition of its own.
-/
import Derived.Test.YthhdmejmdjhbkaaGreatDoorYTopCorrCardPart7
import Derived.Test.YthhdmejmdjhbkaaGreatDoorFvPart11
import Derived.Test.YthhdmejmdjhbkaaGreatDoorFvPart10
import Derived.Test.YthhdmejmdjhbkaaGreatDoorYTopCorrCardPart1
import Derived.Test.YthhdmejmdjhbkaaGreatDoorYTopCorrCardPart2
import Derived.Shelf.Strings.BuilderX
import Derived.Shelf.RegionOpenPlain
import Derived.Lib.Builder
import Derived.Lib.Walk
import Derived.WalkKit
import Derived.Laws.Externs
/- NewDict, and the reference's. -/
namespace Go.Proofs
open Go.Shelf
def Tryz.lSoS_ren : Go.Shelf.Ren := ⟨fun | 6 => 31 | 8 => 78 | 9 => 77 | 19 => 120 | 20 => 121 | 21 => 111 | 22 => 112 | 23 => 113 | 24 => 114 | 25 => 115 | 26 => 116 | 27 => 117 | 28 => 118 | 29 => 119 | 36 => 145 | 31 => 146 | 32 => 147 | 37 => 148 | 38 => 149 | 39 => 150 | 41 => 168 | n => n, fun | 27 => 51 | 29 => 9 | 3 => 3 | 32 => 121 | 26 => 51 | 0 => 0 | 44 => 161 | 46 => 163 | 4 => 4 | 36 => 154 | 35 => 153 | 41 => 158 | 5 => 5 | 9 => 9 | 53 => 181 | 57 => 185 | 63 => 197 | 64 => 198 | n => n, fun | n => n⟩
theorem Tryz.lSoS : Go.Proofs.SlLaysM.n6 Tryz.prog Tryz.lSoS_ren := {
  mixed := by kernel_rfl
  f6 := ⟨Tryz.f31.name, by decide, Tryz.func31.trans (congrArg some (by kernel_rfl))⟩
  f8 := Tryz.func78.trans (congrArg some (by kernel_rfl))
  f9 := ⟨Tryz.f77.name, by decide, Tryz.func77.trans (congrArg some (by kernel_rfl))⟩
  f19 := Tryz.func120.trans (congrArg some (by kernel_rfl))
  f20 := Tryz.func121.trans (congrArg some (by kernel_rfl))
  f21 := ⟨Tryz.f111.name, by decide, Tryz.func111.trans (congrArg some (by kernel_rfl))⟩
  f22 := ⟨Tryz.f112.name, by decide, Tryz.func112.trans (congrArg some (by kernel_rfl))⟩
  f23 := ⟨Tryz.f113.name, by decide, Tryz.func113.trans (congrArg some (by kernel_rfl))⟩
  f24 := ⟨Tryz.f114.name, by decide, Tryz.func114.trans (congrArg some (by kernel_rfl))⟩
  f25 := ⟨Tryz.f115.name, by decide, Tryz.func115.trans (congrArg some (by kernel_rfl))⟩
  f26 := ⟨Tryz.f116.name, by decide, Tryz.func116.trans (congrArg some (by kernel_rfl))⟩
  f27 := ⟨Tryz.f117.name, by decide, Tryz.func117.trans (congrArg some (by kernel_rfl))⟩
  f28 := ⟨Tryz.f118.name, by decide, Tryz.func118.trans (congrArg some (by kernel_rfl))⟩
  f29 := ⟨Tryz.f119.name, by decide, Tryz.func119.trans (congrArg some (by kernel_rfl))⟩
  f31 := Tryz.func146.trans (congrArg some (by kernel_rfl))
  f32 := Tryz.func147.trans (congrArg some (by kernel_rfl))
  f36 := ⟨Tryz.f145.name, by decide, Tryz.func145.trans (congrArg some (by kernel_rfl))⟩
  f37 := ⟨Tryz.f148.name, by decide, Tryz.func148.trans (congrArg some (by kernel_rfl))⟩
  f38 := ⟨Tryz.f149.name, by decide, Tryz.func149.trans (congrArg some (by kernel_rfl))⟩
  f39 := ⟨Tryz.f150.name, by decide, Tryz.func150.trans (congrArg some (by kernel_rfl))⟩
  f41 := ⟨Tryz.f168.name, by decide, Tryz.func168.trans (congrArg some (by kernel_rfl))⟩
  t0 := Tryz.underlying0
  a0 := Tryz.isAgg0
  z0 := Tryz.sizeOf0
  v0 := Tryz.zeroValue0
  t3 := Tryz.underlying3
  a3 := Tryz.isAgg3
  z3 := Tryz.sizeOf3
  v3 := Tryz.zeroValue3
  t4 := Tryz.underlying4
  a4 := Tryz.isAgg4
  z4 := Tryz.sizeOf4
  v4 := Tryz.zeroValue4
  t5 := Tryz.underlying5
  a5 := Tryz.isAgg5
  z5 := Tryz.sizeOf5
  v5 := Tryz.zeroValue5
  t9 := Tryz.underlying9
  a9 := Tryz.isAgg9
  z9 := Tryz.sizeOf9
  v9 := Tryz.zeroValue9
  t26 := Tryz.underlying51
  a26 := Tryz.isAgg51
  z26 := Tryz.sizeOf51
  v26 := Tryz.zeroValue51
  t27 := Tryz.underlying51
  a27 := Tryz.isAgg51
  z27 := Tryz.sizeOf51
  v27 := Tryz.zeroValue51
  t29 := Tryz.underlying9
  a29 := Tryz.isAgg9
  z29 := Tryz.sizeOf9
  v29 := Tryz.zeroValue9
  t32 := Tryz.underlying121
  a32 := Tryz.isAgg121
  z32 := Tryz.sizeOf121
  v32 := Tryz.zeroValue121
  t35 := Tryz.underlying153
  a35 := Tryz.isAgg153
  z35 := Tryz.sizeOf153
  v35 := Tryz.zeroValue153
  t36 := Tryz.underlying154
  a36 := Tryz.isAgg154
  z36 := Tryz.sizeOf154
  v36 := Tryz.zeroValue154
  t41 := Tryz.underlying158
  a41 := Tryz.isAgg158
  z41 := Tryz.sizeOf158
  v41 := Tryz.zeroValue158
  t44 := Tryz.underlying161
  a44 := Tryz.isAgg161
  z44 := Tryz.sizeOf161
  v44 := Tryz.zeroValue161
  t46 := Tryz.underlying163
  a46 := Tryz.isAgg163
  z46 := Tryz.sizeOf163
  v46 := Tryz.zeroValue163
  t53 := Tryz.underlying181
  a53 := Tryz.isAgg181
  z53 := Tryz.sizeOf181
  v53 := Tryz.zeroValue181
  t57 := Tryz.underlying185
  a57 := Tryz.isAgg185
  z57 := Tryz.sizeOf185
  v57 := Tryz.zeroValue185
  t63 := Tryz.underlying197
  a63 := Tryz.isAgg197
  z63 := Tryz.sizeOf197
  v63 := Tryz.zeroValue197
  t64 := Tryz.underlying198
  a64 := Tryz.isAgg198
  z64 := Tryz.sizeOf198
  v64 := Tryz.zeroValue198 }
end Go.Proofs
namespace Go.Fv.Y
open Go Go.Proofs
set_option linter.unusedSimpArgs false
set_option linter.unusedVariables false
set_option linter.unnecessarySimpa false
set_option maxRecDepth 8000

theorem covD1 {a : Item} : ∀ j, j < 1 → ∃ it, lk [(0, a)] j = some it := fun j hj => by
  obtain rfl : j = 0 := by omega
  exact ⟨_, rfl⟩
theorem cloneWd_ok (l : List Wd) (hl : l.length ≤ 100000) : FnOk Tryz.prog 9 [.ro (wdR l)] (.own 0) [(0, .row 27 (wdR l))] := by
  refine FnOk.of_vc Tryz.func9 rfl (by decide) (by simp [Tryz.f9]) [.tmp 2] rfl fun w0 T0 _ => ?_
  simp only [Tryz.f9, argEnv]
  (repeat' first | with_reducible (first | intro _ | refine rc ?_ | refine rl ?_ | refine rh ?_ | refine ru ?_ | refine rt ?_ | refine rf ?_ | refine rs ?_ | refine And.intro ?_ ?_) | omega | simp (maxSteps := 1000000) only [go_sem, simprocAttr, ↓reduceIte, List.length_map])
  · rename_i h
    have : l = [] := List.eq_nil_of_length_eq_zero (by simpa using h)
    refine Ret.auto 1 ?_ rfl ?_ <;> simp only [go_sem, reduceCtorEq, reduceIte, Nat.reduceEqDiff, Nat.reduceLT, Nat.reduceLeDiff, Int.natCast_succ, Post, this, zrow, List.replicate_zero]
  · refine Ret.auto 1 ?_ rfl ?_ <;> simp only [go_sem, reduceCtorEq, reduceIte, Nat.reduceEqDiff, Nat.reduceLT, Nat.reduceLeDiff, Int.natCast_succ, Post, zrow, List.replicate_zero]
theorem ren_dKs (p : Nat → Nat) (l : List Wd) : renL p (dKs l) = dKs l := renL_kmap p (fun _ => rfl) _
theorem ren_dVs (p : Nat → Nat) (l : List Wd) : renL p (dVs l) = dVs l := renL_kmap p (fun _ => rfl) _
theorem below_dKs (n : Nat) (l : List Wd) : belowL n (dKs l) = true := belowL_kmap n (fun _ => rfl) _
theorem below_dVs (n : Nat) (l : List Wd) : belowL n (dVs l) = true := belowL_kmap n (fun _ => rfl) _
theorem mk_dKs (l : List Wd) (y : List AV) : mkL (dKs l) y = [] := mkL_kmap (fun _ => rfl) _ _
theorem mk_dVs (l : List Wd) (y : List AV) : mkL (dVs l) y = [] := mkL_kmap (fun _ => rfl) _ _
theorem ok_dKs (rows : List (Nat × Item)) (n : Nat) (l : List Wd) : allOk (argOkN rows (n + 1)) (dKs l) (dKs l) := allOk_get rfl fun j h1 h2 => by simp [dKs, argOkN]
theorem ok_dVs (rows : List (Nat × Item)) (n : Nat) (l : List Wd) : allOk (argOkN rows (n + 1)) (dVs l) (dVs l) := allOk_get rfl fun j h1 h2 => by simp [dVs, argOkN]
set_option maxHeartbeats 8000000 in
theorem newDict_any (l : List Wd) (E : Int) (hE : dictErr l = E) (out : AV) (hout0 : E = 0 → out = .cell [.mp (dKs l) (dVs l), .ro (.strs (wsD l))]) (hout1 : E ≠ 0 → out = .raw (.pointer none)) : FnOk Tryz.prog 8 [.ro (wdR l)] (.tup [out, .int .i64 E]) [] := by
  refine FnOk.of_vc Tryz.func8 rfl (by decide) (by simp [Tryz.f8]) [.tmp 2, .tmp 3] rfl fun w0 T0 _ => ?_
  simp only [Tryz.f8, argEnv]
  unfold dictErr at hE
  by_cases h0 : 5000 < l.length
  · rw [if_pos h0] at hE
    subst hE
    rw [hout1 (by decide)]
    (repeat' first | with_reducible (first | intro _ | refine rc ?_ | refine rl ?_ | refine rh ?_ | refine ru ?_ | refine rt ?_ | refine rf ?_ | refine rs ?_ | refine And.intro ?_ ?_) | omega | simp (maxSteps := 1000000) only [go_sem, simprocAttr, ↓reduceIte, List.length_map])
    refine Ret.auto 0 ?_ rfl ?_ <;> simp only [go_sem, reduceCtorEq, reduceIte, Nat.reduceEqDiff, Nat.reduceLT, Nat.reduceLeDiff, Int.natCast_succ, Post]
  rw [if_neg h0] at hE
  (repeat' first | with_reducible (first | intro _ | refine rc ?_ | refine rl ?_ | refine rh ?_ | refine ru ?_ | refine rt ?_ | refine rf ?_ | refine rs ?_ | refine And.intro ?_ ?_) | omega | simp (maxSteps := 1000000) only [go_sem, simprocAttr, ↓reduceIte, List.length_map])
  refine VcLoop.intro (fun i : Nat => ⟨64, [(15, .int .i64 i), (14, .int .i64 l.length), (13, .ro (wdR l)), (4, .ptr 1 0)], [(0, .map (dKs (l.take i)) (dVs (l.take i))), (1, .box 72 [.own 0, .own 2]), (2, .row 9 (.strs ((l.take i).map Wd.t)))], 3⟩) (fun i => i ≤ l.length ∧ (∀ w, w ∈ l.take i → 1 ≤ w.c) ∧ wdEs ((l.take i).map Wd.t) (l.drop i) = E) (fun i => l.length - i) 0 ?_ ⟨Nat.zero_le _, fun w hw => (by cases hw), hE⟩ fun i hi => ?_
  · refine Ent.trans (Ent.nilBox (P := Tryz.prog) 1 1 9 e9 rfl rfl) (Ent.auto0 rfl ?_ ?_) <;> simp only [go_sem, reduceCtorEq, reduceIte, Nat.reduceEqDiff, Nat.reduceLT, Nat.reduceLeDiff, Int.natCast_succ, List.take_zero, List.map_nil, zrow, put, List.set_cons_zero, List.set_cons_succ, List.replicate_zero, ren_dKs, ren_dVs, below_dKs, below_dVs, mk_dKs, mk_dVs]
    all_goals rfl
  obtain ⟨hi, hall, hc⟩ := hi
  by_cases hlt : i < l.length
  · have he := wd_elem l hlt
    rw [wdEs_take l hlt] at hc
    have ht : l.take (i + 1) = l.take i ++ [l.getD i Wd.zero] := by rw [List.take_succ_eq_append_getElem hlt, getD_lt hlt]
    have hnm : (l.getD i Wd.zero).t ∉ (l.take i).map Wd.t → cntD (l.take i) (l.getD i Wd.zero).t = 0 := cntD_none
    generalize l.getD i Wd.zero = y at *
    have e2 := fun h => @updKs_d (l.take i) y h
    have e3 := fun h => @updVs_d (l.take i) y h
    have e4 := isI_d (l.take i)
    have e5 : KeysT Tryz.prog 9 (dKs (l.take i)) := keysT_d (by kernel_rfl) _
    have hL0 : (l.take i).length ≤ 5000 := by rw [List.length_take]; omega
    rw [← ht] at e2 e3
    have ht2 : (l.take (i + 1)).map Wd.t = (l.take i).map Wd.t ++ [y.t] := by rw [ht, List.map_append]; rfl
    generalize hL1 : l.take (i + 1) = L1 at *
    have kh := hasD_ok (l.take i) ((l.take i).map Wd.t) y.t
    have hpos : y.t ∈ (l.take i).map Wd.t → (∀ w, w ∈ l.take i → 1 ≤ w.c) → 0 < cntD (l.take i) y.t := fun hm hall => by
      have key : ∀ L : List Wd, y.t ∈ L.map Wd.t → (∀ w, w ∈ L → 1 ≤ w.c) → 0 < cntD L y.t := by
        intro L
        induction L with
        | nil => intro h _; cases h
        | cons v L ih =>
          intro h hall
          rw [cntD_cons]
          have hv := hall v List.mem_cons_self
          by_cases hvt : v.t = y.t
          · rw [if_pos hvt]; omega
          · rw [if_neg hvt]
            rcases List.mem_cons.1 h with h | h
            · exact absurd h.symm hvt
            · exact ih h fun w hw => hall w (List.mem_cons_of_mem _ hw)
      exact key _ hm hall
    generalize l.take i = L0 at *
    have kw := isWordA_ok y.t
    unfold wdE at hc
    obtain ⟨yt, yc⟩ := y
    dsimp only at he hc e2 e3 kw kh hnm hpos ht2
    cases hw : isWd yt with
    | false =>
      rw [hw] at kw
      rw [if_neg (by rw [if_pos hw]; decide), if_pos hw] at hc
      subst hc
      rw [hout1 (by decide)]
      (repeat' first | with_reducible (first | intro _ | refine rc ?_ | refine rl ?_ | refine rh ?_ | refine ru ?_ | refine rt ?_ | refine rf ?_ | refine rs ?_ | refine And.intro ?_ ?_) | omega | simp (maxSteps := 1000000) only [go_sem, simprocAttr, ↓reduceIte, elemA, he, List.length_map])
      refine VcCall.k (kw) ?_
      (repeat' first | with_reducible (first | intro _ | refine rc ?_ | refine rl ?_ | refine rh ?_ | refine ru ?_ | refine rt ?_ | refine rf ?_ | refine rs ?_ | refine And.intro ?_ ?_) | omega | simp (maxSteps := 1000000) only [go_sem, simprocAttr, ↓reduceIte])
      refine Ret.auto 0 ?_ rfl ?_ <;> simp only [go_sem, reduceCtorEq, reduceIte, Nat.reduceEqDiff, Nat.reduceLT, Nat.reduceLeDiff, Int.natCast_succ, Post]
    | true =>
      rw [hw] at kw
      rw [if_neg (show ¬ isWd yt = false by rw [hw]; decide)] at hc
      by_cases hr : yc < 1 ∨ 1000000000 < yc
      · rw [if_neg (by rw [if_pos hr]; decide), if_pos hr] at hc
        subst hc
        rw [hout1 (by decide)]
        (repeat' first | with_reducible (first | intro _ | refine rc ?_ | refine rl ?_ | refine rh ?_ | refine ru ?_ | refine rt ?_ | refine rf ?_ | refine rs ?_ | refine And.intro ?_ ?_) | omega | simp (maxSteps := 1000000) only [go_sem, simprocAttr, ↓reduceIte, elemA, he, List.length_map])
        refine VcCall.k (kw) ?_
        (repeat' first | with_reducible (first | intro _ | refine rc ?_ | refine rl ?_ | refine rh ?_ | refine ru ?_ | refine rt ?_ | refine rf ?_ | refine rs ?_ | refine And.intro ?_ ?_) | omega | simp (maxSteps := 1000000) only [go_sem, simprocAttr, ↓reduceIte, hr])
        refine Ret.auto 0 ?_ rfl ?_ <;> simp only [go_sem, reduceCtorEq, reduceIte, Nat.reduceEqDiff, Nat.reduceLT, Nat.reduceLeDiff, Int.natCast_succ, Post]
      · rw [if_neg hr] at hc
        by_cases hm : yt ∈ L0.map Wd.t
        · rw [decide_eq_true (hpos hm hall)] at kh
          rw [if_neg (by rw [if_pos hm]; decide), if_pos hm] at hc
          subst hc
          rw [hout1 (by decide)]
          (repeat' first | with_reducible (first | intro _ | refine rc ?_ | refine rl ?_ | refine rh ?_ | refine ru ?_ | refine rt ?_ | refine rf ?_ | refine rs ?_ | refine And.intro ?_ ?_) | omega | simp (maxSteps := 1000000) only [go_sem, simprocAttr, ↓reduceIte, elemA, he, List.length_map])
          refine VcCall.k (kw) ?_
          (repeat' first | with_reducible (first | intro _ | refine rc ?_ | refine rl ?_ | refine rh ?_ | refine ru ?_ | refine rt ?_ | refine rf ?_ | refine rs ?_ | refine And.intro ?_ ?_) | omega | simp (maxSteps := 1000000) only [go_sem, simprocAttr, ↓reduceIte, hr])
          refine VcCall.fr (FnFr.of_ok kh rfl rfl) ?_ 0 rfl (by simp [rowsB]) ?_
          · exact ⟨_, _, ⟨_, _, [.mp (dKs L0) (dVs L0), .ro (.strs (L0.map Wd.t))], rfl, ⟨_, _, argOkN_map rfl (ok_dKs _ _ _) (ok_dVs _ _ _), ⟨_, _, argOkN_row (e := 9) rfl (noIdR_ok _), rfl, rfl⟩, rfl⟩, rfl⟩, ⟨_, _, rfl, rfl, rfl⟩, rfl⟩
          (repeat' first | with_reducible (first | intro _ | refine rc ?_ | refine rl ?_ | refine rh ?_ | refine ru ?_ | refine rt ?_ | refine rf ?_ | refine rs ?_ | refine And.intro ?_ ?_) | omega | simp (maxSteps := 1000000) only [go_sem, simprocAttr, ↓reduceIte])
          refine Ret.auto 0 ?_ rfl ?_ <;> simp only [go_sem, reduceCtorEq, reduceIte, Nat.reduceEqDiff, Nat.reduceLT, Nat.reduceLeDiff, Int.natCast_succ, Post]
        · rw [hnm hm, decide_eq_false (by omega)] at kh
          rw [if_pos (by rw [if_neg hm])] at hc
          have e2 := e2 hm
          have e3 := e3 hm
          (repeat' first | with_reducible (first | intro _ | refine rc ?_ | refine rl ?_ | refine rh ?_ | refine ru ?_ | refine rt ?_ | refine rf ?_ | refine rs ?_ | refine And.intro ?_ ?_) | omega | simp (maxSteps := 1000000) only [go_sem, simprocAttr, ↓reduceIte, elemA, he, List.length_map])
          refine VcCall.k (kw) ?_
          (repeat' first | with_reducible (first | intro _ | refine rc ?_ | refine rl ?_ | refine rh ?_ | refine ru ?_ | refine rt ?_ | refine rf ?_ | refine rs ?_ | refine And.intro ?_ ?_) | omega | simp (maxSteps := 1000000) only [go_sem, simprocAttr, ↓reduceIte, hr])
          refine VcCall.fr (FnFr.of_ok kh rfl rfl) ?_ 0 rfl (by simp [rowsB]) ?_
          · exact ⟨_, _, ⟨_, _, [.mp (dKs L0) (dVs L0), .ro (.strs (L0.map Wd.t))], rfl, ⟨_, _, argOkN_map rfl (ok_dKs _ _ _) (ok_dVs _ _ _), ⟨_, _, argOkN_row (e := 9) rfl (noIdR_ok _), rfl, rfl⟩, rfl⟩, rfl⟩, ⟨_, _, rfl, rfl, rfl⟩, rfl⟩
          (repeat' first | with_reducible (first | intro _ | refine rc ?_ | refine rl ?_ | refine rh ?_ | refine ru ?_ | refine rt ?_ | refine rf ?_ | refine rs ?_ | refine And.intro ?_ ?_) | omega | simp (maxSteps := 1000000) only [go_sem, simprocAttr, ↓reduceIte])
          refine VcDraw.lex [8] [] (by kernel_rfl) (by kernel_rfl) ?_
          (repeat' first | with_reducible (first | intro _ | refine rc ?_ | refine rl ?_ | refine rh ?_ | refine ru ?_ | refine rt ?_ | refine rf ?_ | refine rs ?_ | refine And.intro ?_ ?_) | omega | simp (maxSteps := 1000000) only [go_sem, simprocAttr, ↓reduceIte, e2, e3, e4, e5])
          refine VcDraw.lex [7, 8, 11] [(0, [1, 2]), (1, [1]), (2, [1]), (3, [1]), (4, [1])] (by kernel_rfl) (by kernel_rfl) ?_
          (repeat' first | with_reducible (first | intro _ | refine rc ?_ | refine rl ?_ | refine rh ?_ | refine ru ?_ | refine rt ?_ | refine rf ?_ | refine rs ?_ | refine And.intro ?_ ?_) | omega | simp (maxSteps := 1000000) only [go_sem, simprocAttr, ↓reduceIte, List.length_map])
          refine ⟨i + 1, Ent.auto0 rfl ?_ ?_, ⟨by omega, fun w hw => ?_, by rw [hL1]; exact hc⟩, by omega⟩
          · simp only [go_sem, reduceCtorEq, reduceIte, Nat.reduceEqDiff, Nat.reduceLT, Nat.reduceLeDiff, Int.natCast_succ, hL1, ht2, ren_dKs, ren_dVs, below_dKs, below_dVs, mk_dKs, mk_dVs]
          · simp only [go_sem, reduceCtorEq, reduceIte, Nat.reduceEqDiff, Nat.reduceLT, Nat.reduceLeDiff, Int.natCast_succ, hL1, ht2, ren_dKs, ren_dVs, below_dKs, below_dVs, mk_dKs, mk_dVs]
          · rw [hL1, ht] at hw
            rcases List.mem_append.1 hw with hw | hw
            · exact hall w hw
            · rw [List.mem_singleton.1 hw]; dsimp only; omega
  · have e : i = l.length := by omega
    subst e
    rw [List.drop_length] at hc
    rw [List.take_length]
    subst hc
    rw [hout0 rfl]
    have kS := sortStrs_io Tryz.lSoS ⟨_, Tryz.func31, by kernel_rfl, by kernel_rfl⟩ 9 (l.map Wd.t) (by rw [List.length_map]; omega)
    rw [show sortS (l.map Wd.t) = wsD l from rfl] at kS
    generalize wsD l = ws at *
    (repeat' first | with_reducible (first | intro _ | refine rc ?_ | refine rl ?_ | refine rh ?_ | refine ru ?_ | refine rt ?_ | refine rf ?_ | refine rs ?_ | refine And.intro ?_ ?_) | omega | simp (maxSteps := 1000000) only [go_sem, simprocAttr, ↓reduceIte, List.length_map])
    refine VcCall.ioL [2] kS rfl rfl (by decide) ⟨.own 0, [], .inl ⟨rfl, rfl⟩, rfl, rfl⟩ (by simp [subOk, ioN, lk, Item.ren, Item.below, renR_ok, belowR_ok]) covD1 1 (by decide) rfl (by simp [rowsB, Item.below, belowR, belowL, Fv.below]) ?_
    (repeat' first | with_reducible (first | intro _ | refine rc ?_ | refine rl ?_ | refine rh ?_ | refine ru ?_ | refine rt ?_ | refine rf ?_ | refine rs ?_ | refine And.intro ?_ ?_) | omega | simp (maxSteps := 1000000) only [go_sem, simprocAttr, ↓reduceIte, S.ioS, ioRows, ioN, delL, Item.ren, renR_ok, noIdR_ok, ren_dKs, ren_dVs, List.length_cons, List.length_nil, List.length_map, Int.cast_ofNat_Int, List.getElem?_cons_zero, List.getElem?_cons_succ, List.cons_append, List.nil_append, Nat.reduceAdd, Nat.sub_self, Nat.add_zero, List.filter])
    refine Ret.ro ?_
    simp only [go_sem, reduceCtorEq, reduceIte, Nat.reduceEqDiff, Nat.reduceLT, Nat.reduceLeDiff, Int.natCast_succ, outOk, argOk, argOkN, allOk, noIdR_ok, wdEs]
    exact ⟨_, ⟨_, _, ⟨_, _, [.mp (dKs l) (dVs l), .ro (.strs ws)], rfl, ⟨_, _, argOkN_map rfl (ok_dKs _ _ _) (ok_dVs _ _ _), ⟨_, _, argOkN_row (e := 9) rfl (noIdR_ok _), rfl, rfl⟩, rfl⟩, rfl⟩, ⟨_, _, rfl, rfl, rfl⟩, rfl⟩, rfl⟩
end Go.Fv.Y

/- The laws' dict: those of the words that make a right dictionary. -/
namespace Go.Fv.Y
open Go Go.Proofs
set_option linter.unusedSimpArgs false
set_option linter.unusedVariables false
set_option linter.unnecessarySimpa false
set_option maxRecDepth 8000

def addD (l : List Wd) (w : Wd) : List Wd := if dictErr (l ++ [w]) = 0 then l ++ [w] else l
def dOf (l : List Wd) : List Wd := l.foldl addD []
theorem dOf_take {l : List Wd} {i : Nat} (h : i < l.length) : dOf (l.take (i + 1)) = addD (dOf (l.take i)) (l.getD i Wd.zero) := by
  unfold dOf
  rw [List.take_succ_eq_append_getElem h, List.foldl_append, getD_lt h]; rfl
theorem foldl_addD_ok : ∀ (l s : List Wd), dictErr s = 0 → dictErr (l.foldl addD s) = 0
  | [], s, h => h
  | w :: l, s, h => by
    apply foldl_addD_ok l
    unfold addD
    split
    · assumption
    · exact h
theorem dOf_ok (l : List Wd) : dictErr (dOf l) = 0 := foldl_addD_ok l [] (by simp [dictErr, wdEs])
theorem foldl_addD_len : ∀ (l s : List Wd), (l.foldl addD s).length ≤ s.length + l.length
  | [], s => Nat.le_refl _
  | w :: l, s => by
    have := foldl_addD_len l (addD s w)
    have h : (addD s w).length ≤ s.length + 1 := by unfold addD; split <;> simp
    rw [List.foldl_cons, List.length_cons]; omega
theorem dOf_len (l : List Wd) : (dOf l).length ≤ l.length := by
  have := foldl_addD_len l []
  simpa [dOf] using this
end Go.Fv.Y

/- TopCorrected, in plain words. -/
namespace Go.Fv.Y
open Go
set_option linter.unusedSimpArgs false
set_option linter.unusedVariables false
set_option linter.unnecessarySimpa false

theorem isL_inWT {c : UInt8} (h : isL c = true) : inW c = true := by unfold inW; rw [h]; rfl
theorem isL_qu {c : UInt8} (h : isL c = true) : qu c = false := by
  unfold qu
  rw [decide_eq_false_iff_not]
  rintro rfl
  revert h; decide
theorem drop_quT : ∀ {w : Bytes}, isL (w.headD 0) = true → dropQ w = w ∧ preQ w = []
  | [], h => ⟨rfl, rfl⟩
  | c :: w, h => by
    have := isL_qu (c := c) h
    unfold dropQ preQ
    rw [List.dropWhile_cons, List.takeWhile_cons, this]; exact ⟨rfl, rfl⟩
theorem dropR_quT {w : Bytes} (hw : w ≠ []) (h : isL (w.getLastD 0) = true) : dropR w = w ∧ postQ w = [] := by
  unfold dropR postQ
  have e : isL (w.reverse.headD 0) = true := by
    rw [List.getLastD_eq_getLast?] at h
    rw [List.headD_eq_head?_getD, List.head?_reverse]; exact h
  have := drop_quT e
  unfold dropQ preQ at this
  rw [this.1, this.2, List.reverse_reverse]; exact ⟨rfl, rfl⟩
theorem isWd_partsT {w : Bytes} (h : isWd w = true) : w ≠ [] ∧ w.length ≤ 40 ∧ isL (w.headD 0) = true ∧ isL (w.getLastD 0) = true ∧ w.all inW = true := by
  unfold isWd at h
  simp only [Bool.and_eq_true, decide_eq_true_eq] at h
  exact ⟨h.1.1.1.1, h.1.1.1.2, h.1.1.2, h.1.2, h.2⟩
theorem take_allT {p : UInt8 → Bool} : ∀ {w r : Bytes}, w.all p = true → p (r.headD 0) = false → (w ++ r).takeWhile p = w ∧ (w ++ r).dropWhile p = r
  | [], [], _, _ => ⟨rfl, rfl⟩
  | [], c :: r, _, h => by
    have h : p c = false := h
    rw [List.nil_append, List.takeWhile_cons, List.dropWhile_cons, h]; exact ⟨rfl, rfl⟩
  | c :: w, r, hw, h => by
    rw [List.all_cons, Bool.and_eq_true] at hw
    have ih := take_allT (w := w) (r := r) hw.2 h
    rw [List.cons_append, List.takeWhile_cons, List.dropWhile_cons, hw.1, if_pos rfl, if_pos rfl, ih.1, ih.2]
    exact ⟨rfl, rfl⟩
/-- A word, and something that is none behind it. -/
theorem toks_wdT {w r : Bytes} (hw : isWd w = true) (hr : inW (r.headD 0) = false) (btw : Bytes) (out : List Tok) : toks (w ++ r) btw out = toks r [] (flush out btw ++ [(w, true)]) := by
  obtain ⟨h0, _, h1, h2, h3⟩ := isWd_partsT hw
  obtain ⟨t1, t2⟩ := take_allT h3 hr
  obtain ⟨d1, d2⟩ := drop_quT h1
  obtain ⟨e1, e2⟩ := dropR_quT h0 h2
  cases w with
  | nil => exact absurd rfl h0
  | cons c w =>
    have hc : inW c = true := isL_inWT h1
    rw [List.cons_append] at t1 t2 ⊢
    have hm : midQ (List.takeWhile inW (c :: (w ++ r))) = c :: w := by rw [t1]; unfold midQ; rw [d1, e1]
    rw [toks_word hc _ _ (by rw [hm]; exact hw), hm, t1, t2, d1, e2, d2, List.append_nil]
/-- The text of words. -/
def txtD (l : List Wd) : Bytes := (l.map fun w => w.t ++ [44, 32]).flatten
theorem txtD_take {l : List Wd} {i : Nat} (h : i < l.length) : txtD (l.take (i + 1)) = txtD (l.take i) ++ ((l.getD i Wd.zero).t ++ [44, 32]) := by
  unfold txtD
  rw [List.take_succ_eq_append_getElem h, List.map_append, List.flatten_append, getD_lt h]; simp
theorem toks_txt : ∀ (l : List Wd) (btw : Bytes) (out : List Tok), (∀ w, w ∈ l → isWd w.t = true) → ∀ t, t ∈ toks (txtD l) btw out → t ∈ out ∨ t.2 = false ∨ ∃ w, w ∈ l ∧ t.1 = w.t
  | [], btw, out, _, t, ht => by
    rw [show txtD [] = [] from rfl, toks_nil] at ht
    unfold flush at ht
    split at ht
    · exact .inl ht
    · rcases List.mem_append.1 ht with ht | ht
      · exact .inl ht
      · rw [List.mem_singleton] at ht; subst ht; exact .inr (.inl rfl)
  | w :: l, btw, out, hw, t, ht => by
    have e : txtD (w :: l) = w.t ++ (44 :: 32 :: txtD l) := by unfold txtD; simp
    rw [e, toks_wdT (r := 44 :: 32 :: txtD l) (hw w List.mem_cons_self) (show inW 44 = false by decide), toks_other (by decide : inW 44 = false), toks_other (by decide : inW 32 = false)] at ht
    rcases toks_txt l _ _ (fun w h => hw w (List.mem_cons_of_mem _ h)) t ht with h | h | ⟨x, h1, h2⟩
    · rcases List.mem_append.1 h with h | h
      · unfold flush at h
        split at h
        · exact .inl h
        · rcases List.mem_append.1 h with h | h
          · exact .inl h
          · rw [List.mem_singleton] at h; subst h; exact .inr (.inl rfl)
      · rw [List.mem_singleton] at h; subst h; exact .inr (.inr ⟨w, List.mem_cons_self, rfl⟩)
    · exact .inr (.inl h)
    · exact .inr (.inr ⟨x, List.mem_cons_of_mem _ h1, h2⟩)
theorem cntD_pos {D : List Wd} (hg : GoodD D) {w : Wd} (h : w ∈ D) : 0 < cntD D w.t := by
  rw [cntD_mem hg.nd h]
  have := (hg.wd w h).2; omega
/-- What a text of known words becomes. -/
theorem pieces_id (f : Bytes → Bytes) : ∀ (T : List Tok) (p : Nat), (∀ t, t ∈ T → pieceOf f t = t.1) → piecesOf f T = textOf T ∧ fixesFrom f p T = []
  | [], p, _ => ⟨rfl, rfl⟩
  | t :: T, p, h => by
    have h1 := h t List.mem_cons_self
    obtain ⟨a, b⟩ := pieces_id f T (p + t.1.length) (fun t ht => h t (List.mem_cons_of_mem _ ht))
    refine ⟨?_, by rw [fixes_cons, if_pos h1]; exact b⟩
    show pieceOf f t ++ piecesOf f T = t.1 ++ textOf T
    rw [h1, a]
theorem toksText (s : Bytes) : textOf (toks s [] []) = s := by
  have := toks_text _ s [] [] (Nat.le_refl _)
  simpa [textOf] using this
theorem text_stays {D : List Wd} (hg : GoodD D) (sw : List Sw) (most : Int) : (csAll (corrW D sw most) (toks (txtD D) [] [])).b = txtD D ∧ (csAll (corrW D sw most) (toks (txtD D) [] [])).f = [] := by
  obtain ⟨a, b⟩ := pieces_id (corrW D sw most) (toks (txtD D) [] []) 0 fun t ht => by
    unfold pieceOf
    split
    · rename_i hb
      rcases toks_txt D [] [] (fun w h => (hg.wd w h).1) t ht with h | h | ⟨w, h1, h2⟩
      · cases h
      · rw [h] at hb; cases hb
      · have hk : hasW D t.1 = true := by
          unfold hasW
          rw [h2, decide_eq_true (cntD_pos hg h1)]; rfl
        unfold corrW
        rw [if_pos hk]
    · rfl
  rw [csAll_b, csAll_f, a, b]
  exact ⟨toksText _, rfl⟩
theorem txtD_len : ∀ {D : List Wd}, (∀ w, w ∈ D → isWd w.t = true) → (txtD D).length ≤ 42 * D.length
  | [], _ => Nat.le_refl _
  | w :: l, h => by
    have ih := txtD_len (D := l) fun x hx => h x (List.mem_cons_of_mem _ hx)
    have h1 := (isWd_partsT (h w List.mem_cons_self)).2.1
    have e : txtD (w :: l) = w.t ++ (44 :: 32 :: txtD l) := by unfold txtD; simp
    rw [e]; simp only [List.length_append, List.length_cons]; omega
theorem small_up {s : Bytes} (h : upI s 0 < 0) : smallL s = s := by
  unfold smallL
  apply List.ext_getElem
  · simp
  · intro j h1 h2
    rw [List.getElem_map]
    have := upI_none h h2 (Nat.zero_le _)
    rw [getD_lt h2] at this
    unfold smallB
    rw [if_neg]
    simpa using this
theorem bestG_word {D : List Wd} {sw : List Sw} {w : Bytes} {most : Int} {g : Gs} (h : bestG (nearL D sw w most) = some g) : ∃ x, x ∈ D ∧ x.t = g.t := by
  have h1 := bestG_mem h
  unfold nearL at h1
  have := (mem_gsAll ((sortG_perm _).mem_iff.1 h1)).1
  rw [ws_mem, List.mem_map] at this
  exact this
/-- One word that is not known, without great letters: it becomes the best guess, if there is one. -/
theorem read_fixed {D : List Wd} (hg : GoodD D) (sw : List Sw) (most : Int) {r t : Bytes} (hT : toks r [] [] = [(t, true)]) (hu : upI r 0 < 0) (hk : ¬ 0 < cntD D r) :
    isWd r = true ∧ csAll (corrW D sw most) (toks r [] []) = (match bestG (nearL D sw r most) with | some g => ⟨g.t, [⟨0, r, g.t⟩], r.length⟩ | none => ⟨r, [], r.length⟩) := by
  have e : t = r := by
    have := toksText r
    rw [hT] at this
    simpa [textOf] using this
  subst e
  have hw : isWd t = true := (tokOk t (t, true) (by rw [hT]; exact List.mem_singleton_self _)).2 rfl
  refine ⟨hw, ?_⟩
  have hs := small_up hu
  have hk2 : hasW D t = false := by unfold hasW; rw [hs, decide_eq_false hk]; rfl
  have hc : corrW D sw most t = match bestG (nearL D sw t most) with | some g => g.t | none => t := by
    unfold corrW
    rw [hk2, if_neg (by decide), hs, if_pos rfl]
    cases bestG (nearL D sw t most) <;> rfl
  rw [hT]
  show CS.step (corrW D sw most) ⟨[], [], 0⟩ (t, true) = _
  unfold CS.step pieceOf
  rw [if_pos rfl]
  dsimp only
  rw [hc]
  cases hb : bestG (nearL D sw t most) with
  | none => simp
  | some g =>
    obtain ⟨x, hx, hxt⟩ := bestG_word hb
    have hne : g.t ≠ t := fun e => hk (by rw [← e, ← hxt]; exact cntD_pos hg hx)
    dsimp only
    rw [if_neg hne]
    simp
end Go.Fv.Y

/- strings.Builder: copyCheck at this program. -/
namespace Go.Fv.Y
open Go Go.Proofs Go.RowKit
set_option linter.unusedSimpArgs false
set_option linter.unusedVariables false
set_option linter.unnecessarySimpa false
set_option maxRecDepth 8000

theorem setCell_same (w : World) (g : Nat) (a b v : Value) (t : TypeId) (h : w.heap[g]? = some (.cells #[a, b] t (0, 0))) : (w.setCell ⟨g, 0, none⟩ v).heap[g]? = some (.cells #[v, b] t (0, 0)) := by
  unfold World.setCell
  simp [h, Array.getElem?_modify]
theorem setCell_other' (w : World) (g k : Nat) (v : Value) (h : k ≠ g) : (w.setCell ⟨g, 0, none⟩ v).heap[k]? = w.heap[k]? := by
  unfold World.setCell
  simp only [Array.getElem?_modify]
  rw [if_neg (fun e => h e.symm)]
theorem sizeB : (Tryz.prog.info? 88).map (·.size) = some 2 := by kernel_rfl
theorem liesB : liesAt Tryz.prog Tryz.prog.depth 88 (2 / Tryz.prog.cellsOf 88) 0 88 1 = true := by kernel_rfl
theorem ntB : Tryz.f86.ntmps = 20 := rfl
set_option maxHeartbeats 1000000 in
set_option maxRecDepth 100000 in
theorem copyUsed (b : Nat) (w : World) (h0 : w.cell? ⟨b, 0, none⟩ = some (.pointer (some ⟨b, 0, none⟩))) :
    Calls Tryz.prog 86 #[.pointer (some ⟨b, 0, none⟩)] w fun e w' => e = .returned (.tuple #[]) ∧ w' = w := by
  have t70 := Tryz.underlying85
  have t72 := Tryz.underlying88
  have a72 := Tryz.isAgg88
  have z72 := Tryz.sizeOf88
  have a70 := Tryz.isAgg85
  have z70 := Tryz.sizeOf85
  have hf := Tryz.func86
  have mixed : Tryz.prog.follows .mixedOrders = true := by kernel_rfl
  obtain ⟨j, hj, hjs⟩ := Option.map_eq_some_iff.1 sizeB
  have u70 := run_underlying t70
  have u72 := run_underlying t72
  have hn := ntB
  generalize Tryz.prog = P at *
  go_enter hf, hn
  go_wp2
  rw [Lib.run_neq_ptr_same w _ t70 hj]
  go_wp2
  go_end0
  exact ⟨rfl, rfl⟩
set_option maxHeartbeats 1000000 in
set_option maxRecDepth 100000 in
theorem copyFresh (b : Nat) (w : World) (h0 : w.cell? ⟨b, 0, none⟩ = some (.pointer none)) (hsh : w.shape? b = some (88, 2)) (hfz : w.frozen? ⟨b, 0, none⟩ = false) :
    Calls Tryz.prog 86 #[.pointer (some ⟨b, 0, none⟩)] w fun e w' => e = .returned (.tuple #[]) ∧ w' = w.setCell ⟨b, 0, none⟩ (.pointer (some ⟨b, 0, none⟩)) := by
  have t70 := Tryz.underlying85
  have t72 := Tryz.underlying88
  have t164 := Tryz.underlying165
  have a72 := Tryz.isAgg88
  have z72 := Tryz.sizeOf88
  have a70 := Tryz.isAgg85
  have z70 := Tryz.sizeOf85
  have hf := Tryz.func86
  have hx := Tryz.func126
  have mixed : Tryz.prog.follows .mixedOrders = true := by kernel_rfl
  obtain ⟨j, hj, hjs⟩ := Option.map_eq_some_iff.1 sizeB
  have hlies := liesB
  have u70 := run_underlying t70
  have u72 := run_underlying t72
  have hn := ntB
  generalize Tryz.prog = P at *
  go_enter hf, hn
  go_wp2
  rw [Lib.run_to_unsafe w ⟨b, 0, none⟩ t70 t164 hj (by rw [hjs]; decide) hsh (Nat.zero_lt_succ 1)]
  simp only [Result.andThen]
  rw [Oper.upon_value]
  go_wp2
  rw [run_callFunc_extern hx (by kernel_rfl) (by kernel_rfl) (by kernel_rfl) (e := Extern.AbiNoEscape.same) (by kernel_rfl)]
  rw [Lib.run_noEscape]
  simp only [Result.andThen]
  rw [Oper.upon_value]
  go_wp2
  rw [Lib.run_from_unsafe w ⟨b, 0, none⟩ t164 t70 hj hsh hlies]
  simp only [Result.andThen]
  rw [Oper.upon_value]
  go_wp2
  go_end0
  exact ⟨rfl, rfl⟩
end Go.Fv.Y

/- strings.Builder: what its methods do to a caller's builder. -/
namespace Go.Fv.Y
open Go Go.Proofs
set_option linter.unusedSimpArgs false
set_option linter.unusedVariables false
set_option linter.unnecessarySimpa false
set_option maxRecDepth 8000

theorem lk1 {a it : Item} {i : Nat} (h : lk [(0, a)] i = some it) : i = 0 ∧ it = a := by
  simp only [lk] at h
  split at h
  · rename_i e; exact ⟨e.symm, (Option.some.inj h).symm⟩
  · cases h
theorem lk2 {a b it : Item} {i : Nat} (h : lk [(0, a), (1, b)] i = some it) : (i = 0 ∧ it = a) ∨ (i = 1 ∧ it = b) := by
  simp only [lk] at h
  split at h
  · rename_i e; exact .inl ⟨e.symm, (Option.some.inj h).symm⟩
  · split at h
    · rename_i e; exact .inr ⟨e.symm, (Option.some.inj h).symm⟩
    · cases h
theorem copyFresh_io : FnIO Tryz.prog 86 [.ptr 0 0] [(0, .box 88 [.raw (.pointer none), .nilS])] 1 (.tup []) [(0, .box 88 [.ptr 0 0, .nilS])] := by
  refine ⟨⟨_, Tryz.func86, by kernel_rfl, by kernel_rfl⟩, fun w T g m0 vals ⟨hrow, _, hd⟩ hgl hng hv => ?_⟩
  obtain ⟨_, g0, vs, hm, hO, hl, hh⟩ := hrow 0 _ rfl
  cases hv with
  | cons _ v0 _ vs0 h0 hvs =>
  cases hvs
  cases h0 with
  | ptr _ _ gp hi hg =>
  have hg : blk (m0 0) = some gp := hg
  rw [hm] at hg
  cases hg
  cases hl with
  | cons _ a _ _ ha _ hl =>
  cases ha
  cases hl with
  | cons _ b _ _ hb _ hl =>
  cases hb
  cases hl
  have hh' : w.heap[g0]? = some (.cells #[.pointer none, .slice none 0 0] 88 (0, 0)) := hh
  refine (copyFresh g0 w (by simp [World.cell?, hh']) (by simp [World.shape?, hh']) (by simp [World.frozen?, hh'])).mono ?_
  rintro e w' ⟨rfl, rfl⟩
  refine ⟨_, rfl, ⟨rfl, rfl, rfl, by simp [World.setCell], Nat.le_refl _, fun k hk hn => setCell_other' w g0 k _ fun e => hn (e ▸ hO)⟩, m0, 1, fun _ _ => rfl, Nat.le_refl _, .tup [] [] .nil, fun i it hi => ?_, fun i j it jt b hi hj _ _ => ?_⟩
  · obtain ⟨rfl, rfl⟩ := lk1 hi
    refine ⟨Nat.one_pos, g0, [.pointer (some ⟨g0, 0, none⟩), .slice none 0 0], hm, .inr ⟨hO, .inr hO⟩, ?_, setCell_same w g0 _ _ _ _ hh'⟩
    exact .cons _ _ _ _ (.ptr 0 0 g0 Nat.one_pos (by show blk (m0 0) = some g0; rw [hm]; rfl)) rfl (.cons _ _ _ _ .nilS rfl .nil)
  · rw [(lk1 hi).1, (lk1 hj).1]
theorem copyUsed_io (e : TypeId) (l : List Int) : FnIO Tryz.prog 86 [.ptr 0 0] [(0, .box 88 [.ptr 0 0, .own 1]), (1, .row e (.ints .u8 l))] 2 (.tup []) [(0, .box 88 [.ptr 0 0, .own 1]), (1, .row e (.ints .u8 l))] := by
  refine ⟨⟨_, Tryz.func86, by kernel_rfl, by kernel_rfl⟩, fun w T g m0 vals ⟨hrow, hsep, hd⟩ hgl hng hv => ?_⟩
  obtain ⟨_, g0, vs, hm, hO, hl, hh⟩ := hrow 0 _ rfl
  obtain ⟨_, n, cells, hr, hn, how, hO2⟩ := hrow 1 _ rfl
  cases hv with
  | cons _ v0 _ vs0 h0 hvs =>
  cases hvs
  cases h0 with
  | ptr _ _ gp hi hg =>
  have hg : blk (m0 0) = some gp := hg
  rw [hm] at hg
  cases hg
  cases hl with
  | cons _ a _ _ ha _ hl =>
  cases ha with
  | ptr _ _ ga _ hga =>
  have hga : blk (m0 0) = some ga := hga
  rw [hm] at hga
  cases hga
  cases hl with
  | cons _ b _ _ hb hb1 hl =>
  cases hl
  have hh' : w.heap[g0]? = some (.cells #[.pointer (some ⟨g0, 0, none⟩), b] 88 (0, 0)) := hh
  refine (copyUsed g0 w (by simp [World.cell?, hh'])).mono ?_
  rintro e w' ⟨rfl, rfl⟩
  refine ⟨_, rfl, BelowG.refl _ _, m0, 2, fun _ _ => rfl, Nat.le_refl _, .tup [] [] .nil, fun i it hi => ?_, fun i j it jt b hi hj h1 h2 => ?_⟩
  · rcases lk2 hi with ⟨rfl, rfl⟩ | ⟨rfl, rfl⟩
    · refine ⟨by decide, g0, [.pointer (some ⟨g0, 0, none⟩), b], hm, .inr ⟨hO, .inr hO⟩, ?_, hh'⟩
      cases hb with
      | own _ h5 h6 => exact .cons _ _ _ _ (.ptr 0 0 g0 (show 0 < 2 by decide) (by show blk (m0 0) = some g0; rw [hm]; rfl)) rfl (.cons _ _ _ _ (.own 1 (show 1 < 2 by decide) h6) hb1 .nil)
    · refine ⟨by decide, n, cells, ?_, hn, how, fun b hb => .inr ⟨hO2 b hb, .inr (hO2 b hb)⟩⟩
      cases hr with
      | ints _ _ h7 => exact .ints _ _ h7
  · exact hsep i j it jt b hi hj h1 h2
theorem covB2 {a b : Item} : ∀ j, j < 2 → ∃ it, lk [(0, a), (1, b)] j = some it := fun j hj => by
  have : j = 0 ∨ j = 1 := by omega
  rcases this with rfl | rfl
  · exact ⟨a, rfl⟩
  · exact ⟨b, rfl⟩
theorem covB1 {a : Item} : ∀ j, j < 1 → ∃ it, lk [(0, a)] j = some it := fun j hj => by
  obtain rfl : j = 0 := by omega
  exact ⟨a, rfl⟩
set_option maxHeartbeats 2000000 in
theorem writeFresh_io (s : List UInt8) (hs : s.length ≤ 100000000000) : FnIO Tryz.prog 41 [.ptr 0 0, .str s] [(0, .box 88 [.raw (.pointer none), .nilS])] 1 (.tup [.int .i64 s.length, .raw .nilIface]) [(0, .box 88 [.ptr 0 0, .own 1]), (1, .row 5 (.ints .u8 (byteInts s)))] := by
  have k := copyFresh_io
  refine FnIO.of_vc Tryz.func41 rfl (by decide) (by simp [Tryz.f41]) covB1 [.tmp 4, .tmp 5] rfl fun w0 T0 _ => ?_
  simp only [Tryz.f41, argEnv]
  (repeat' first | with_reducible (first | intro _ | refine rc ?_ | refine rl ?_ | refine rh ?_ | refine ru ?_ | refine rt ?_ | refine rf ?_ | refine rs ?_ | refine And.intro ?_ ?_) | omega | simp (maxSteps := 1000000) only [go_sem, simprocAttr, ↓reduceIte])
  refine VcCall.io [0] k (by decide) (by simp [renL, ren, ioN]) rfl (by simp [subOk, ioN, lk, Item.ren, Item.below, ren, renL, belowL, Fv.below]) covB1 1 (by decide) rfl (by simp [rowsB, Item.below, Fv.below, belowL]) ?_
  (repeat' first | with_reducible (first | intro _ | refine rc ?_ | refine rl ?_ | refine rh ?_ | refine ru ?_ | refine rt ?_ | refine rf ?_ | refine rs ?_ | refine And.intro ?_ ?_) | omega | simp (maxSteps := 1000000) only [go_sem, simprocAttr, ↓reduceIte, S.ioS, ioRows, ioN, delL, Item.ren, ren, renL, List.length_cons, List.length_nil, List.getElem?_cons_zero, List.getElem?_cons_succ, List.getElem?_nil, List.cons_append, List.nil_append, Nat.reduceAdd, Nat.sub_self, Nat.add_zero, List.filter, zrow])
  refine RetK.of [(1, 2)] 3 (by decide) (by decide) ?_ rfl ?_ <;> simp only [go_sem, reduceCtorEq, reduceIte, Nat.reduceEqDiff, Nat.reduceLT, Nat.reduceLeDiff, Int.natCast_succ, byteInts, renR_ok, belowR_ok]
set_option maxHeartbeats 2000000 in
theorem writeUsed_io (b s : List UInt8) (hb : b.length ≤ 100000000000) (hs : s.length ≤ 10000000000) : FnIO Tryz.prog 41 [.ptr 0 0, .str s] [(0, .box 88 [.ptr 0 0, .own 1]), (1, .row 5 (.ints .u8 (byteInts b)))] 2 (.tup [.int .i64 s.length, .raw .nilIface]) [(0, .box 88 [.ptr 0 0, .own 2]), (2, .row 5 (.ints .u8 (byteInts (b ++ s))))] := by
  have k := copyUsed_io 5 (byteInts b)
  have hbl := byteInts_len b
  have he : byteInts (b ++ s) = byteInts b ++ s.map (fun b => (b.toNat : Int)) := by unfold byteInts; rw [List.map_append]
  generalize byteInts b = B at *
  generalize byteInts (b ++ s) = C at *
  refine FnIO.of_vc Tryz.func41 rfl (by decide) (by simp [Tryz.f41]) covB2 [.tmp 4, .tmp 5] rfl fun w0 T0 _ => ?_
  simp only [Tryz.f41, argEnv]
  (repeat' first | with_reducible (first | intro _ | refine rc ?_ | refine rl ?_ | refine rh ?_ | refine ru ?_ | refine rt ?_ | refine rf ?_ | refine rs ?_ | refine And.intro ?_ ?_) | omega | simp (maxSteps := 1000000) only [go_sem, simprocAttr, ↓reduceIte])
  refine VcCall.io [0, 1] k (by decide) (by simp [renL, ren, ioN]) rfl (by simp [subOk, ioN, lk, Item.ren, Item.below, ren, renL, belowL, Fv.below, renR_ok, belowR_ok]) covB2 2 (by decide) rfl (by simp [rowsB, Item.below, Fv.below, belowL, belowR_ok]) ?_
  (repeat' first | with_reducible (first | intro _ | refine rc ?_ | refine rl ?_ | refine rh ?_ | refine ru ?_ | refine rt ?_ | refine rf ?_ | refine rs ?_ | refine And.intro ?_ ?_) | omega | simp (maxSteps := 1000000) only [go_sem, simprocAttr, ↓reduceIte, S.ioS, ioRows, ioN, delL, Item.ren, ren, renL, renR_ok, List.length_cons, List.length_nil, List.getElem?_cons_zero, List.getElem?_cons_succ, List.getElem?_nil, List.cons_append, List.nil_append, Nat.reduceAdd, Nat.sub_self, Nat.add_zero, List.filter, zrow])
  refine RetK.of [(2, 2)] 3 (by decide) (by decide) ?_ rfl ?_ <;> simp only [go_sem, reduceCtorEq, reduceIte, Nat.reduceEqDiff, Nat.reduceLT, Nat.reduceLeDiff, Int.natCast_succ, he, renR_ok, belowR_ok]
set_option maxHeartbeats 2000000 in
theorem stringFresh_io : FnIO Tryz.prog 42 [.ptr 0 0] [(0, .box 88 [.raw (.pointer none), .nilS])] 1 (.str []) [] := by
  refine FnIO.of_vc Tryz.func42 rfl (by decide) (by simp [Tryz.f42]) covB1 [.tmp 2] rfl fun w0 T0 _ => ?_
  simp only [Tryz.f42, argEnv]
  (repeat' first | with_reducible (first | intro _ | refine rc ?_ | refine rl ?_ | refine rh ?_ | refine ru ?_ | refine rt ?_ | refine rf ?_ | refine rs ?_ | refine And.intro ?_ ?_) | omega | simp (maxSteps := 1000000) only [go_sem, simprocAttr, ↓reduceIte])
  refine VcDraw.lex [] [] (by kernel_rfl) (by kernel_rfl) ?_
  (repeat' first | with_reducible (first | intro _ | refine rc ?_ | refine rl ?_ | refine rh ?_ | refine ru ?_ | refine rt ?_ | refine rf ?_ | refine rs ?_ | refine And.intro ?_ ?_) | omega | simp (maxSteps := 1000000) only [go_sem, simprocAttr, ↓reduceIte])
  refine QV.intro (.raw (.pointer none)) ?_ ?_
  · (repeat' first | with_reducible (first | intro _ | refine rc ?_ | refine rl ?_ | refine rh ?_ | refine ru ?_ | refine rt ?_ | refine rf ?_ | refine rs ?_ | refine And.intro ?_ ?_) | omega | simp (maxSteps := 1000000) only [go_sem, simprocAttr, ↓reduceIte])
  (repeat' first | with_reducible (first | intro _ | refine rc ?_ | refine rl ?_ | refine rh ?_ | refine ru ?_ | refine rt ?_ | refine rf ?_ | refine rs ?_ | refine And.intro ?_ ?_) | omega | simp (maxSteps := 1000000) only [go_sem, simprocAttr, ↓reduceIte])
  refine QV.intro (.str []) ?_ ?_
  · (repeat' first | with_reducible (first | intro _ | refine rc ?_ | refine rl ?_ | refine rh ?_ | refine ru ?_ | refine rt ?_ | refine rf ?_ | refine rs ?_ | refine And.intro ?_ ?_) | omega | simp (maxSteps := 1000000) only [go_sem, simprocAttr, ↓reduceIte])
  (repeat' first | with_reducible (first | intro _ | refine rc ?_ | refine rl ?_ | refine rh ?_ | refine ru ?_ | refine rt ?_ | refine rf ?_ | refine rs ?_ | refine And.intro ?_ ?_) | omega | simp (maxSteps := 1000000) only [go_sem, simprocAttr, ↓reduceIte])
  refine RetK.auto 1 (Nat.le_refl 1) ?_ rfl ?_ <;> simp only [go_sem, reduceCtorEq, reduceIte, Nat.reduceEqDiff, Nat.reduceLT, Nat.reduceLeDiff, Int.natCast_succ]
set_option maxHeartbeats 2000000 in
theorem stringUsed_io (b : List UInt8) (hb : 0 < b.length) : FnIO Tryz.prog 42 [.ptr 0 0] [(0, .box 88 [.ptr 0 0, .own 1]), (1, .row 5 (.ints .u8 (byteInts b)))] 2 (.str b) [] := by
  have hbl := byteInts_len b
  have hz : ((byteInts b).map fun n => UInt8.ofNat n.toNat) = b := bytesOf_byteInts b
  have hne : byteInts b ≠ [] := fun e => by rw [e] at hbl; simp at hbl; omega
  generalize byteInts b = B at *
  refine FnIO.of_vc Tryz.func42 rfl (by decide) (by simp [Tryz.f42]) covB2 [.tmp 2] rfl fun w0 T0 _ => ?_
  simp only [Tryz.f42, argEnv]
  (repeat' first | with_reducible (first | intro _ | refine rc ?_ | refine rl ?_ | refine rh ?_ | refine ru ?_ | refine rt ?_ | refine rf ?_ | refine rs ?_ | refine And.intro ?_ ?_) | omega | simp (maxSteps := 1000000) only [go_sem, simprocAttr, ↓reduceIte])
  refine VcDraw.lex [10] [] (by kernel_rfl) (by kernel_rfl) ?_
  (repeat' first | with_reducible (first | intro _ | refine rc ?_ | refine rl ?_ | refine rh ?_ | refine ru ?_ | refine rt ?_ | refine rf ?_ | refine rs ?_ | refine And.intro ?_ ?_) | omega | simp (maxSteps := 1000000) only [go_sem, simprocAttr, ↓reduceIte, hne, hbl, hz])
  refine QV.intro (.elt 1 1 0 0) ?_ ?_
  · (repeat' first | with_reducible (first | intro _ | refine rc ?_ | refine rl ?_ | refine rh ?_ | refine ru ?_ | refine rt ?_ | refine rf ?_ | refine rs ?_ | refine And.intro ?_ ?_) | omega | simp (maxSteps := 1000000) only [go_sem, simprocAttr, ↓reduceIte, hne, hbl, hz])
  (repeat' first | with_reducible (first | intro _ | refine rc ?_ | refine rl ?_ | refine rh ?_ | refine ru ?_ | refine rt ?_ | refine rf ?_ | refine rs ?_ | refine And.intro ?_ ?_) | omega | simp (maxSteps := 1000000) only [go_sem, simprocAttr, ↓reduceIte, hne, hbl, hz])
  trace_state
  refine QE.intro (.str b) [(2, .row 5 (.ints .u8 [])), (0, .box 88 [.ptr 0 0, .own 1])] 3 ?_ ?_
  · (repeat' first | with_reducible (first | intro _ | refine rc ?_ | refine rl ?_ | refine rh ?_ | refine ru ?_ | refine rt ?_ | refine rf ?_ | refine rs ?_ | refine And.intro ?_ ?_) | omega | simp (maxSteps := 1000000) only [go_sem, simprocAttr, ↓reduceIte, hne, hbl, hz])
  (repeat' first | with_reducible (first | intro _ | refine rc ?_ | refine rl ?_ | refine rh ?_ | refine ru ?_ | refine rt ?_ | refine rf ?_ | refine rs ?_ | refine And.intro ?_ ?_) | omega | simp (maxSteps := 1000000) only [go_sem, simprocAttr, ↓reduceIte, hne, hbl, hz])
  refine RetK.auto 2 (Nat.le_refl 2) ?_ rfl ?_ <;> simp only [go_sem, reduceCtorEq, reduceIte, Nat.reduceEqDiff, Nat.reduceLT, Nat.reduceLeDiff, Int.natCast_succ]
end Go.Fv.Y
