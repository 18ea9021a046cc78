/-
  A part of the proof of the claim: walks over the program's functions and the plain laws that these need. No condition of its own.
-/
import Derived.Test.YtmdaiceacfgkpaaGreatDoorYCorrectsCardPart11
import Derived.Test.YtmdaiceacfgkpaaGreatDoorFvPart11
import Derived.Test.YtmdaiceacfgkpaaGreatDoorFvPart9
import Derived.Test.YtmdaiceacfgkpaaGreatDoorYCorrectsCardPart10
import Derived.Test.YtmdaiceacfgkpaaGreatDoorYCorrectsCardPart9
/- NewDict, and the reference's. -/
namespace Go.Proofs
open Go.Shelf
def Tryz.lSoS_ren : Go.Shelf.Ren := ⟨fun | 6 => 68 | 8 => 95 | 9 => 104 | 19 => 126 | 20 => 127 | 21 => 131 | 22 => 132 | 23 => 133 | 24 => 134 | 25 => 135 | 26 => 136 | 27 => 137 | 28 => 138 | 29 => 139 | 36 => 162 | 31 => 158 | 32 => 159 | 37 => 163 | 38 => 164 | 39 => 165 | 41 => 175 | n => n, fun | 27 => 22 | 29 => 9 | 3 => 3 | 32 => 145 | 26 => 22 | 0 => 0 | 44 => 165 | 46 => 167 | 4 => 4 | 36 => 158 | 35 => 157 | 41 => 162 | 5 => 5 | 9 => 9 | 53 => 187 | 57 => 191 | 63 => 199 | 64 => 200 | n => n, fun | n => n⟩
theorem Tryz.lSoS : Go.Proofs.SlLaysM.n6 Tryz.prog Tryz.lSoS_ren := {
  mixed := by kernel_rfl
  f6 := ⟨Tryz.f68.name, by decide, Tryz.func68.trans (congrArg some (by kernel_rfl))⟩
  f8 := Tryz.func95.trans (congrArg some (by kernel_rfl))
  f9 := ⟨Tryz.f104.name, by decide, Tryz.func104.trans (congrArg some (by kernel_rfl))⟩
  f19 := Tryz.func126.trans (congrArg some (by kernel_rfl))
  f20 := Tryz.func127.trans (congrArg some (by kernel_rfl))
  f21 := ⟨Tryz.f131.name, by decide, Tryz.func131.trans (congrArg some (by kernel_rfl))⟩
  f22 := ⟨Tryz.f132.name, by decide, Tryz.func132.trans (congrArg some (by kernel_rfl))⟩
  f23 := ⟨Tryz.f133.name, by decide, Tryz.func133.trans (congrArg some (by kernel_rfl))⟩
  f24 := ⟨Tryz.f134.name, by decide, Tryz.func134.trans (congrArg some (by kernel_rfl))⟩
  f25 := ⟨Tryz.f135.name, by decide, Tryz.func135.trans (congrArg some (by kernel_rfl))⟩
  f26 := ⟨Tryz.f136.name, by decide, Tryz.func136.trans (congrArg some (by kernel_rfl))⟩
  f27 := ⟨Tryz.f137.name, by decide, Tryz.func137.trans (congrArg some (by kernel_rfl))⟩
  f28 := ⟨Tryz.f138.name, by decide, Tryz.func138.trans (congrArg some (by kernel_rfl))⟩
  f29 := ⟨Tryz.f139.name, by decide, Tryz.func139.trans (congrArg some (by kernel_rfl))⟩
  f31 := Tryz.func158.trans (congrArg some (by kernel_rfl))
  f32 := Tryz.func159.trans (congrArg some (by kernel_rfl))
  f36 := ⟨Tryz.f162.name, by decide, Tryz.func162.trans (congrArg some (by kernel_rfl))⟩
  f37 := ⟨Tryz.f163.name, by decide, Tryz.func163.trans (congrArg some (by kernel_rfl))⟩
  f38 := ⟨Tryz.f164.name, by decide, Tryz.func164.trans (congrArg some (by kernel_rfl))⟩
  f39 := ⟨Tryz.f165.name, by decide, Tryz.func165.trans (congrArg some (by kernel_rfl))⟩
  f41 := ⟨Tryz.f175.name, by decide, Tryz.func175.trans (congrArg some (by kernel_rfl))⟩
  t0 := Tryz.underlying0
  a0 := Tryz.isAgg0
  z0 := Tryz.sizeOf0
  v0 := Tryz.zeroValue0
  t3 := Tryz.underlying3
  a3 := Tryz.isAgg3
  z3 := Tryz.sizeOf3
  v3 := Tryz.zeroValue3
  t4 := Tryz.underlying4
  a4 := Tryz.isAgg4
  z4 := Tryz.sizeOf4
  v4 := Tryz.zeroValue4
  t5 := Tryz.underlying5
  a5 := Tryz.isAgg5
  z5 := Tryz.sizeOf5
  v5 := Tryz.zeroValue5
  t9 := Tryz.underlying9
  a9 := Tryz.isAgg9
  z9 := Tryz.sizeOf9
  v9 := Tryz.zeroValue9
  t26 := Tryz.underlying22
  a26 := Tryz.isAgg22
  z26 := Tryz.sizeOf22
  v26 := Tryz.zeroValue22
  t27 := Tryz.underlying22
  a27 := Tryz.isAgg22
  z27 := Tryz.sizeOf22
  v27 := Tryz.zeroValue22
  t29 := Tryz.underlying9
  a29 := Tryz.isAgg9
  z29 := Tryz.sizeOf9
  v29 := Tryz.zeroValue9
  t32 := Tryz.underlying145
  a32 := Tryz.isAgg145
  z32 := Tryz.sizeOf145
  v32 := Tryz.zeroValue145
  t35 := Tryz.underlying157
  a35 := Tryz.isAgg157
  z35 := Tryz.sizeOf157
  v35 := Tryz.zeroValue157
  t36 := Tryz.underlying158
  a36 := Tryz.isAgg158
  z36 := Tryz.sizeOf158
  v36 := Tryz.zeroValue158
  t41 := Tryz.underlying162
  a41 := Tryz.isAgg162
  z41 := Tryz.sizeOf162
  v41 := Tryz.zeroValue162
  t44 := Tryz.underlying165
  a44 := Tryz.isAgg165
  z44 := Tryz.sizeOf165
  v44 := Tryz.zeroValue165
  t46 := Tryz.underlying167
  a46 := Tryz.isAgg167
  z46 := Tryz.sizeOf167
  v46 := Tryz.zeroValue167
  t53 := Tryz.underlying187
  a53 := Tryz.isAgg187
  z53 := Tryz.sizeOf187
  v53 := Tryz.zeroValue187
  t57 := Tryz.underlying191
  a57 := Tryz.isAgg191
  z57 := Tryz.sizeOf191
  v57 := Tryz.zeroValue191
  t63 := Tryz.underlying199
  a63 := Tryz.isAgg199
  z63 := Tryz.sizeOf199
  v63 := Tryz.zeroValue199
  t64 := Tryz.underlying200
  a64 := Tryz.isAgg200
  z64 := Tryz.sizeOf200
  v64 := Tryz.zeroValue200 }
end Go.Proofs
namespace Go.Fv.Y
open Go Go.Proofs
set_option linter.unusedSimpArgs false
set_option linter.unusedVariables false
set_option linter.unnecessarySimpa false
set_option maxRecDepth 8000

theorem covD1 {a : Item} : ∀ j, j < 1 → ∃ it, lk [(0, a)] j = some it := fun j hj => by
  obtain rfl : j = 0 := by omega
  exact ⟨_, rfl⟩
theorem cloneWd_ok (l : List Wd) (hl : l.length ≤ 100000) : FnOk Tryz.prog 22 [.ro (wdR l)] (.own 0) [(0, .row 56 (wdR l))] := by
  refine FnOk.of_vc Tryz.func22 rfl (by decide) (by simp [Tryz.f22]) [.tmp 2] rfl fun w0 T0 _ => ?_
  simp only [Tryz.f22, argEnv]
  (repeat' first | with_reducible (first | intro _ | refine rc ?_ | refine rl ?_ | refine rh ?_ | refine rt ?_ | refine rf ?_ | refine rs ?_ | refine And.intro ?_ ?_) | omega | simp (maxSteps := 1000000) only [go_sem, simprocAttr, ↓reduceIte, List.length_map])
  · rename_i h
    have : l = [] := List.eq_nil_of_length_eq_zero (by simpa using h)
    refine Ret.auto 1 ?_ rfl ?_ <;> simp only [go_sem, reduceCtorEq, reduceIte, Nat.reduceEqDiff, Nat.reduceLT, Nat.reduceLeDiff, Int.natCast_succ, Post, this, zrow, List.replicate_zero]
  · refine Ret.auto 1 ?_ rfl ?_ <;> simp only [go_sem, reduceCtorEq, reduceIte, Nat.reduceEqDiff, Nat.reduceLT, Nat.reduceLeDiff, Int.natCast_succ, Post, zrow, List.replicate_zero]
theorem isWd_len {s : Bytes} (h : isWd s = true) : s.length ≤ 40 := by
  unfold isWd at h
  simp only [Bool.and_eq_true, decide_eq_true_eq] at h
  exact h.1.1.1.2
set_option maxHeartbeats 4000000 in
theorem refNewDict_ok (l : List Wd) (hg : GoodD l) : FnOk Tryz.prog 37 [.ro (wdR l)] (.cell [.ro (wdR (sortW l))]) [] := by
  have hln := hg.len
  have kC := cloneWd_ok l (by omega)
  have kS := sortWd_io 87 (fun x y => FnFr.of_ok (refDict1_ok x y) rfl rfl) l (fun x hx => by
    obtain ⟨h1, h2⟩ := hg.wd x hx
    have := isWd_len h1
    unfold WdOk
    omega) hg.nd (by omega)
  generalize sortW l = R at *
  refine FnOk.of_vc Tryz.func37 rfl (by decide) (by simp [Tryz.f37]) [.tmp 2] rfl fun w0 T0 _ => ?_
  simp only [Tryz.f37, argEnv]
  (repeat' first | with_reducible (first | intro _ | refine rc ?_ | refine rl ?_ | refine rh ?_ | refine rt ?_ | refine rf ?_ | refine rs ?_ | refine And.intro ?_ ?_) | omega | simp (maxSteps := 1000000) only [go_sem, simprocAttr, ↓reduceIte])
  refine VcCall.fr (FnFr.of_ok kC rfl (by simp [noRoRows, noRoItem, noRoRow, noRoL, noRo, Wd.av])) (by simp only [noIdR_ok, argOkL, argOk, allOk, argOkN, List.drop_zero, lk, reduceIte, reduceCtorEq, Nat.reduceEqDiff, Option.some.injEq, Item.row.injEq, Item.box.injEq, AV.ro.injEq, exists_eq_left, exists_and_left, exists_eq_left', exists_eq_right, and_assoc, and_true, true_and, List.cons.injEq, exists_eq', exists_eq]) 1 rfl (by simp [rowsB, Item.below, belowR_ok]) ?_
  (repeat' first | with_reducible (first | intro _ | refine rc ?_ | refine rl ?_ | refine rh ?_ | refine rt ?_ | refine rf ?_ | refine rs ?_ | refine And.intro ?_ ?_) | omega | simp (maxSteps := 1000000) only [go_sem, simprocAttr, ↓reduceIte, renR_ok])
  refine VcCall.ioL [0] kS rfl (by simp [noRoRows, noRoItem, noRoRow, noRoL, noRo, Wd.av]) (by decide) ⟨_, _, .inl ⟨rfl, rfl⟩, ⟨_, _, .inr (by simp only [noIdR_ok, argOkL, argOk, allOk, argOkN, List.drop_zero, lk, reduceIte, reduceCtorEq, Nat.reduceEqDiff, Option.some.injEq, Item.row.injEq, Item.box.injEq, AV.ro.injEq, exists_eq_left, exists_and_left, exists_eq_left', exists_eq_right, and_assoc, and_true, true_and, List.cons.injEq, exists_eq', exists_eq, delL, del]), rfl, rfl⟩, rfl⟩ (by simp [subOk, ioN, lk, Item.ren, Item.below, renR_ok, belowR_ok]) covD1 1 (by decide) rfl (by simp [rowsB, Item.below, belowR, belowL, Fv.below, Wd.av]) ?_
  (repeat' first | with_reducible (first | intro _ | refine rc ?_ | refine rl ?_ | refine rh ?_ | refine rt ?_ | refine rf ?_ | refine rs ?_ | refine And.intro ?_ ?_) | omega | simp (maxSteps := 1000000) only [go_sem, simprocAttr, ↓reduceIte, S.ioS, ioRows, ioN, delL, Item.ren, renR_ok, noIdR_ok, List.length_cons, List.length_nil, List.length_map, Int.cast_ofNat_Int, List.getElem?_cons_zero, List.getElem?_cons_succ, List.cons_append, List.nil_append, Nat.reduceAdd, Nat.sub_self, Nat.add_zero, List.filter])
  refine Ret.ro ?_
  simp only [go_sem, reduceCtorEq, reduceIte, Nat.reduceEqDiff, Nat.reduceLT, Nat.reduceLeDiff, Int.natCast_succ, outOk, argOk, argOkN, allOk, noIdR_ok]
  exact ⟨_, _, [.ro (wdR R)], ⟨rfl, rfl⟩, ⟨_, _, argOkN_row (e := 56) rfl (noIdR_ok _), rfl, rfl⟩, rfl⟩
theorem ren_dKs (p : Nat → Nat) (l : List Wd) : renL p (dKs l) = dKs l := renL_kmap p (fun _ => rfl) _
theorem ren_dVs (p : Nat → Nat) (l : List Wd) : renL p (dVs l) = dVs l := renL_kmap p (fun _ => rfl) _
theorem below_dKs (n : Nat) (l : List Wd) : belowL n (dKs l) = true := belowL_kmap n (fun _ => rfl) _
theorem below_dVs (n : Nat) (l : List Wd) : belowL n (dVs l) = true := belowL_kmap n (fun _ => rfl) _
theorem mk_dKs (l : List Wd) (y : List AV) : mkL (dKs l) y = [] := mkL_kmap (fun _ => rfl) _ _
theorem mk_dVs (l : List Wd) (y : List AV) : mkL (dVs l) y = [] := mkL_kmap (fun _ => rfl) _ _
theorem ok_dKs (rows : List (Nat × Item)) (n : Nat) (l : List Wd) : allOk (argOkN rows (n + 1)) (dKs l) (dKs l) := allOk_get rfl fun j h1 h2 => by simp [dKs, argOkN]
theorem ok_dVs (rows : List (Nat × Item)) (n : Nat) (l : List Wd) : allOk (argOkN rows (n + 1)) (dVs l) (dVs l) := allOk_get rfl fun j h1 h2 => by simp [dVs, argOkN]
set_option maxHeartbeats 8000000 in
theorem newDict_any (l : List Wd) (E : Int) (hE : dictErr l = E) (out : AV) (hout0 : E = 0 → out = .cell [.mp (dKs l) (dVs l), .ro (.strs (wsD l))]) (hout1 : E ≠ 0 → out = .raw (.pointer none)) : FnOk Tryz.prog 21 [.ro (wdR l)] (.tup [out, .int .i64 E]) [] := by
  refine FnOk.of_vc Tryz.func21 rfl (by decide) (by simp [Tryz.f21]) [.tmp 2, .tmp 3] rfl fun w0 T0 _ => ?_
  simp only [Tryz.f21, argEnv]
  unfold dictErr at hE
  by_cases h0 : 5000 < l.length
  · rw [if_pos h0] at hE
    subst hE
    rw [hout1 (by decide)]
    (repeat' first | with_reducible (first | intro _ | refine rc ?_ | refine rl ?_ | refine rh ?_ | refine rt ?_ | refine rf ?_ | refine rs ?_ | refine And.intro ?_ ?_) | omega | simp (maxSteps := 1000000) only [go_sem, simprocAttr, ↓reduceIte, List.length_map])
    refine Ret.auto 0 ?_ rfl ?_ <;> simp only [go_sem, reduceCtorEq, reduceIte, Nat.reduceEqDiff, Nat.reduceLT, Nat.reduceLeDiff, Int.natCast_succ, Post]
  rw [if_neg h0] at hE
  (repeat' first | with_reducible (first | intro _ | refine rc ?_ | refine rl ?_ | refine rh ?_ | refine rt ?_ | refine rf ?_ | refine rs ?_ | refine And.intro ?_ ?_) | omega | simp (maxSteps := 1000000) only [go_sem, simprocAttr, ↓reduceIte, List.length_map])
  refine VcLoop.intro (fun i : Nat => ⟨64, [(15, .int .i64 i), (14, .int .i64 l.length), (13, .ro (wdR l)), (4, .ptr 1 0)], [(0, .map (dKs (l.take i)) (dVs (l.take i))), (1, .box 110 [.own 0, .own 2]), (2, .row 9 (.strs ((l.take i).map Wd.t)))], 3⟩) (fun i => i ≤ l.length ∧ (∀ w, w ∈ l.take i → 1 ≤ w.c) ∧ wdEs ((l.take i).map Wd.t) (l.drop i) = E) (fun i => l.length - i) 0 ?_ ⟨Nat.zero_le _, fun w hw => (by cases hw), hE⟩ fun i hi => ?_
  · refine Ent.trans (Ent.nilBox (P := Tryz.prog) 1 1 9 e9 rfl rfl) (Ent.auto0 rfl ?_ ?_) <;> simp only [go_sem, reduceCtorEq, reduceIte, Nat.reduceEqDiff, Nat.reduceLT, Nat.reduceLeDiff, Int.natCast_succ, List.take_zero, List.map_nil, zrow, put, List.set_cons_zero, List.set_cons_succ, List.replicate_zero, ren_dKs, ren_dVs, below_dKs, below_dVs, mk_dKs, mk_dVs]
    all_goals rfl
  obtain ⟨hi, hall, hc⟩ := hi
  by_cases hlt : i < l.length
  · have he := wd_elem l hlt
    rw [wdEs_take l hlt] at hc
    have ht : l.take (i + 1) = l.take i ++ [l.getD i Wd.zero] := by rw [List.take_succ_eq_append_getElem hlt, getD_lt hlt]
    have hnm : (l.getD i Wd.zero).t ∉ (l.take i).map Wd.t → cntD (l.take i) (l.getD i Wd.zero).t = 0 := cntD_none
    generalize l.getD i Wd.zero = y at *
    have e2 := fun h => @updKs_d (l.take i) y h
    have e3 := fun h => @updVs_d (l.take i) y h
    have e4 := isI_d (l.take i)
    have e5 : KeysT Tryz.prog 9 (dKs (l.take i)) := keysT_d (by kernel_rfl) _
    have hL0 : (l.take i).length ≤ 5000 := by rw [List.length_take]; omega
    rw [← ht] at e2 e3
    have ht2 : (l.take (i + 1)).map Wd.t = (l.take i).map Wd.t ++ [y.t] := by rw [ht, List.map_append]; rfl
    generalize hL1 : l.take (i + 1) = L1 at *
    have kh := hasD_ok (l.take i) ((l.take i).map Wd.t) y.t
    have hpos : y.t ∈ (l.take i).map Wd.t → (∀ w, w ∈ l.take i → 1 ≤ w.c) → 0 < cntD (l.take i) y.t := fun hm hall => by
      have key : ∀ L : List Wd, y.t ∈ L.map Wd.t → (∀ w, w ∈ L → 1 ≤ w.c) → 0 < cntD L y.t := by
        intro L
        induction L with
        | nil => intro h _; cases h
        | cons v L ih =>
          intro h hall
          rw [cntD_cons]
          have hv := hall v List.mem_cons_self
          by_cases hvt : v.t = y.t
          · rw [if_pos hvt]; omega
          · rw [if_neg hvt]
            rcases List.mem_cons.1 h with h | h
            · exact absurd h.symm hvt
            · exact ih h fun w hw => hall w (List.mem_cons_of_mem _ hw)
      exact key _ hm hall
    generalize l.take i = L0 at *
    have kw := isWordA_ok y.t
    unfold wdE at hc
    obtain ⟨yt, yc⟩ := y
    dsimp only at he hc e2 e3 kw kh hnm hpos ht2
    cases hw : isWd yt with
    | false =>
      rw [hw] at kw
      rw [if_neg (by rw [if_pos hw]; decide), if_pos hw] at hc
      subst hc
      rw [hout1 (by decide)]
      (repeat' first | with_reducible (first | intro _ | refine rc ?_ | refine rl ?_ | refine rh ?_ | refine rt ?_ | refine rf ?_ | refine rs ?_ | refine And.intro ?_ ?_) | omega | simp (maxSteps := 1000000) only [go_sem, simprocAttr, ↓reduceIte, elemA, he, List.length_map])
      refine VcCall.k (kw) ?_
      (repeat' first | with_reducible (first | intro _ | refine rc ?_ | refine rl ?_ | refine rh ?_ | refine rt ?_ | refine rf ?_ | refine rs ?_ | refine And.intro ?_ ?_) | omega | simp (maxSteps := 1000000) only [go_sem, simprocAttr, ↓reduceIte])
      refine Ret.auto 0 ?_ rfl ?_ <;> simp only [go_sem, reduceCtorEq, reduceIte, Nat.reduceEqDiff, Nat.reduceLT, Nat.reduceLeDiff, Int.natCast_succ, Post]
    | true =>
      rw [hw] at kw
      rw [if_neg (show ¬ isWd yt = false by rw [hw]; decide)] at hc
      by_cases hr : yc < 1 ∨ 1000000000 < yc
      · rw [if_neg (by rw [if_pos hr]; decide), if_pos hr] at hc
        subst hc
        rw [hout1 (by decide)]
        (repeat' first | with_reducible (first | intro _ | refine rc ?_ | refine rl ?_ | refine rh ?_ | refine rt ?_ | refine rf ?_ | refine rs ?_ | refine And.intro ?_ ?_) | omega | simp (maxSteps := 1000000) only [go_sem, simprocAttr, ↓reduceIte, elemA, he, List.length_map])
        refine VcCall.k (kw) ?_
        (repeat' first | with_reducible (first | intro _ | refine rc ?_ | refine rl ?_ | refine rh ?_ | refine rt ?_ | refine rf ?_ | refine rs ?_ | refine And.intro ?_ ?_) | omega | simp (maxSteps := 1000000) only [go_sem, simprocAttr, ↓reduceIte, hr])
        refine Ret.auto 0 ?_ rfl ?_ <;> simp only [go_sem, reduceCtorEq, reduceIte, Nat.reduceEqDiff, Nat.reduceLT, Nat.reduceLeDiff, Int.natCast_succ, Post]
      · rw [if_neg hr] at hc
        by_cases hm : yt ∈ L0.map Wd.t
        · rw [decide_eq_true (hpos hm hall)] at kh
          rw [if_neg (by rw [if_pos hm]; decide), if_pos hm] at hc
          subst hc
          rw [hout1 (by decide)]
          (repeat' first | with_reducible (first | intro _ | refine rc ?_ | refine rl ?_ | refine rh ?_ | refine rt ?_ | refine rf ?_ | refine rs ?_ | refine And.intro ?_ ?_) | omega | simp (maxSteps := 1000000) only [go_sem, simprocAttr, ↓reduceIte, elemA, he, List.length_map])
          refine VcCall.k (kw) ?_
          (repeat' first | with_reducible (first | intro _ | refine rc ?_ | refine rl ?_ | refine rh ?_ | refine rt ?_ | refine rf ?_ | refine rs ?_ | refine And.intro ?_ ?_) | omega | simp (maxSteps := 1000000) only [go_sem, simprocAttr, ↓reduceIte, hr])
          refine VcCall.fr (FnFr.of_ok kh rfl rfl) ?_ 0 rfl (by simp [rowsB]) ?_
          · exact ⟨_, _, ⟨_, _, [.mp (dKs L0) (dVs L0), .ro (.strs (L0.map Wd.t))], rfl, ⟨_, _, argOkN_map rfl (ok_dKs _ _ _) (ok_dVs _ _ _), ⟨_, _, argOkN_row (e := 9) rfl (noIdR_ok _), rfl, rfl⟩, rfl⟩, rfl⟩, ⟨_, _, rfl, rfl, rfl⟩, rfl⟩
          (repeat' first | with_reducible (first | intro _ | refine rc ?_ | refine rl ?_ | refine rh ?_ | refine rt ?_ | refine rf ?_ | refine rs ?_ | refine And.intro ?_ ?_) | omega | simp (maxSteps := 1000000) only [go_sem, simprocAttr, ↓reduceIte])
          refine Ret.auto 0 ?_ rfl ?_ <;> simp only [go_sem, reduceCtorEq, reduceIte, Nat.reduceEqDiff, Nat.reduceLT, Nat.reduceLeDiff, Int.natCast_succ, Post]
        · rw [hnm hm, decide_eq_false (by omega)] at kh
          rw [if_pos (by rw [if_neg hm])] at hc
          have e2 := e2 hm
          have e3 := e3 hm
          (repeat' first | with_reducible (first | intro _ | refine rc ?_ | refine rl ?_ | refine rh ?_ | refine rt ?_ | refine rf ?_ | refine rs ?_ | refine And.intro ?_ ?_) | omega | simp (maxSteps := 1000000) only [go_sem, simprocAttr, ↓reduceIte, elemA, he, List.length_map])
          refine VcCall.k (kw) ?_
          (repeat' first | with_reducible (first | intro _ | refine rc ?_ | refine rl ?_ | refine rh ?_ | refine rt ?_ | refine rf ?_ | refine rs ?_ | refine And.intro ?_ ?_) | omega | simp (maxSteps := 1000000) only [go_sem, simprocAttr, ↓reduceIte, hr])
          refine VcCall.fr (FnFr.of_ok kh rfl rfl) ?_ 0 rfl (by simp [rowsB]) ?_
          · exact ⟨_, _, ⟨_, _, [.mp (dKs L0) (dVs L0), .ro (.strs (L0.map Wd.t))], rfl, ⟨_, _, argOkN_map rfl (ok_dKs _ _ _) (ok_dVs _ _ _), ⟨_, _, argOkN_row (e := 9) rfl (noIdR_ok _), rfl, rfl⟩, rfl⟩, rfl⟩, ⟨_, _, rfl, rfl, rfl⟩, rfl⟩
          (repeat' first | with_reducible (first | intro _ | refine rc ?_ | refine rl ?_ | refine rh ?_ | refine rt ?_ | refine rf ?_ | refine rs ?_ | refine And.intro ?_ ?_) | omega | simp (maxSteps := 1000000) only [go_sem, simprocAttr, ↓reduceIte])
          refine VcDraw.lex [8] [] (by kernel_rfl) (by kernel_rfl) ?_
          (repeat' first | with_reducible (first | intro _ | refine rc ?_ | refine rl ?_ | refine rh ?_ | refine rt ?_ | refine rf ?_ | refine rs ?_ | refine And.intro ?_ ?_) | omega | simp (maxSteps := 1000000) only [go_sem, simprocAttr, ↓reduceIte, e2, e3, e4, e5])
          refine VcDraw.lex [7, 8, 11] [(0, [1, 2]), (1, [1]), (2, [1]), (3, [1]), (4, [1])] (by kernel_rfl) (by kernel_rfl) ?_
          (repeat' first | with_reducible (first | intro _ | refine rc ?_ | refine rl ?_ | refine rh ?_ | refine rt ?_ | refine rf ?_ | refine rs ?_ | refine And.intro ?_ ?_) | omega | simp (maxSteps := 1000000) only [go_sem, simprocAttr, ↓reduceIte, List.length_map])
          refine ⟨i + 1, Ent.auto0 rfl ?_ ?_, ⟨by omega, fun w hw => ?_, by rw [hL1]; exact hc⟩, by omega⟩
          · simp only [go_sem, reduceCtorEq, reduceIte, Nat.reduceEqDiff, Nat.reduceLT, Nat.reduceLeDiff, Int.natCast_succ, hL1, ht2, ren_dKs, ren_dVs, below_dKs, below_dVs, mk_dKs, mk_dVs]
          · simp only [go_sem, reduceCtorEq, reduceIte, Nat.reduceEqDiff, Nat.reduceLT, Nat.reduceLeDiff, Int.natCast_succ, hL1, ht2, ren_dKs, ren_dVs, below_dKs, below_dVs, mk_dKs, mk_dVs]
          · rw [hL1, ht] at hw
            rcases List.mem_append.1 hw with hw | hw
            · exact hall w hw
            · rw [List.mem_singleton.1 hw]; dsimp only; omega
  · have e : i = l.length := by omega
    subst e
    rw [List.drop_length] at hc
    rw [List.take_length]
    subst hc
    rw [hout0 rfl]
    have kS := sortStrs_io Tryz.lSoS ⟨_, Tryz.func68, by kernel_rfl, by kernel_rfl⟩ 9 (l.map Wd.t) (by rw [List.length_map]; omega)
    rw [show sortS (l.map Wd.t) = wsD l from rfl] at kS
    generalize wsD l = ws at *
    (repeat' first | with_reducible (first | intro _ | refine rc ?_ | refine rl ?_ | refine rh ?_ | refine rt ?_ | refine rf ?_ | refine rs ?_ | refine And.intro ?_ ?_) | omega | simp (maxSteps := 1000000) only [go_sem, simprocAttr, ↓reduceIte, List.length_map])
    refine VcCall.ioL [2] kS rfl rfl (by decide) ⟨.own 0, [], .inl ⟨rfl, rfl⟩, rfl, rfl⟩ (by simp [subOk, ioN, lk, Item.ren, Item.below, renR_ok, belowR_ok]) covD1 1 (by decide) rfl (by simp [rowsB, Item.below, belowR, belowL, Fv.below]) ?_
    (repeat' first | with_reducible (first | intro _ | refine rc ?_ | refine rl ?_ | refine rh ?_ | refine rt ?_ | refine rf ?_ | refine rs ?_ | refine And.intro ?_ ?_) | omega | simp (maxSteps := 1000000) only [go_sem, simprocAttr, ↓reduceIte, S.ioS, ioRows, ioN, delL, Item.ren, renR_ok, noIdR_ok, ren_dKs, ren_dVs, List.length_cons, List.length_nil, List.length_map, Int.cast_ofNat_Int, List.getElem?_cons_zero, List.getElem?_cons_succ, List.cons_append, List.nil_append, Nat.reduceAdd, Nat.sub_self, Nat.add_zero, List.filter])
    refine Ret.ro ?_
    simp only [go_sem, reduceCtorEq, reduceIte, Nat.reduceEqDiff, Nat.reduceLT, Nat.reduceLeDiff, Int.natCast_succ, outOk, argOk, argOkN, allOk, noIdR_ok, wdEs]
    exact ⟨_, ⟨_, _, ⟨_, _, [.mp (dKs l) (dVs l), .ro (.strs ws)], rfl, ⟨_, _, argOkN_map rfl (ok_dKs _ _ _) (ok_dVs _ _ _), ⟨_, _, argOkN_row (e := 9) rfl (noIdR_ok _), rfl, rfl⟩, rfl⟩, rfl⟩, ⟨_, _, rfl, rfl, rfl⟩, rfl⟩, rfl⟩
end Go.Fv.Y

/- The laws' dict: those of the words that make a right dictionary. -/
namespace Go.Fv.Y
open Go Go.Proofs
set_option linter.unusedSimpArgs false
set_option linter.unusedVariables false
set_option linter.unnecessarySimpa false
set_option maxRecDepth 8000

def addD (l : List Wd) (w : Wd) : List Wd := if dictErr (l ++ [w]) = 0 then l ++ [w] else l
def dOf (l : List Wd) : List Wd := l.foldl addD []
theorem dOf_take {l : List Wd} {i : Nat} (h : i < l.length) : dOf (l.take (i + 1)) = addD (dOf (l.take i)) (l.getD i Wd.zero) := by
  unfold dOf
  rw [List.take_succ_eq_append_getElem h, List.foldl_append, getD_lt h]; rfl
theorem foldl_addD_ok : ∀ (l s : List Wd), dictErr s = 0 → dictErr (l.foldl addD s) = 0
  | [], s, h => h
  | w :: l, s, h => by
    apply foldl_addD_ok l
    unfold addD
    split
    · assumption
    · exact h
theorem dOf_ok (l : List Wd) : dictErr (dOf l) = 0 := foldl_addD_ok l [] (by simp [dictErr, wdEs])
theorem foldl_addD_len : ∀ (l s : List Wd), (l.foldl addD s).length ≤ s.length + l.length
  | [], s => Nat.le_refl _
  | w :: l, s => by
    have := foldl_addD_len l (addD s w)
    have h : (addD s w).length ≤ s.length + 1 := by unfold addD; split <;> simp
    rw [List.foldl_cons, List.length_cons]; omega
theorem dOf_len (l : List Wd) : (dOf l).length ≤ l.length := by
  have := foldl_addD_len l []
  simpa [dOf] using this
set_option maxHeartbeats 8000000 in
theorem dict_ok (L : List Wd) (D : List Wd) (hD : dOf (L.take 30) = D) : FnOk Tryz.prog 9 [.ro (wdR L)] (.tup [.cell [.mp (dKs D) (dVs D), .ro (.strs (wsD D))], .cell [.ro (wdR (sortW D))], .bool true]) [] := by
  have hg : GoodD D := dictErr_zero (by rw [← hD]; exact dOf_ok _)
  have hD0 : dictErr D = 0 := by rw [← hD]; exact dOf_ok _
  have kN := newDict_any D 0 hD0 _ (fun _ => rfl) (fun h => absurd rfl h)
  have kR := refNewDict_ok D hg
  refine FnOk.of_vc Tryz.func9 rfl (by decide) (by simp [Tryz.f9]) [.tmp 2, .tmp 3, .tmp 4] rfl fun w0 T0 _ => ?_
  simp only [Tryz.f9, argEnv]
  have hn : ∃ n : Nat, min (L.length : Int) 30 = (n : Int) ∧ n ≤ L.length ∧ L.take 30 = L.take n ∧ n ≤ 30 := by
    by_cases h : L.length ≤ 30
    · exact ⟨L.length, by omega, Nat.le_refl _, by rw [List.take_of_length_le h, List.take_of_length_le (Nat.le_refl _)], h⟩
    · exact ⟨30, by omega, by omega, rfl, Nat.le_refl _⟩
  obtain ⟨n, hm2, hnL, hnt, hn30⟩ := hn
  rw [hnt] at hD
  have hnl : (L.take n).length = n := by rw [List.length_take]; omega
  have hsub : List.take n (L.map Wd.av) = (L.take n).map Wd.av := List.map_take.symm
  (repeat' first | with_reducible (first | intro _ | refine rc ?_ | refine rl ?_ | refine rh ?_ | refine rt ?_ | refine rf ?_ | refine rs ?_ | refine And.intro ?_ ?_) | omega | simp (maxSteps := 1000000) only [go_sem, simprocAttr, ↓reduceIte, List.length_map, hm2, Int.toNat_natCast, Nat.sub_zero, hsub])
  generalize L.take n = l at *
  refine VcLoop.run (fun i : Nat => ⟨46, [(16, .int .i64 i), (15, .int .i64 n), (14, .ro (wdR l)), (5, .own 0)], [(0, .row 56 (wdR (dOf (l.take i))))], 1⟩) (fun i => i ≤ n) (fun i => n - i) 0 ?_ (Nat.zero_le _) fun i hi => ?_
  · refine Ent.auto0 rfl ?_ ?_ <;> simp only [go_sem, reduceCtorEq, reduceIte, Nat.reduceEqDiff, Nat.reduceLT, Nat.reduceLeDiff, Int.natCast_succ]
    all_goals first | rfl | (rw [hnl]) | omega
  by_cases hlt : i < n
  · have he := wd_elem l (i := i) (by omega)
    have hst := dOf_take (l := l) (i := i) (by omega)
    have hdl := dOf_len (l.take i)
    have hdl2 : (l.take i).length ≤ n := by rw [List.length_take]; omega
    have kC := cloneWd_ok (dOf (l.take i)) (by omega)
    have kE := refDictError_ok (dOf (l.take i) ++ [l.getD i Wd.zero])
    unfold addD at hst
    generalize dOf (l.take i) = S at *
    generalize hS : dOf (l.take (i + 1)) = S' at *
    generalize l.getD i Wd.zero = z at *
    obtain ⟨zt, zc⟩ := z
    dsimp only at he
    have hw := wd_snoc S zt zc
    refine VcRun.of ?_
    (repeat' first | with_reducible (first | intro _ | refine rc ?_ | refine rl ?_ | refine rh ?_ | refine rt ?_ | refine rf ?_ | refine rs ?_ | refine And.intro ?_ ?_) | omega | simp (maxSteps := 1000000) only [go_sem, simprocAttr, ↓reduceIte, elemA, he, hnl, List.length_map])
    have hz : (wdR (S ++ [⟨zt, zc⟩])) = .objs 2 (S.map Wd.av ++ [[.str zt, .int .i64 zc]]) := by unfold wdR; rw [hw]
    generalize hE : dictErr (S ++ [⟨zt, zc⟩]) = E at *
    refine VcDraw.cut (.first 0 (.cons 1 (.cons 2 (.cons 3 (.cons 4 (.cons 5 (.cons 6 .done .stop) .stop) .stop) .stop) .stop) (.cons 2 (.cons 1 (.cons 3 (.cons 4 (.cons 5 (.cons 6 .done .stop) .stop) .stop) .stop) (.cons 3 (.cons 1 (.cons 4 (.cons 5 (.cons 6 .done .stop) .stop) .stop) .stop) .stop)) .stop))) (by kernel_rfl) (by kernel_rfl) (by kernel_rfl)
      ⟨46, [(26, .bool (decide (E = 0))), (16, .int .i64 i), (15, .int .i64 n), (14, .ro (wdR l)), (5, .own 0), (7, .ptr 1 0)], [(0, .row 56 (wdR S)), (1, .box 56 [.str zt, .int .i64 zc])], 2⟩ ?_ ?_
    · (repeat' first | with_reducible (first | intro _ | refine rc ?_ | refine rl ?_ | refine rh ?_ | refine rt ?_ | refine rf ?_ | refine rs ?_ | refine And.intro ?_ ?_) | omega | simp (maxSteps := 1000000) only [go_sem, simprocAttr, ↓reduceIte])
      all_goals
        refine VcCall.fr (FnFr.of_ok kC rfl (by simp [noRoRows, noRoItem, noRoRow, noRoL, noRo, wdR, Wd.av])) (by simp only [noIdR_ok, argOkL, argOk, allOk, argOkN, List.drop_zero, lk, reduceIte, reduceCtorEq, Nat.reduceEqDiff, Option.some.injEq, Item.row.injEq, Item.box.injEq, AV.ro.injEq, exists_eq_left, exists_and_left, exists_eq_left', exists_eq_right, and_assoc, and_true, true_and, List.cons.injEq, exists_eq', exists_eq, wdR]) 1 rfl (by simp [rowsB, Item.below, wdR, belowR_ok]) ?_
        (repeat' first | with_reducible (first | intro _ | refine rc ?_ | refine rl ?_ | refine rh ?_ | refine rt ?_ | refine rf ?_ | refine rs ?_ | refine And.intro ?_ ?_) | omega | simp (maxSteps := 1000000) only [go_sem, simprocAttr, ↓reduceIte, wdR, hw, List.length_map])
        refine VcCall.fr (FnFr.of_ok kE rfl rfl) (by simp only [noIdR_ok, argOkL, argOk, allOk, argOkN, List.drop_zero, lk, reduceIte, reduceCtorEq, Nat.reduceEqDiff, Option.some.injEq, Item.row.injEq, Item.box.injEq, AV.ro.injEq, exists_eq_left, exists_and_left, exists_eq_left', exists_eq_right, and_assoc, and_true, true_and, List.cons.injEq, exists_eq', exists_eq, wdR]) 0 rfl (by simp [rowsB]) ?_
        (repeat' first | with_reducible (first | intro _ | refine rc ?_ | refine rl ?_ | refine rh ?_ | refine rt ?_ | refine rf ?_ | refine rs ?_ | refine And.intro ?_ ?_) | omega | simp (maxSteps := 1000000) only [go_sem, simprocAttr, ↓reduceIte])
        refine Ent.auto0 rfl ?_ ?_ <;> simp only [go_sem, reduceCtorEq, reduceIte, Nat.reduceEqDiff, Nat.reduceLT, Nat.reduceLeDiff, Int.natCast_succ, wdR]
    · by_cases h0 : E = 0
      · rw [if_pos h0] at hst
        subst hst
        (repeat' first | with_reducible (first | intro _ | refine rc ?_ | refine rl ?_ | refine rh ?_ | refine rt ?_ | refine rf ?_ | refine rs ?_ | refine And.intro ?_ ?_) | omega | simp (maxSteps := 1000000) only [go_sem, simprocAttr, ↓reduceIte, h0, wdR, hw, List.length_map])
        refine ⟨i + 1, Ent.auto0 rfl ?_ ?_, by omega, by omega⟩ <;> simp only [go_sem, reduceCtorEq, reduceIte, Nat.reduceEqDiff, Nat.reduceLT, Nat.reduceLeDiff, Int.natCast_succ, wdR, hS]
      · rw [if_neg h0] at hst
        subst hst
        (repeat' first | with_reducible (first | intro _ | refine rc ?_ | refine rl ?_ | refine rh ?_ | refine rt ?_ | refine rf ?_ | refine rs ?_ | refine And.intro ?_ ?_) | omega | simp (maxSteps := 1000000) only [go_sem, simprocAttr, ↓reduceIte, h0, wdR, List.length_map])
        refine ⟨i + 1, Ent.auto0 rfl ?_ ?_, by omega, by omega⟩ <;> simp only [go_sem, reduceCtorEq, reduceIte, Nat.reduceEqDiff, Nat.reduceLT, Nat.reduceLeDiff, Int.natCast_succ, wdR, hS]
  · have e : i = n := by omega
    subst e
    rw [← hnl, List.take_length, hD]
    refine VcRun.ent (Ent.trans (Ent.fz 0 (e := 56) (r := wdR D) rfl (noIdR_ok _) (Nat.zero_le _)) (Ent.auto0 (s' := ⟨46, [(16, .int .i64 l.length), (15, .int .i64 l.length), (5, .ro (wdR D))], [], 0⟩) rfl ?_ ?_)) (VcRun.of ?_)
    · simp only [go_sem, reduceCtorEq, reduceIte, Nat.reduceEqDiff, Nat.reduceLT, Nat.reduceLeDiff, Int.natCast_succ]
    · simp only [go_sem, reduceCtorEq, reduceIte, Nat.reduceEqDiff, Nat.reduceLT, Nat.reduceLeDiff, Int.natCast_succ]
    (repeat' first | with_reducible (first | intro _ | refine rc ?_ | refine rl ?_ | refine rh ?_ | refine rt ?_ | refine rf ?_ | refine rs ?_ | refine And.intro ?_ ?_) | omega | simp (maxSteps := 1000000) only [go_sem, simprocAttr, ↓reduceIte])
    refine VcCall.ros (.tup [.cell [.mp (dKs D) (dVs D), .ro (.strs (wsD D))], .int .i64 0]) kN (by simp only [noIdR_ok, argOkL, argOk, allOk, argOkN, List.drop_zero, lk, reduceIte, reduceCtorEq, Nat.reduceEqDiff, Option.some.injEq, Item.row.injEq, Item.box.injEq, AV.ro.injEq, exists_eq_left, exists_and_left, exists_eq_left', exists_eq_right, and_assoc, and_true, true_and, List.cons.injEq, exists_eq', exists_eq]) (by simp [outOk, argOkL, allOk, argOk, argOkN, lk, noIdR_ok]) (by simp [noId, noIdL, noIdR_ok, dKs, dVs]) ?_
    (repeat' first | with_reducible (first | intro _ | refine rc ?_ | refine rl ?_ | refine rh ?_ | refine rt ?_ | refine rf ?_ | refine rs ?_ | refine And.intro ?_ ?_) | omega | simp (maxSteps := 1000000) only [go_sem, simprocAttr, ↓reduceIte])
    refine VcCall.ros (.cell [.ro (wdR (sortW D))]) kR (by simp only [noIdR_ok, argOkL, argOk, allOk, argOkN, List.drop_zero, lk, reduceIte, reduceCtorEq, Nat.reduceEqDiff, Option.some.injEq, Item.row.injEq, Item.box.injEq, AV.ro.injEq, exists_eq_left, exists_and_left, exists_eq_left', exists_eq_right, and_assoc, and_true, true_and, List.cons.injEq, exists_eq', exists_eq]) (by simp [outOk, argOkL, allOk, argOk, argOkN, lk, noIdR_ok]) (by simp [noId, noIdL, noIdR_ok]) ?_
    (repeat' first | with_reducible (first | intro _ | refine rc ?_ | refine rl ?_ | refine rh ?_ | refine rt ?_ | refine rf ?_ | refine rs ?_ | refine And.intro ?_ ?_) | omega | simp (maxSteps := 1000000) only [go_sem, simprocAttr, ↓reduceIte])
    refine Ret.ro ?_
    simp only [go_sem, reduceCtorEq, reduceIte, Nat.reduceEqDiff, Nat.reduceLT, Nat.reduceLeDiff, Int.natCast_succ, outOk, argOk, argOkN, allOk, noIdR_ok]
    exact ⟨_, by simp [argOkL, allOk, argOk, argOkN, lk, noIdR_ok], rfl⟩
end Go.Fv.Y

/- The law CorrectsMatch. -/
namespace Go.Fv.Y
open Go Go.Proofs
set_option linter.unusedSimpArgs false
set_option linter.unusedVariables false
set_option linter.unnecessarySimpa false
set_option maxRecDepth 8000

theorem fx_elem (l : List Fx) {i : Nat} (h : i < l.length) : (l.map Fx.av).getD i [] = [.int .i64 (l.getD i Fx.zero).a, .str (l.getD i Fx.zero).o, .str (l.getD i Fx.zero).n] := by
  rw [List.getD_eq_getElem?_getD, List.getElem?_map, List.getElem?_eq_getElem h, getD_lt h]; rfl
set_option maxHeartbeats 2000000 in
theorem equalFx_ok (l : List Fx) : FnOk Tryz.prog 19 [.ro (fxR l), .ro (fxR l)] (.bool true) [] := by
  refine FnOk.of_vc Tryz.func19 rfl (by decide) (by simp [Tryz.f19]) [.tmp 4] rfl fun w0 T0 _ => ?_
  simp only [Tryz.f19, argEnv]
  (repeat' first | with_reducible (first | intro _ | refine rc ?_ | refine rl ?_ | refine rh ?_ | refine rt ?_ | refine rf ?_ | refine rs ?_ | refine And.intro ?_ ?_) | omega | simp (maxSteps := 1000000) only [go_sem, simprocAttr, ↓reduceIte, fxR, List.length_map])
  refine VcLoop.intro (fun i : Nat => ⟨26, [(0, .ro (fxR l)), (1, .ro (fxR l)), (12, .int .i64 l.length), (13, .int .i64 i)], [], 0⟩) (fun i => i ≤ l.length) (fun i => l.length - i) 0 ?_ (Nat.zero_le _) fun i hi => ?_
  · refine Ent.auto0 rfl ?_ ?_ <;> simp only [go_sem, reduceCtorEq, reduceIte, Nat.reduceEqDiff, Nat.reduceLT, Nat.reduceLeDiff, Int.natCast_succ, fxR]
  by_cases hlt : i < l.length
  · have e1 := fx_elem l hlt
    generalize l.getD i Fx.zero = x at *
    (repeat' first | with_reducible (first | intro _ | refine rc ?_ | refine rl ?_ | refine rh ?_ | refine rt ?_ | refine rf ?_ | refine rs ?_ | refine And.intro ?_ ?_) | omega | simp (maxSteps := 1000000) only [go_sem, simprocAttr, ↓reduceIte, elemA, e1, fxR, List.length_map])
    refine VcDraw.lex [] [] (by kernel_rfl) (by kernel_rfl) ?_
    (repeat' first | with_reducible (first | intro _ | refine rc ?_ | refine rl ?_ | refine rh ?_ | refine rt ?_ | refine rf ?_ | refine rs ?_ | refine And.intro ?_ ?_) | omega | simp (maxSteps := 1000000) only [go_sem, simprocAttr, ↓reduceIte, elemA, e1, fxR, List.length_map])
    refine ⟨i + 1, Ent.auto0 rfl ?_ ?_, by omega, by omega⟩ <;> simp only [go_sem, reduceCtorEq, reduceIte, Nat.reduceEqDiff, Nat.reduceLT, Nat.reduceLeDiff, Int.natCast_succ, fxR]
  · (repeat' first | with_reducible (first | intro _ | refine rc ?_ | refine rl ?_ | refine rh ?_ | refine rt ?_ | refine rf ?_ | refine rs ?_ | refine And.intro ?_ ?_) | omega | simp (maxSteps := 1000000) only [go_sem, simprocAttr, ↓reduceIte])
    refine Ret.auto 0 ?_ rfl ?_ <;> simp only [go_sem, reduceCtorEq, reduceIte, Nat.reduceEqDiff, Nat.reduceLT, Nat.reduceLeDiff, Int.natCast_succ, Post]
theorem madeF_drop {s : Bytes} {l : List Fx} {i : Nat} (h : i < l.length) (q : Nat) : madeF s q (l.drop i) = (s.drop q).take ((l.getD i Fx.zero).a.toNat - q) ++ (l.getD i Fx.zero).n ++ madeF s ((l.getD i Fx.zero).a.toNat + (l.getD i Fx.zero).o.length) (l.drop (i + 1)) := by
  rw [List.drop_eq_getElem_cons h, getD_lt h]; rfl
theorem fxOk_drop {s : Bytes} {l : List Fx} {i : Nat} (h : i < l.length) {q : Nat} (hx : FxOk s q (l.drop i)) : ∃ p : Nat, (l.getD i Fx.zero).a = (p : Int) ∧ q ≤ p ∧ p + (l.getD i Fx.zero).o.length ≤ s.length ∧ (s.drop p).take (l.getD i Fx.zero).o.length = (l.getD i Fx.zero).o ∧ FxOk s (p + (l.getD i Fx.zero).o.length) (l.drop (i + 1)) := by
  rw [List.drop_eq_getElem_cons h, ← getD_lt (d := Fx.zero) h] at hx
  exact hx
structure MI where
  i : Nat
  m : Bytes
  q : Nat
set_option maxHeartbeats 32000000 in
theorem correctsMatch_ok (s0 : Bytes) (L : List Wd) (l0 : List Mx) (most : Int) (raw : Bool) : FnOk Tryz.prog 5 [.str s0, .ro (wdR L), .ro (mxs l0), .int .i64 most, .bool raw] (.bool true) [] := by
  have kn := correctNil_ok s0 l0 most
  have k0 := mixes_ok l0
  have kd := dict_ok L _ rfl
  have hg : GoodD (dOf (L.take 30)) := dictErr_zero (dOf_ok _)
  have hl : (dOf (L.take 30)).length < 40 := by
    have := dOf_len (L.take 30)
    rw [List.length_take] at this; omega
  generalize dOf (L.take 30) = D at *
  have hn : ∃ n : Nat, min (s0.length : Int) 400 = (n : Int) ∧ n ≤ s0.length ∧ n ≤ 400 := by
    by_cases h : s0.length ≤ 400
    · exact ⟨s0.length, by omega, by omega, by omega⟩
    · exact ⟨400, by omega, by omega, by omega⟩
  obtain ⟨n, hm2, hn, hn4⟩ := hn
  have hsl : (s0.take n).length ≤ 400 := by rw [List.length_take]; omega
  refine FnOk.of_vc Tryz.func5 rfl (by decide) (by simp [Tryz.f5]) [.tmp 10] rfl fun w0 T0 _ => ?_
  simp only [Tryz.f5, argEnv]
  (repeat' first | with_reducible (first | intro _ | refine rc ?_ | refine rl ?_ | refine rh ?_ | refine rt ?_ | refine rf ?_ | refine rs ?_ | refine And.intro ?_ ?_) | omega | simp (maxSteps := 1000000) only [go_sem, simprocAttr, ↓reduceIte])
  refine VcCall.k (landed_ok) ?_
  (repeat' first | with_reducible (first | intro _ | refine rc ?_ | refine rl ?_ | refine rh ?_ | refine rt ?_ | refine rf ?_ | refine rs ?_ | refine And.intro ?_ ?_) | omega | simp (maxSteps := 1000000) only [go_sem, simprocAttr, ↓reduceIte])
  refine VcCall.ro (.tup [.str [], .ro (fxR []), .int .i64 2]) (FnFr.of_ok kn rfl (by simp [noRoRows, noRoItem, noRoRow, noRoL, noRo, fxR, Fx.av])) (by simp only [noIdR_ok, argOkL, argOk, allOk, argOkN, List.drop_zero, lk, reduceIte, reduceCtorEq, Nat.reduceEqDiff, Option.some.injEq, Item.row.injEq, Item.box.injEq, AV.ro.injEq, exists_eq_left, exists_and_left, exists_eq_left', exists_eq_right, and_assoc, and_true, true_and, List.cons.injEq, exists_eq', exists_eq]) (by simp [outOk, argOkL, allOk, argOk, argOkN, lk, noIdR_ok, fxR]) rfl ?_
  (repeat' first | with_reducible (first | intro _ | refine rc ?_ | refine rl ?_ | refine rh ?_ | refine rt ?_ | refine rf ?_ | refine rs ?_ | refine And.intro ?_ ?_) | omega | simp (maxSteps := 1000000) only [go_sem, simprocAttr, ↓reduceIte])
  refine VcCall.ros (.tup [.cell [.mp (dKs D) (dVs D), .ro (.strs (wsD D))], .cell [.ro (wdR (sortW D))], .bool true]) kd (by simp only [noIdR_ok, argOkL, argOk, allOk, argOkN, List.drop_zero, lk, reduceIte, reduceCtorEq, Nat.reduceEqDiff, Option.some.injEq, Item.row.injEq, Item.box.injEq, AV.ro.injEq, exists_eq_left, exists_and_left, exists_eq_left', exists_eq_right, and_assoc, and_true, true_and, List.cons.injEq, exists_eq', exists_eq]) (by simp [outOk, argOkL, allOk, argOk, argOkN, lk, noIdR_ok]) (by simp [noId, noIdL, noIdR_ok, dKs, dVs]) ?_
  cases raw
  case' false =>
    (repeat' first | with_reducible (first | intro _ | refine rc ?_ | refine rl ?_ | refine rh ?_ | refine rt ?_ | refine rf ?_ | refine rs ?_ | refine And.intro ?_ ?_) | omega | simp (maxSteps := 1000000) only [go_sem, simprocAttr, ↓reduceIte])
    refine VcCall.ro (.ro (mxs (mixSel [] (l0.take 12)))) (FnFr.of_ok k0 rfl (by simp [noRoRows, noRoItem, noRoRow, noRoL, noRo, mxs, Mx.av])) (by simp only [noIdR_ok, argOkL, argOk, allOk, argOkN, List.drop_zero, lk, reduceIte, reduceCtorEq, Nat.reduceEqDiff, Option.some.injEq, Item.row.injEq, Item.box.injEq, AV.ro.injEq, exists_eq_left, exists_and_left, exists_eq_left', exists_eq_right, and_assoc, and_true, true_and, List.cons.injEq, exists_eq', exists_eq]) (by simp [outOk, argOk, argOkN, lk, noIdR_ok]) rfl ?_
    generalize mixSel [] (l0.take 12) = l
  case' true =>
    (repeat' first | with_reducible (first | intro _ | refine rc ?_ | refine rl ?_ | refine rh ?_ | refine rt ?_ | refine rf ?_ | refine rs ?_ | refine And.intro ?_ ?_) | omega | simp (maxSteps := 1000000) only [go_sem, simprocAttr, ↓reduceIte])
    generalize l0 = l
  all_goals
    (repeat' first | with_reducible (first | intro _ | refine rc ?_ | refine rl ?_ | refine rh ?_ | refine rt ?_ | refine rf ?_ | refine rs ?_ | refine And.intro ?_ ?_) | omega | simp (maxSteps := 1000000) only [go_sem, simprocAttr, ↓reduceIte, hm2, Int.toNat_natCast, Nat.sub_zero])
    generalize List.take n s0 = s at *
    have k1 := correct_ok s hsl D hg hl l most _ rfl _ rfl
    have k2 := refCorrect_ok s hsl D hg hl l most _ rfl _ rfl
    have hfix : corrErr l most = 0 → FxOk s 0 (csAll (corrW D (swL l) most) (toks s [] [])).f ∧ madeF s 0 (csAll (corrW D (swL l) most) (toks s [] [])).f = (csAll (corrW D (swL l) most) (toks s [] [])).b ∧ (csAll (corrW D (swL l) most) (toks s [] [])).b.length ≤ 100000 := fun _ => by
      have htx : textOf (toks s [] []) = s := by
        have := toks_text _ s [] [] (Nat.le_refl _)
        simpa [textOf] using this
      obtain ⟨a1, a2⟩ := fixes_ok (corrW D (swL l) most) s (toks s [] []) 0 0 (Nat.le_refl _) (Nat.zero_le _) htx.symm
      rw [csAll_f, csAll_b]
      refine ⟨a1, by rw [a2]; simp, ?_⟩
      have hln := toks_len _ s [] [] (Nat.le_refl _)
      simp only [List.length_nil] at hln
      have hcs := cs_ok (piece_bd hg (swL l) most (tokOk s)) _ (Nat.le_refl _)
      have hb := hcs.b
      rw [List.take_length, csAll_b, htx] at hb
      omega
    generalize csAll (corrW D (swL l) most) (toks s [] []) = C at *
    generalize corrErr l most = E at *
    generalize hC : (if E = 0 then C else ⟨[], [], 0⟩ : CS) = C1 at *
    have kQ := equalFx_ok C1.f
    refine VcCall.ro (.tup [.str C1.b, .ro (fxR C1.f), .int .i64 E]) (FnFr.of_ok k1 rfl (by simp [noRoRows, noRoItem, noRoRow, noRoL, noRo, fxR, Fx.av])) (by simp only [noIdR_ok, argOkL, argOk, allOk, argOkN, List.drop_zero, lk, reduceIte, reduceCtorEq, Nat.reduceEqDiff, Option.some.injEq, Item.row.injEq, Item.box.injEq, AV.ro.injEq, exists_eq_left, exists_and_left, exists_eq_left', exists_eq_right, and_assoc, and_true, true_and, List.cons.injEq, exists_eq', exists_eq]) (by simp [outOk, argOkL, allOk, argOk, argOkN, lk, noIdR_ok, fxR]) rfl ?_
    (repeat' first | with_reducible (first | intro _ | refine rc ?_ | refine rl ?_ | refine rh ?_ | refine rt ?_ | refine rf ?_ | refine rs ?_ | refine And.intro ?_ ?_) | omega | simp (maxSteps := 1000000) only [go_sem, simprocAttr, ↓reduceIte])
    refine VcCall.ro (.tup [.str C1.b, .ro (fxR C1.f), .int .i64 E]) (FnFr.of_ok k2 rfl (by simp [noRoRows, noRoItem, noRoRow, noRoL, noRo, fxR, Fx.av])) (by simp only [noIdR_ok, argOkL, argOk, allOk, argOkN, List.drop_zero, lk, reduceIte, reduceCtorEq, Nat.reduceEqDiff, Option.some.injEq, Item.row.injEq, Item.box.injEq, AV.ro.injEq, exists_eq_left, exists_and_left, exists_eq_left', exists_eq_right, and_assoc, and_true, true_and, List.cons.injEq, exists_eq', exists_eq]) (by simp [outOk, argOkL, allOk, argOk, argOkN, lk, noIdR_ok, fxR]) rfl ?_
    (repeat' first | with_reducible (first | intro _ | refine rc ?_ | refine rl ?_ | refine rh ?_ | refine rt ?_ | refine rf ?_ | refine rs ?_ | refine And.intro ?_ ?_) | omega | simp (maxSteps := 1000000) only [go_sem, simprocAttr, ↓reduceIte])
    refine VcCall.k (kQ) ?_
    rcases (Classical.em (E = 0)).symm with hE | hE
    · (repeat' first | with_reducible (first | intro _ | refine rc ?_ | refine rl ?_ | refine rh ?_ | refine rt ?_ | refine rf ?_ | refine rs ?_ | refine And.intro ?_ ?_) | omega | simp (maxSteps := 1000000) only [go_sem, simprocAttr, ↓reduceIte, hE])
      refine Ret.auto 0 ?_ rfl ?_ <;> simp only [go_sem, reduceCtorEq, reduceIte, Nat.reduceEqDiff, Nat.reduceLT, Nat.reduceLeDiff, Int.natCast_succ, Post]
    obtain ⟨f1, f2, f3⟩ := hfix hE
    rw [if_pos hE] at hC
    subst hC
    subst hE
    clear hfix k1 k2 kQ
    obtain ⟨b, F, at0⟩ := C
    dsimp only at f1 f2 f3 ⊢
    (repeat' first | with_reducible (first | intro _ | refine rc ?_ | refine rl ?_ | refine rh ?_ | refine rt ?_ | refine rf ?_ | refine rs ?_ | refine And.intro ?_ ?_) | omega | simp (maxSteps := 1000000) only [go_sem, simprocAttr, ↓reduceIte, fxR, List.length_map])
    refine VcLoop.intro (fun x : MI => ⟨133, [(92, .int .i64 x.i), (91, .int .i64 F.length), (90, .ro (fxR F)), (0, .str s), (17, .str b), (23, .str x.m), (24, .int .i64 x.q)], [], 0⟩) (fun x => x.i ≤ F.length ∧ x.q ≤ s.length ∧ FxOk s x.q (F.drop x.i) ∧ x.m ++ madeF s x.q (F.drop x.i) = b) (fun x => F.length - x.i) ⟨0, [], 0⟩ ?_ ⟨Nat.zero_le _, Nat.zero_le _, f1, f2⟩ fun x hx => ?_
    · refine Ent.auto0 rfl ?_ ?_ <;> simp only [go_sem, reduceCtorEq, reduceIte, Nat.reduceEqDiff, Nat.reduceLT, Nat.reduceLeDiff, Int.natCast_succ, fxR]
    obtain ⟨i, m, q⟩ := x
    obtain ⟨hi, hq, hx, hmd⟩ := hx
    dsimp only at hi hq hx hmd ⊢
    have hml : m.length ≤ b.length := by rw [← hmd, List.length_append]; omega
    by_cases hlt : i < F.length
    · have hel := fx_elem F hlt
      obtain ⟨p, p1, p2, p3, p4, p5⟩ := fxOk_drop hlt hx
      rw [madeF_drop hlt] at hmd
      generalize F.getD i Fx.zero = z at *
      obtain ⟨za, zo, zn⟩ := z
      dsimp only at hel p1 p3 p4 p5 hmd
      subst p1
      rw [Int.toNat_natCast] at hmd
      have hml2 : m.length + ((p - q) + zn.length) ≤ b.length := by
        have := congrArg List.length hmd
        rw [List.length_append, List.length_append, List.length_append, List.length_take, List.length_drop] at this
        omega
      have hpl : ((p : Int) + (zo.length : Int)) = ((p + zo.length : Nat) : Int) := by omega
      have hsub : p + zo.length - p = zo.length := by omega
      (repeat' first | with_reducible (first | intro _ | refine rc ?_ | refine rl ?_ | refine rh ?_ | refine rt ?_ | refine rf ?_ | refine rs ?_ | refine And.intro ?_ ?_) | omega | simp (maxSteps := 1000000) only [go_sem, simprocAttr, ↓reduceIte, elemA, hel, fxR, List.length_map])
      refine VcDraw.lex [] [] (by kernel_rfl) (by kernel_rfl) ?_
      (repeat' first | with_reducible (first | intro _ | refine rc ?_ | refine rl ?_ | refine rh ?_ | refine rt ?_ | refine rf ?_ | refine rs ?_ | refine And.intro ?_ ?_) | omega | simp (maxSteps := 1000000) only [go_sem, simprocAttr, ↓reduceIte, hpl, Int.toNat_natCast, hsub, p4])
      refine VcDraw.lex [] [] (by kernel_rfl) (by kernel_rfl) ?_
      (repeat' first | with_reducible (first | intro _ | refine rc ?_ | refine rl ?_ | refine rh ?_ | refine rt ?_ | refine rf ?_ | refine rs ?_ | refine And.intro ?_ ?_) | omega | simp (maxSteps := 1000000) only [go_sem, simprocAttr, ↓reduceIte, hpl, Int.toNat_natCast, hsub, p4])
      refine ⟨⟨i + 1, m ++ ((s.drop q).take (p - q) ++ zn), p + zo.length⟩, Ent.auto0 rfl ?_ ?_, ⟨by dsimp only; omega, by dsimp only; omega, p5, ?_⟩, by dsimp only; omega⟩
      · simp only [go_sem, reduceCtorEq, reduceIte, Nat.reduceEqDiff, Nat.reduceLT, Nat.reduceLeDiff, Int.natCast_succ, fxR, hpl]
      · simp only [go_sem, reduceCtorEq, reduceIte, Nat.reduceEqDiff, Nat.reduceLT, Nat.reduceLeDiff, Int.natCast_succ, fxR]
      · dsimp only
        rw [← hmd]
        simp
    · have e : i = F.length := by omega
      subst e
      rw [List.drop_length] at hmd
      have hmd : m ++ s.drop q = b := hmd
      have htl : List.take (s.length - q) (List.drop q s) = List.drop q s := List.take_of_length_le (by rw [List.length_drop]; exact Nat.le_refl _)
      have hml3 : m.length + (s.length - q) ≤ 100000 := by
        have := congrArg List.length hmd
        rw [List.length_append, List.length_drop] at this
        omega
      (repeat' first | with_reducible (first | intro _ | refine rc ?_ | refine rl ?_ | refine rh ?_ | refine rt ?_ | refine rf ?_ | refine rs ?_ | refine And.intro ?_ ?_) | omega | simp (maxSteps := 1000000) only [go_sem, simprocAttr, ↓reduceIte, fxR, List.length_map, Int.toNat_natCast, htl, hmd])
      refine Ret.auto 0 ?_ rfl ?_ <;> simp only [go_sem, reduceCtorEq, reduceIte, Nat.reduceEqDiff, Nat.reduceLT, Nat.reduceLeDiff, Int.natCast_succ, Post]
end Go.Fv.Y
