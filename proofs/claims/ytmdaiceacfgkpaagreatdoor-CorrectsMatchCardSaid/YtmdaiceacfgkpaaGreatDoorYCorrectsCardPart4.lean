/-
  A part of the proof of the claim: walks over the program's functions and the plain laws that these need. No condition of its own.
-/
import Derived.Test.YtmdaiceacfgkpaaGreatDoorYCorrectsCardPart3
/- The stable sort of guesses: the walk of insertion. -/
namespace Go.Fv.Y
open Go Go.Proofs
set_option linter.unusedSimpArgs false
set_option linter.unusedVariables false
set_option linter.unnecessarySimpa false
set_option maxRecDepth 8000

/-- What is asked of the comparison. -/
def CmpG (F : Nat) : Prop := ∀ x y : Gs, FnOk Tryz.prog F [.agg [.str x.t, .int .i64 x.d, .int .i64 x.c], .agg [.str y.t, .int .i64 y.d, .int .i64 y.c]] (.int .i64 (cfG x y)) []
theorem below_gs (l : List Gs) (n i : Nat) : belowL n (List.take 3 ((l.map Gs.av).getD i [])) = true := by
  rw [List.getD_eq_getElem?_getD, List.getElem?_map]
  cases l[i]? <;> rfl
theorem cf_neg {x y : Gs} (h : lt0 x y) : cfG x y < 0 := (cfG_lt x y).2 h
theorem cf_not {x y : Gs} (h : ¬ lt0 x y) : ¬ cfG x y < 0 := fun h2 => h ((cfG_lt x y).1 h2)
set_option maxHeartbeats 8000000 in
theorem insertion_io (F : Nat) (hF : CmpG F) (P X Q : List Gs) (a b : Nat) (ha : a = P.length) (hb : b = P.length + X.length) (hS : Stab X) (hN : P.length + X.length + Q.length ≤ 1000000) :
    FnIO Tryz.prog 118 [.own 0, .int .i64 a, .int .i64 b, .fn F []] [(0, .row 41 (gsR (P ++ (X ++ Q))))] 1 (.tup []) [(0, .row 41 (gsR (P ++ (sortG X ++ Q))))] := by
  refine FnIO.of_vc Tryz.func118 rfl (by decide) (by simp [Tryz.f118]) covG1 [] rfl fun w0 T0 _ => ?_
  simp only [Tryz.f118, argEnv]
  generalize hR : sortG X = R
  have i1 : (a : Int) + 1 = ((P.length + 1 : Nat) : Int) := by omega
  (repeat' first | with_reducible (first | intro _ | refine rc ?_ | refine rl ?_ | refine rh ?_ | refine rt ?_ | refine rf ?_ | refine rs ?_ | refine And.intro ?_ ?_) | omega | simp (maxSteps := 1000000) only [go_sem, simprocAttr, ↓reduceIte, i1])
  refine VcLoop.intro (fun x : Nat × List Gs => ⟨53, [(0, .own 0), (1, .int .i64 a), (2, .int .i64 b), (3, .fn F []), (8, .int .i64 (P.length + x.1 : Nat))], [(0, .row 41 (gsR (P ++ (x.2 ++ Q))))], 1⟩) (fun x => 1 ≤ x.1 ∧ (x.1 ≤ X.length ∨ x.1 = 1) ∧ x.2.Perm X ∧ StabI x.2 ∧ ∀ p q, p < q → q < x.1 → ¬ lt0 (gd x.2 q) (gd x.2 p)) (fun x => X.length + 1 - x.1) (1, X) ?_ ⟨Nat.le_refl 1, .inr rfl, List.Perm.refl _, stabI_of hS, fun p q h1 h2 => by omega⟩ fun x hx => ?_
  · refine Ent.autoK 1 rfl (Nat.le_refl 1) ?_ ?_ <;> simp only [go_sem, reduceCtorEq, reduceIte, Nat.reduceEqDiff, Nat.reduceLT, Nat.reduceLeDiff, Int.natCast_succ, fromL, gsR]
  obtain ⟨k, Y⟩ := x
  obtain ⟨hk1, hk2, hp, hs, ho⟩ := hx
  dsimp only at hk1 hk2 hp hs ho ⊢
  have hYl := hp.length_eq
  by_cases hlt : k < X.length
  · have hc : ((P.length + k : Nat) : Int) < (b : Int) := by omega
    (repeat' first | with_reducible (first | intro _ | refine rc ?_ | refine rl ?_ | refine rh ?_ | refine rt ?_ | refine rf ?_ | refine rs ?_ | refine And.intro ?_ ?_) | omega | simp (maxSteps := 1000000) only [go_sem, simprocAttr, ↓reduceIte, hc])
    refine VcLoop.intro (fun x : Nat × List Gs => ⟨53, [(0, .own 0), (1, .int .i64 a), (2, .int .i64 b), (3, .fn F []), (8, .int .i64 (P.length + k : Nat)), (9, .int .i64 (P.length + x.1 : Nat))], [(0, .row 41 (gsR (P ++ (x.2 ++ Q))))], 1⟩) (fun x => x.1 ≤ k ∧ x.2.Perm X ∧ StabI x.2 ∧ InsI x.2 k x.1) (fun x => x.1) (k, Y) ?_ ⟨Nat.le_refl _, hp, hs, fun p q h1 h2 h3 => ho p q h1 (by omega)⟩ fun x hx => ?_
    · refine Ent.autoK 1 rfl (Nat.le_refl 1) ?_ ?_ <;> simp only [go_sem, reduceCtorEq, reduceIte, Nat.reduceEqDiff, Nat.reduceLT, Nat.reduceLeDiff, Int.natCast_succ, fromL, gsR]
    clear hp hs ho hYl
    obtain ⟨j, Y⟩ := x
    obtain ⟨hj, hp, hs, ho⟩ := hx
    dsimp only at hj hp hs ho ⊢
    have hYl := hp.length_eq
    have hlen : ((P ++ (Y ++ Q)).map Gs.av).length = P.length + X.length + Q.length := by simp; omega
    have hlen2 : (P ++ (Y ++ Q)).length = P.length + X.length + Q.length := by simp; omega
    have hend : (0 < j → ¬ lt0 (gd Y j) (gd Y (j - 1))) → (1 ≤ k + 1 ∧ (k + 1 ≤ X.length ∨ k + 1 = 1) ∧ Y.Perm X ∧ StabI Y ∧ ∀ p q, p < q → q < k + 1 → ¬ lt0 (gd Y q) (gd Y p)) := fun he =>
      ⟨by omega, by omega, hp, hs, fun p q h1 h2 => insI_end hj ho he p q h1 (by omega)⟩
    have n1 : ((P.length + k : Nat) : Int) + 1 = ((P.length + (k + 1) : Nat) : Int) := by omega
    cases j with
    | zero =>
      have hg : ¬ (a : Int) < (P.length : Int) := by omega
      (repeat' first | with_reducible (first | intro _ | refine rc ?_ | refine rl ?_ | refine rh ?_ | refine rt ?_ | refine rf ?_ | refine rs ?_ | refine And.intro ?_ ?_) | omega | simp (maxSteps := 1000000) only [go_sem, simprocAttr, ↓reduceIte, hg])
      refine VcDraw.lex [] [] (by kernel_rfl) (by kernel_rfl) ?_
      (repeat' first | with_reducible (first | intro _ | refine rc ?_ | refine rl ?_ | refine rh ?_ | refine rt ?_ | refine rf ?_ | refine rs ?_ | refine And.intro ?_ ?_) | omega | simp (maxSteps := 1000000) only [go_sem, simprocAttr, ↓reduceIte, hg, gsR, below_gs])
      refine QV.intro (.int .i64 0) ?_ ?_
      · (repeat' first | with_reducible (first | intro _ | refine rc ?_ | refine rl ?_ | refine rh ?_ | refine rt ?_ | refine rf ?_ | refine rs ?_ | refine And.intro ?_ ?_) | omega | simp (maxSteps := 1000000) only [go_sem, simprocAttr, ↓reduceIte, hg, gsR])
      (repeat' first | with_reducible (first | intro _ | refine rc ?_ | refine rl ?_ | refine rh ?_ | refine rt ?_ | refine rf ?_ | refine rs ?_ | refine And.intro ?_ ?_) | omega | simp (maxSteps := 1000000) only [go_sem, simprocAttr, ↓reduceIte, hg, gsR])
      refine ⟨(k + 1, Y), Ent.autoK 1 rfl (Nat.le_refl 1) ?_ ?_, hend (fun h => absurd h (Nat.lt_irrefl 0)), by dsimp only; omega⟩ <;> simp only [go_sem, reduceCtorEq, reduceIte, Nat.reduceEqDiff, Nat.reduceLT, Nat.reduceLeDiff, Int.natCast_succ, fromL, gsR, n1]
    | succ j =>
      have hjb : j + 1 < Y.length := by omega
      have hg : (a : Int) < ((P.length + (j + 1) : Nat) : Int) := by omega
      have m1 : ((P.length + (j + 1) : Nat) : Int) - 1 = ((P.length + j : Nat) : Int) := by omega
      have hsw := swp_swapF (P := P) (Q := Q) hjb
      have kc := hF (gd Y (j + 1)) (gd Y j)
      have hsl : (swp Y j).length = Y.length := swp_len hjb
      obtain ⟨hl, hl', e1, e2, s1, s2, t1, t2⟩ := hsw
      by_cases hlt0 : lt0 (gd Y (j + 1)) (gd Y j)
      · have hcn := cf_neg hlt0
        have hinv : j ≤ k ∧ (swp Y j).Perm X ∧ StabI (swp Y j) ∧ InsI (swp Y j) k j := ⟨by omega, (swp_perm hjb).trans hp, swp_stab hjb hlt0 hs, insI_swap (by omega) hj ho hlt0⟩
        generalize cfG (gd Y (j + 1)) (gd Y j) = cv at *
        generalize gd Y (j + 1) = v at *
        generalize gd Y j = u at *
        (repeat' first | with_reducible (first | intro _ | refine rc ?_ | refine rl ?_ | refine rh ?_ | refine rt ?_ | refine rf ?_ | refine rs ?_ | refine And.intro ?_ ?_) | omega | simp (maxSteps := 1000000) only [go_sem, simprocAttr, ↓reduceIte, hg, m1])
        refine VcDraw.lex [] [] (by kernel_rfl) (by kernel_rfl) ?_
        (repeat' first | with_reducible (first | intro _ | refine rc ?_ | refine rl ?_ | refine rh ?_ | refine rt ?_ | refine rf ?_ | refine rs ?_ | refine And.intro ?_ ?_) | omega | simp (maxSteps := 1000000) only [go_sem, simprocAttr, ↓reduceIte, hg, m1, gsR, Int.toNat_natCast, elemA, e1, e2])
        refine QV.intro (.int .i64 cv) ?_ ?_
        · (repeat' first | with_reducible (first | intro _ | refine rc ?_ | refine rl ?_ | refine rh ?_ | refine rt ?_ | refine rf ?_ | refine rs ?_ | refine And.intro ?_ ?_) | omega | simp (maxSteps := 1000000) only [go_sem, simprocAttr, ↓reduceIte, hg, m1, gsR, Int.toNat_natCast, elemA, e1, e2])
          refine VcCall.k (kc) ?_
          (repeat' first | with_reducible (first | intro _ | refine rc ?_ | refine rl ?_ | refine rh ?_ | refine rt ?_ | refine rf ?_ | refine rs ?_ | refine And.intro ?_ ?_) | omega | simp (maxSteps := 1000000) only [go_sem, simprocAttr, ↓reduceIte, gsR])
        (repeat' first | with_reducible (first | intro _ | refine rc ?_ | refine rl ?_ | refine rh ?_ | refine rt ?_ | refine rf ?_ | refine rs ?_ | refine And.intro ?_ ?_) | omega | simp (maxSteps := 1000000) only [go_sem, simprocAttr, ↓reduceIte, hg, m1, hcn, gsR])
        refine VcDraw.lex [15, 17] [(2, [1]), (3, [1]), (4, [1])] (by kernel_rfl) (by kernel_rfl) ?_
        (repeat' first | with_reducible (first | intro _ | refine rc ?_ | refine rl ?_ | refine rh ?_ | refine rt ?_ | refine rf ?_ | refine rs ?_ | refine And.intro ?_ ?_) | omega | simp (maxSteps := 1000000) only [go_sem, simprocAttr, ↓reduceIte, hg, m1, gsR, Int.toNat_natCast, elemA, e1, e2, s1, s2, t1, t2])
        refine ⟨(j, swp Y j), Ent.autoK 1 rfl (Nat.le_refl 1) ?_ ?_, hinv, by dsimp only; omega⟩ <;> simp only [go_sem, reduceCtorEq, reduceIte, Nat.reduceEqDiff, Nat.reduceLT, Nat.reduceLeDiff, Int.natCast_succ, fromL, gsR, m1]
      · have hcn := cf_not hlt0
        have hfin := hend (fun _ => hlt0)
        clear hend
        generalize cfG (gd Y (j + 1)) (gd Y j) = cv at *
        generalize gd Y (j + 1) = v at *
        generalize gd Y j = u at *
        (repeat' first | with_reducible (first | intro _ | refine rc ?_ | refine rl ?_ | refine rh ?_ | refine rt ?_ | refine rf ?_ | refine rs ?_ | refine And.intro ?_ ?_) | omega | simp (maxSteps := 1000000) only [go_sem, simprocAttr, ↓reduceIte, hg, m1])
        refine VcDraw.lex [] [] (by kernel_rfl) (by kernel_rfl) ?_
        (repeat' first | with_reducible (first | intro _ | refine rc ?_ | refine rl ?_ | refine rh ?_ | refine rt ?_ | refine rf ?_ | refine rs ?_ | refine And.intro ?_ ?_) | omega | simp (maxSteps := 1000000) only [go_sem, simprocAttr, ↓reduceIte, hg, m1, gsR, Int.toNat_natCast, elemA, e1, e2])
        refine QV.intro (.int .i64 cv) ?_ ?_
        · (repeat' first | with_reducible (first | intro _ | refine rc ?_ | refine rl ?_ | refine rh ?_ | refine rt ?_ | refine rf ?_ | refine rs ?_ | refine And.intro ?_ ?_) | omega | simp (maxSteps := 1000000) only [go_sem, simprocAttr, ↓reduceIte, hg, m1, gsR, Int.toNat_natCast, elemA, e1, e2])
          refine VcCall.k (kc) ?_
          (repeat' first | with_reducible (first | intro _ | refine rc ?_ | refine rl ?_ | refine rh ?_ | refine rt ?_ | refine rf ?_ | refine rs ?_ | refine And.intro ?_ ?_) | omega | simp (maxSteps := 1000000) only [go_sem, simprocAttr, ↓reduceIte, gsR])
        (repeat' first | with_reducible (first | intro _ | refine rc ?_ | refine rl ?_ | refine rh ?_ | refine rt ?_ | refine rf ?_ | refine rs ?_ | refine And.intro ?_ ?_) | omega | simp (maxSteps := 1000000) only [go_sem, simprocAttr, ↓reduceIte, hg, m1, hcn, gsR])
        refine ⟨(k + 1, Y), Ent.autoK 1 rfl (Nat.le_refl 1) ?_ ?_, hfin, by dsimp only; omega⟩ <;> simp only [go_sem, reduceCtorEq, reduceIte, Nat.reduceEqDiff, Nat.reduceLT, Nat.reduceLeDiff, Int.natCast_succ, fromL, gsR, n1]
  · have e : R = Y := by
      rw [← hR]
      refine (srt_eq hp (srt_ofI fun p q h1 h2 => ho p q h1 (by omega)) (stab_ofI hs)).symm
    subst e
    have hc : ¬ ((P.length + k : Nat) : Int) < (b : Int) := by omega
    (repeat' first | with_reducible (first | intro _ | refine rc ?_ | refine rl ?_ | refine rh ?_ | refine rt ?_ | refine rf ?_ | refine rs ?_ | refine And.intro ?_ ?_) | omega | simp (maxSteps := 1000000) only [go_sem, simprocAttr, ↓reduceIte, hc])
    refine RetK.auto 1 (Nat.le_refl 1) ?_ rfl ?_ <;> simp only [go_sem, reduceCtorEq, reduceIte, Nat.reduceEqDiff, Nat.reduceLT, Nat.reduceLeDiff, Int.natCast_succ, fromL, gsR]
end Go.Fv.Y

/- The stable sort of guesses: what a merge does, in plain words. -/
namespace Go.Fv.Y
open Go
set_option linter.unusedSimpArgs false
set_option linter.unusedVariables false
set_option linter.unnecessarySimpa false

theorem mem_take_gd {Y : List Gs} {k : Nat} {y : Gs} (h : y ∈ Y.take k) : ∃ i, i < k ∧ i < Y.length ∧ y = gd Y i := by
  obtain ⟨i, hi, e⟩ := List.getElem_of_mem h
  rw [List.length_take] at hi
  rw [List.getElem_take] at e
  exact ⟨i, by omega, by omega, by rw [gd_get (by omega)]; exact e.symm⟩
theorem mem_drop_gd {Y : List Gs} {k : Nat} {y : Gs} (h : y ∈ Y.drop k) : ∃ i, k ≤ i ∧ i < Y.length ∧ y = gd Y i := by
  obtain ⟨i, hi, e⟩ := List.getElem_of_mem h
  rw [List.length_drop] at hi
  rw [List.getElem_drop] at e
  exact ⟨k + i, by omega, by omega, by rw [gd_get (by omega)]; exact e.symm⟩
theorem le_le {x y : Gs} (h : lt0 x y) : leG x y = true := leG_iff.2 (.inl h)
theorem take_drop_le {Y : List Gs} (h : Y.Pairwise fun x y => leG x y = true) (k : Nat) : ∀ x, x ∈ Y.take k → ∀ y, y ∈ Y.drop k → leG x y = true := by
  have := h
  rw [← List.take_append_drop k Y, List.pairwise_append] at this
  exact this.2.2
/-- One before an ordered list. -/
theorem merge_first {x : Gs} {V : List Gs} {k : Nat} (hV : Srt V) (hs : Stab (x :: V)) (h1 : ∀ i, i < k → i < V.length → lt0 (gd V i) x) (h2 : ∀ i, k ≤ i → i < V.length → ¬ lt0 (gd V i) x) : V.take k ++ x :: V.drop k = sortG (x :: V) := by
  obtain ⟨hx, hsV⟩ := List.pairwise_cons.1 hs
  have hle := both_le hV hsV
  refine sortG_eq ?_ (List.pairwise_append.2 ⟨hle.sublist (List.take_sublist _ _), List.pairwise_cons.2 ⟨fun y hy => ?_, hle.sublist (List.drop_sublist _ _)⟩, fun y hy z hz => ?_⟩)
  · refine List.perm_middle.trans ?_
    rw [List.take_append_drop]
  · obtain ⟨i, hi, hl, rfl⟩ := mem_drop_gd hy
    exact leG_of (h2 i hi hl) (hx _ (List.mem_of_mem_drop hy))
  · rcases List.mem_cons.1 hz with rfl | hz
    · obtain ⟨i, hi, hl, rfl⟩ := mem_take_gd hy
      exact le_le (h1 i hi hl)
    · exact take_drop_le hle k y hy z hz
/-- One behind an ordered list. -/
theorem merge_last {y : Gs} {U : List Gs} {k : Nat} (hU : Srt U) (hs : Stab (U ++ [y])) (h1 : ∀ i, i < k → i < U.length → ¬ lt0 y (gd U i)) (h2 : ∀ i, k ≤ i → i < U.length → lt0 y (gd U i)) : U.take k ++ y :: U.drop k = sortG (U ++ [y]) := by
  obtain ⟨hsU, _, hx⟩ := List.pairwise_append.1 hs
  have hle := both_le hU hsU
  refine sortG_eq ?_ (List.pairwise_append.2 ⟨hle.sublist (List.take_sublist _ _), List.pairwise_cons.2 ⟨fun z hz => ?_, hle.sublist (List.drop_sublist _ _)⟩, fun z hz w hw => ?_⟩)
  · refine List.perm_middle.trans ?_
    rw [List.take_append_drop]
    exact (List.perm_append_comm (l₁ := U) (l₂ := [y])).symm
  · obtain ⟨i, hi, hl, rfl⟩ := mem_drop_gd hz
    exact le_le (h2 i hi hl)
  · rcases List.mem_cons.1 hw with rfl | hw
    · obtain ⟨i, hi, hl, e⟩ := mem_take_gd hz
      exact leG_of (by rw [e]; exact h1 i hi hl) (hx _ (List.mem_of_mem_take hz) _ List.mem_cons_self)
    · exact take_drop_le hle k z hz w hw
/-- Two ordered lists that were cut so that nothing of the first parts is behind anything of the last ones. -/
theorem merge_two {U1 U2 V1 V2 : List Gs} (hU : Srt (U1 ++ U2)) (hV : Srt (V1 ++ V2)) (hs : Stab ((U1 ++ U2) ++ (V1 ++ V2))) (h1 : ∀ u, u ∈ U1 → ∀ v, v ∈ V2 → ¬ lt0 v u) (h2 : ∀ v, v ∈ V1 → ∀ u, u ∈ U2 → lt0 v u) :
    sortG (U1 ++ V1) ++ sortG (U2 ++ V2) = sortG ((U1 ++ U2) ++ (V1 ++ V2)) := by
  obtain ⟨hsU, hsV, hx⟩ := List.pairwise_append.1 hs
  have leU := (List.pairwise_append.1 (both_le hU hsU)).2.2
  have leV := (List.pairwise_append.1 (both_le hV hsV)).2.2
  refine sortG_eq ?_ (List.pairwise_append.2 ⟨sortG_le _, sortG_le _, fun x hx1 y hy1 => ?_⟩)
  · refine ((sortG_perm _).append (sortG_perm _)).trans ?_
    rw [List.append_assoc, List.append_assoc]
    refine List.Perm.append_left _ ?_
    rw [← List.append_assoc, ← List.append_assoc]
    exact List.Perm.append_right _ List.perm_append_comm
  · have hx1 := (sortG_perm _).mem_iff.1 hx1
    have hy1 := (sortG_perm _).mem_iff.1 hy1
    rcases List.mem_append.1 hx1 with hx1 | hx1 <;> rcases List.mem_append.1 hy1 with hy1 | hy1
    · exact leU _ hx1 _ hy1
    · exact leG_of (h1 _ hx1 _ hy1) (hx _ (List.mem_append_left _ hx1) _ (List.mem_append_right _ hy1))
    · exact le_le (h2 _ hx1 _ hy1)
    · exact leV _ hx1 _ hy1
theorem nlt_chain {Y : List Gs} (h : Srt Y) {i j : Nat} (hij : i ≤ j) (hj : j < Y.length) : ¬ lt0 (gd Y j) (gd Y i) := by
  by_cases e : i = j
  · subst e; exact lt0_irrefl _
  · exact srtI_of h i j (by omega) hj
theorem lt_mix {x y z w : Gs} (h1 : ¬ lt0 y x) (h2 : lt0 y z) (h3 : ¬ lt0 w z) : lt0 x w := by unfold lt0 at *; omega
/-- Where the search of a merge ends. -/
structure CutG (U V : List Gs) (s e : Nat) : Prop where
  hs : s ≤ U.length
  he : e ≤ V.length
  a : 0 < s → e < V.length → ¬ lt0 (gd V e) (gd U (s - 1))
  b : s < U.length → 0 < e → lt0 (gd V (e - 1)) (gd U s)
theorem CutG.merge {U V : List Gs} {s e : Nat} (c : CutG U V s e) (hU : Srt U) (hV : Srt V) (hst : Stab (U ++ V)) : sortG (U.take s ++ V.take e) ++ sortG (U.drop s ++ V.drop e) = sortG (U ++ V) := by
  have e1 := List.take_append_drop s U
  have e2 := List.take_append_drop e V
  have := merge_two (U1 := U.take s) (U2 := U.drop s) (V1 := V.take e) (V2 := V.drop e) (by rw [e1]; exact hU) (by rw [e2]; exact hV) (by rw [e1, e2]; exact hst) (fun u hu v hv => ?_) (fun v hv u hu => ?_)
  · rw [this, e1, e2]
  · obtain ⟨i, hi, hil, rfl⟩ := mem_take_gd hu
    obtain ⟨j, hj, hjl, rfl⟩ := mem_drop_gd hv
    have h0 := c.a (by omega) (by omega)
    have hs := c.hs
    exact nlt_trans (nlt_trans (nlt_chain hU (i := i) (j := s - 1) (by omega) (by omega)) h0) (nlt_chain hV hj hjl)
  · obtain ⟨j, hj, hjl, rfl⟩ := mem_take_gd hv
    obtain ⟨i, hi, hil, rfl⟩ := mem_drop_gd hu
    have h0 := c.b (by omega) (by omega)
    have he := c.he
    exact lt_mix (nlt_chain hV (i := j) (j := e - 1) (by omega) (by omega)) h0 (nlt_chain hU hi hil)
theorem Srt.take {Y : List Gs} (h : Srt Y) (k : Nat) : Srt (Y.take k) := List.Pairwise.sublist (List.take_sublist _ _) h
theorem Srt.drop {Y : List Gs} (h : Srt Y) (k : Nat) : Srt (Y.drop k) := List.Pairwise.sublist (List.drop_sublist _ _) h
theorem stab_takes {U V : List Gs} (h : Stab (U ++ V)) (s e : Nat) : Stab (U.take s ++ V.take e) := List.Pairwise.sublist ((List.take_sublist _ _).append (List.take_sublist _ _)) h
theorem stab_drops {U V : List Gs} (h : Stab (U ++ V)) (s e : Nat) : Stab (U.drop s ++ V.drop e) := List.Pairwise.sublist ((List.drop_sublist _ _).append (List.drop_sublist _ _)) h
theorem gd_left {P : List Gs} (R : List Gs) {U : List Gs} {i k : Nat} (hk : k = P.length + i) (hi : i < U.length) : gd (P ++ (U ++ R)) k = gd U i := by
  subst hk
  unfold gd
  rw [List.getD_eq_getElem?_getD, List.getElem?_append_right (by omega), Nat.add_sub_cancel_left, List.getElem?_append_left hi, ← List.getD_eq_getElem?_getD]
theorem gd_right {P U : List Gs} (Q : List Gs) {V : List Gs} {i k : Nat} (hk : k = P.length + U.length + i) (hi : i < V.length) : gd (P ++ (U ++ (V ++ Q))) k = gd V i := by
  rw [← List.append_assoc]
  exact gd_left (P := P ++ U) Q (by rw [List.length_append]; exact hk) hi
end Go.Fv.Y

/- The stable sort of guesses: two parts change their places. -/
namespace Go.Fv.Y
open Go Go.Proofs
set_option linter.unusedSimpArgs false
set_option linter.unusedVariables false
set_option linter.unnecessarySimpa false
set_option maxRecDepth 8000

structure RoI where
  P : List Gs
  U : List Gs
  V : List Gs
  Q : List Gs
set_option maxHeartbeats 8000000 in
theorem rotate_io (P U V Q : List Gs) (a m b : Nat) (F : Nat) (ha : a = P.length) (hm : m = P.length + U.length) (hb : b = P.length + U.length + V.length) (hU : 0 < U.length) (hV : 0 < V.length) (hN : P.length + U.length + V.length + Q.length ≤ 1000000) :
    FnIO Tryz.prog 173 [.own 0, .int .i64 a, .int .i64 m, .int .i64 b, .fn F []] [(0, .row 41 (gsR (P ++ (U ++ (V ++ Q)))))] 1 (.tup []) [(0, .row 41 (gsR (P ++ (V ++ (U ++ Q)))))] := by
  refine FnIO.of_vc Tryz.func173 rfl (by decide) (by simp [Tryz.f173]) covG1 [] rfl fun w0 T0 _ => ?_
  simp only [Tryz.f173, argEnv]
  have i1 : (m : Int) - (a : Int) = (U.length : Int) := by omega
  have i2 : (b : Int) - (m : Int) = (V.length : Int) := by omega
  generalize hR : P ++ (V ++ (U ++ Q)) = R
  generalize hT : P.length + U.length + V.length + Q.length = N at *
  (repeat' first | with_reducible (first | intro _ | refine rc ?_ | refine rl ?_ | refine rh ?_ | refine rt ?_ | refine rf ?_ | refine rs ?_ | refine And.intro ?_ ?_) | omega | simp (maxSteps := 1000000) only [go_sem, simprocAttr, ↓reduceIte, i1, i2])
  refine VcLoop.intro (fun x : RoI => ⟨58, [(0, .own 0), (2, .int .i64 m), (4, .fn F []), (10, .int .i64 x.U.length), (11, .int .i64 x.V.length)], [(0, .row 41 (gsR (x.P ++ (x.U ++ (x.V ++ x.Q)))))], 1⟩) (fun x => x.P.length + x.U.length = m ∧ 0 < x.U.length ∧ 0 < x.V.length ∧ x.P.length + x.U.length + x.V.length + x.Q.length = N ∧ x.P ++ (x.V ++ (x.U ++ x.Q)) = R) (fun x => x.U.length + x.V.length) ⟨P, U, V, Q⟩ ?_ ⟨hm.symm, hU, hV, hT, hR⟩ fun x hx => ?_
  · refine Ent.autoK 1 rfl (Nat.le_refl 1) ?_ ?_ <;> simp only [go_sem, reduceCtorEq, reduceIte, Nat.reduceEqDiff, Nat.reduceLT, Nat.reduceLeDiff, Int.natCast_succ, fromL, gsR]
  clear hR hT hU hV i1 i2 ha hm hb
  obtain ⟨P, U, V, Q⟩ := x
  obtain ⟨hm, hU, hV, hT, hR⟩ := hx
  dsimp only at hm hU hV hT hR ⊢
  have j1 : (m : Int) - (U.length : Int) = (P.length : Int) := by omega
  rcases Nat.lt_trichotomy V.length U.length with hlt | heq | hgt
  · have hr : P ++ (U ++ (V ++ Q)) = P ++ (U.take V.length ++ (U.drop V.length ++ (V ++ Q))) := by
      rw [← List.append_assoc (U.take V.length), List.take_append_drop]
    have k := swapRange_io P (U.take V.length) (U.drop V.length) V Q V.length P.length m F (by simp; omega) rfl rfl (by simp; omega) (by simp; omega)
    rw [hr]
    have j2 : (U.length : Int) - (V.length : Int) = ((U.drop V.length).length : Int) := by rw [List.length_drop]; omega
    have j3 : (V.length : Int) = ((U.take V.length).length : Int) := by rw [List.length_take]; omega
    have hR' : (P ++ V) ++ (U.take V.length ++ (U.drop V.length ++ Q)) = R := by
      rw [← hR]
      rw [List.append_assoc, ← List.append_assoc (U.take V.length), List.take_append_drop]
    have hl1 : (U.take V.length).length = V.length := by simp; omega
    have hl2 : (U.drop V.length).length = U.length - V.length := by simp
    have hne : ¬ (U.length : Int) = (V.length : Int) := by omega
    have hgt : (U.length : Int) > (V.length : Int) := by omega
    have hgt : (V.length : Int) < (U.length : Int) := by omega
    generalize U.take V.length = U1 at *
    generalize U.drop V.length = U2 at *
    have ha : (P ++ V) ++ (U2 ++ (U1 ++ Q)) = P ++ (V ++ (U2 ++ (U1 ++ Q))) := by simp
    (repeat' first | with_reducible (first | intro _ | refine rc ?_ | refine rl ?_ | refine rh ?_ | refine rt ?_ | refine rf ?_ | refine rs ?_ | refine And.intro ?_ ?_) | omega | simp (maxSteps := 1000000) only [go_sem, simprocAttr, ↓reduceIte, j1, hne])
    refine VcCall.io [0] k (by decide) (by simp [renL, ren, ioN]) rfl (by simp [subOk, ioN, lk, Item.ren, Item.below, gsR, renR_ok, belowR_ok]) covG1 1 (by decide) rfl (by simp [rowsB, Item.below, gsR, belowR_ok]) ?_
    (repeat' first | with_reducible (first | intro _ | refine rc ?_ | refine rl ?_ | refine rh ?_ | refine rt ?_ | refine rf ?_ | refine rs ?_ | refine And.intro ?_ ?_) | omega | simp (maxSteps := 1000000) only [go_sem, simprocAttr, ↓reduceIte, S.ioS, ioRows, ioN, delL, Item.ren, gsR, renR_ok, List.length_cons, List.length_nil, List.getElem?_cons_zero, List.getElem?_cons_succ, List.getElem?_nil, List.cons_append, List.nil_append, Nat.reduceAdd, Nat.sub_self, Nat.add_zero, List.filter, j1, j2])
    refine ⟨⟨P ++ V, U2, U1, Q⟩, Ent.autoK 1 rfl (Nat.le_refl 1) ?_ ?_, ⟨by simp; omega, by dsimp only; omega, by dsimp only; omega, by simp; omega, hR'⟩, by dsimp only; omega⟩
    · simp only [go_sem, reduceCtorEq, reduceIte, Nat.reduceEqDiff, Nat.reduceLT, Nat.reduceLeDiff, Int.natCast_succ, fromL, gsR, ha, hl1]
    · simp only [go_sem, reduceCtorEq, reduceIte, Nat.reduceEqDiff, Nat.reduceLT, Nat.reduceLeDiff, Int.natCast_succ, fromL, gsR, ha, hl1]
  · have k : FnIO Tryz.prog 177 [.own 0, .int .i64 P.length, .int .i64 m, .int .i64 U.length, .fn F []] [(0, .row 41 (gsR (P ++ (U ++ (V ++ Q)))))] 1 (.tup []) [(0, .row 41 (gsR (P ++ (V ++ (U ++ Q)))))] := swapRange_io P U [] V Q U.length P.length m F rfl heq rfl (by simp; omega) (by simp; omega)
    have he : (U.length : Int) = (V.length : Int) := by omega
    have hv : (V.length : Int) = (U.length : Int) := by omega
    rw [hR] at k
    (repeat' first | with_reducible (first | intro _ | refine rc ?_ | refine rl ?_ | refine rh ?_ | refine rt ?_ | refine rf ?_ | refine rs ?_ | refine And.intro ?_ ?_) | omega | simp (maxSteps := 1000000) only [go_sem, simprocAttr, ↓reduceIte, j1, hv])
    refine VcCall.io [0] k (by decide) (by simp [renL, ren, ioN]) rfl (by simp [subOk, ioN, lk, Item.ren, Item.below, gsR, renR_ok, belowR_ok]) covG1 1 (by decide) rfl (by simp [rowsB, Item.below, gsR, belowR_ok]) ?_
    (repeat' first | with_reducible (first | intro _ | refine rc ?_ | refine rl ?_ | refine rh ?_ | refine rt ?_ | refine rf ?_ | refine rs ?_ | refine And.intro ?_ ?_) | omega | simp (maxSteps := 1000000) only [go_sem, simprocAttr, ↓reduceIte, S.ioS, ioRows, ioN, delL, Item.ren, gsR, renR_ok, List.length_cons, List.length_nil, List.getElem?_cons_zero, List.getElem?_cons_succ, List.getElem?_nil, List.cons_append, List.nil_append, Nat.reduceAdd, Nat.sub_self, Nat.add_zero, List.filter])
    refine RetK.auto 1 (Nat.le_refl 1) ?_ rfl ?_ <;> simp only [go_sem, reduceCtorEq, reduceIte, Nat.reduceEqDiff, Nat.reduceLT, Nat.reduceLeDiff, Int.natCast_succ, fromL, gsR]
  · have j2 : (V.length : Int) - (U.length : Int) = ((V.take (V.length - U.length)).length : Int) := by rw [List.length_take]; omega
    have j3 : (m : Int) + (V.length : Int) - (U.length : Int) = ((m + (V.take (V.length - U.length)).length : Nat) : Int) := by rw [List.length_take]; omega
    have hr : P ++ (U ++ (V ++ Q)) = P ++ (U ++ (V.take (V.length - U.length) ++ (V.drop (V.length - U.length) ++ Q))) := by
      rw [← List.append_assoc (V.take _), List.take_append_drop]
    have k := swapRange_io P U (V.take (V.length - U.length)) (V.drop (V.length - U.length)) Q U.length P.length (m + (V.take (V.length - U.length)).length) F rfl (by simp; omega) rfl (by omega) (by simp; omega)
    rw [hr]
    have hR' : P ++ (V.take (V.length - U.length) ++ (V.drop (V.length - U.length) ++ (U ++ Q))) = R := by
      rw [← hR, ← List.append_assoc (V.take _), List.take_append_drop]
    have hl1 : (V.take (V.length - U.length)).length = V.length - U.length := by rw [List.length_take]; omega
    have hl2 : (V.drop (V.length - U.length)).length = U.length := by simp; omega
    have hne : ¬ (U.length : Int) = (V.length : Int) := by omega
    generalize V.take (V.length - U.length) = V1 at *
    generalize V.drop (V.length - U.length) = V2 at *
    (repeat' first | with_reducible (first | intro _ | refine rc ?_ | refine rl ?_ | refine rh ?_ | refine rt ?_ | refine rf ?_ | refine rs ?_ | refine And.intro ?_ ?_) | omega | simp (maxSteps := 1000000) only [go_sem, simprocAttr, ↓reduceIte, j1, j3, hne])
    refine VcCall.io [0] k (by decide) (by simp [renL, ren, ioN]) rfl (by simp [subOk, ioN, lk, Item.ren, Item.below, gsR, renR_ok, belowR_ok]) covG1 1 (by decide) rfl (by simp [rowsB, Item.below, gsR, belowR_ok]) ?_
    (repeat' first | with_reducible (first | intro _ | refine rc ?_ | refine rl ?_ | refine rh ?_ | refine rt ?_ | refine rf ?_ | refine rs ?_ | refine And.intro ?_ ?_) | omega | simp (maxSteps := 1000000) only [go_sem, simprocAttr, ↓reduceIte, S.ioS, ioRows, ioN, delL, Item.ren, gsR, renR_ok, List.length_cons, List.length_nil, List.getElem?_cons_zero, List.getElem?_cons_succ, List.getElem?_nil, List.cons_append, List.nil_append, Nat.reduceAdd, Nat.sub_self, Nat.add_zero, List.filter, j2])
    refine ⟨⟨P, V2, V1, U ++ Q⟩, Ent.autoK 1 rfl (Nat.le_refl 1) ?_ ?_, ⟨by dsimp only; omega, by dsimp only; omega, by dsimp only; omega, by simp; omega, hR'⟩, by dsimp only; omega⟩
    · simp only [go_sem, reduceCtorEq, reduceIte, Nat.reduceEqDiff, Nat.reduceLT, Nat.reduceLeDiff, Int.natCast_succ, fromL, gsR, hl2]
    · simp only [go_sem, reduceCtorEq, reduceIte, Nat.reduceEqDiff, Nat.reduceLT, Nat.reduceLeDiff, Int.natCast_succ, fromL, gsR, hl2]
end Go.Fv.Y

/- The stable sort of guesses: the walk of a merge, where one side has one element. -/
namespace Go.Fv.Y
open Go Go.Proofs
set_option linter.unusedSimpArgs false
set_option linter.unusedVariables false
set_option linter.unnecessarySimpa false
set_option maxRecDepth 8000

theorem half_sum (x y : Nat) : shrI .u64 ((x : Int) + (y : Int)) 1 = (((x + y) / 2 : Nat) : Int) := by
  show Int.fdiv _ 2 = _
  rw [Int.fdiv_eq_ediv_of_nonneg _ (by decide)]; omega
set_option maxHeartbeats 16000000 in
theorem symFirst_io (F : Nat) (hF : CmpG F) (P V Q : List Gs) (x : Gs) (a m b : Nat) (ha : a = P.length) (hm : m = P.length + 1) (hb : b = P.length + 1 + V.length) (hV : Srt V) (hS : Stab (x :: V)) (hN : P.length + 1 + V.length + Q.length ≤ 1000000) :
    FnIO Tryz.prog 156 [.own 0, .int .i64 a, .int .i64 m, .int .i64 b, .fn F []] [(0, .row 41 (gsR (P ++ ([x] ++ (V ++ Q)))))] 1 (.tup []) [(0, .row 41 (gsR (P ++ (sortG (x :: V) ++ Q))))] := by
  refine FnIO.of_vc Tryz.func156 rfl (by decide) (by simp [Tryz.f156]) covG1 [] rfl fun w0 T0 _ => ?_
  simp only [Tryz.f156, argEnv]
  generalize hR : sortG (x :: V) = R
  have i1 : (m : Int) - (a : Int) = 1 := by omega
  have hWl : (P ++ ([x] ++ (V ++ Q))).length = P.length + 1 + V.length + Q.length := by simp; omega
  have eV : ∀ g, g < V.length → ((P ++ ([x] ++ (V ++ Q))).map Gs.av).getD (m + g) [] = [.str (gd V g).t, .int .i64 (gd V g).d, .int .i64 (gd V g).c] := fun g hg => by
    rw [gs_elem _ (by omega)]
    have := gd_right (P := P) (U := [x]) Q (V := V) (i := g) (k := m + g) (by simp; omega) hg
    unfold gd at this ⊢
    rw [this]
  have ex : ((P ++ ([x] ++ (V ++ Q))).map Gs.av).getD a [] = [.str x.t, .int .i64 x.d, .int .i64 x.c] := by
    rw [gs_elem _ (by omega)]
    have := gd_left (P := P) (V ++ Q) (U := [x]) (i := 0) (k := a) (by omega) (by simp)
    unfold gd at this
    rw [this]; rfl
  have hW0 : P ++ ([x] ++ (V ++ Q)) = P ++ ((V.take 0 ++ x :: V.drop 0) ++ Q) := by simp
  generalize hW : P ++ ([x] ++ (V ++ Q)) = W at *
  have hWm : (W.map Gs.av).length = P.length + 1 + V.length + Q.length := by rw [List.length_map]; exact hWl
  (repeat' first | with_reducible (first | intro _ | refine rc ?_ | refine rl ?_ | refine rh ?_ | refine rt ?_ | refine rf ?_ | refine rs ?_ | refine And.intro ?_ ?_) | omega | simp (maxSteps := 1000000) only [go_sem, simprocAttr, ↓reduceIte, i1])
  refine VcLoop.intro (fun y : Nat × Nat => ⟨220, [(0, .own 0), (1, .int .i64 a), (2, .int .i64 m), (3, .int .i64 b), (4, .fn F []), (10, .int .i64 (m + y.1 : Nat)), (11, .int .i64 (m + y.2 : Nat))], [(0, .row 41 (gsR W))], 1⟩) (fun y => y.1 ≤ y.2 ∧ y.2 ≤ V.length ∧ (∀ i, i < y.1 → i < V.length → lt0 (gd V i) x) ∧ (∀ i, y.2 ≤ i → i < V.length → ¬ lt0 (gd V i) x)) (fun y => y.2 - y.1) (0, V.length) ?_ ⟨Nat.zero_le _, Nat.le_refl _, fun i h => by omega, fun i h1 h2 => by omega⟩ fun y hy => ?_
  · refine Ent.autoK 1 rfl (Nat.le_refl 1) ?_ ?_ <;> simp only [go_sem, reduceCtorEq, reduceIte, Nat.reduceEqDiff, Nat.reduceLT, Nat.reduceLeDiff, Int.natCast_succ, fromL, gsR]
    all_goals omega
  obtain ⟨al, be⟩ := y
  obtain ⟨h1, h2, h3, h4⟩ := hy
  dsimp only at h1 h2 h3 h4 ⊢
  by_cases hij : al < be
  · have hsh := half_sum (m + al) (m + be)
    have hmid : (m + al + (m + be)) / 2 = m + (al + be) / 2 := by omega
    rw [hmid] at hsh
    have hm1 : al ≤ (al + be) / 2 := by omega
    have hm2 : (al + be) / 2 < be := by omega
    have eg := eV ((al + be) / 2) (by omega)
    have kc := hF (gd V ((al + be) / 2)) x
    generalize hgm : (al + be) / 2 = g at *
    have hc1 : ((m + al : Nat) : Int) < ((m + be : Nat) : Int) := by omega
    (repeat' first | with_reducible (first | intro _ | refine rc ?_ | refine rl ?_ | refine rh ?_ | refine rt ?_ | refine rf ?_ | refine rs ?_ | refine And.intro ?_ ?_) | omega | simp (maxSteps := 1000000) only [go_sem, simprocAttr, ↓reduceIte, hc1])
    refine LetW.inR (InK_u64.2 (by omega)) ?_
    rw [hsh]
    (repeat' first | with_reducible (first | intro _ | refine rc ?_ | refine rl ?_ | refine rh ?_ | refine rt ?_ | refine rf ?_ | refine rs ?_ | refine And.intro ?_ ?_) | omega | simp (maxSteps := 1000000) only [go_sem, simprocAttr, ↓reduceIte, Int.toNat_natCast])
    refine VcDraw.lex [] [] (by kernel_rfl) (by kernel_rfl) ?_
    by_cases hlt0 : lt0 (gd V g) x
    · have hcn := cf_neg hlt0
      have hinv : g + 1 ≤ be ∧ be ≤ V.length ∧ (∀ i, i < g + 1 → i < V.length → lt0 (gd V i) x) ∧ (∀ i, be ≤ i → i < V.length → ¬ lt0 (gd V i) x) := ⟨by omega, h2, fun i hi hl => by
        have := nlt_chain hV (i := i) (j := g) (by omega) (by omega)
        unfold lt0 at *; omega, h4⟩
      generalize cfG (gd V g) x = cv at *
      generalize gd V g = v at *
      (repeat' first | with_reducible (first | intro _ | refine rc ?_ | refine rl ?_ | refine rh ?_ | refine rt ?_ | refine rf ?_ | refine rs ?_ | refine And.intro ?_ ?_) | omega | simp (maxSteps := 1000000) only [go_sem, simprocAttr, ↓reduceIte, Int.toNat_natCast, elemA, eg, ex, gsR])
      refine QV.intro (.int .i64 cv) ?_ ?_
      · (repeat' first | with_reducible (first | intro _ | refine rc ?_ | refine rl ?_ | refine rh ?_ | refine rt ?_ | refine rf ?_ | refine rs ?_ | refine And.intro ?_ ?_) | omega | simp (maxSteps := 1000000) only [go_sem, simprocAttr, ↓reduceIte, Int.toNat_natCast, elemA, eg, ex, gsR])
        refine VcCall.k (kc) ?_
        (repeat' first | with_reducible (first | intro _ | refine rc ?_ | refine rl ?_ | refine rh ?_ | refine rt ?_ | refine rf ?_ | refine rs ?_ | refine And.intro ?_ ?_) | omega | simp (maxSteps := 1000000) only [go_sem, simprocAttr, ↓reduceIte, gsR])
      (repeat' first | with_reducible (first | intro _ | refine rc ?_ | refine rl ?_ | refine rh ?_ | refine rt ?_ | refine rf ?_ | refine rs ?_ | refine And.intro ?_ ?_) | omega | simp (maxSteps := 1000000) only [go_sem, simprocAttr, ↓reduceIte, hcn, gsR])
      refine ⟨(g + 1, be), Ent.autoK 1 rfl (Nat.le_refl 1) ?_ ?_, hinv, by dsimp only; omega⟩ <;> simp only [go_sem, reduceCtorEq, reduceIte, Nat.reduceEqDiff, Nat.reduceLT, Nat.reduceLeDiff, Int.natCast_succ, fromL, gsR]
      all_goals omega
    · have hcn := cf_not hlt0
      have hinv : al ≤ g ∧ g ≤ V.length ∧ (∀ i, i < al → i < V.length → lt0 (gd V i) x) ∧ (∀ i, g ≤ i → i < V.length → ¬ lt0 (gd V i) x) := ⟨hm1, by omega, h3, fun i hi hl => by
        have := nlt_chain hV (i := g) (j := i) hi hl
        exact nlt_trans hlt0 this⟩
      generalize cfG (gd V g) x = cv at *
      generalize gd V g = v at *
      (repeat' first | with_reducible (first | intro _ | refine rc ?_ | refine rl ?_ | refine rh ?_ | refine rt ?_ | refine rf ?_ | refine rs ?_ | refine And.intro ?_ ?_) | omega | simp (maxSteps := 1000000) only [go_sem, simprocAttr, ↓reduceIte, Int.toNat_natCast, elemA, eg, ex, gsR])
      refine QV.intro (.int .i64 cv) ?_ ?_
      · (repeat' first | with_reducible (first | intro _ | refine rc ?_ | refine rl ?_ | refine rh ?_ | refine rt ?_ | refine rf ?_ | refine rs ?_ | refine And.intro ?_ ?_) | omega | simp (maxSteps := 1000000) only [go_sem, simprocAttr, ↓reduceIte, Int.toNat_natCast, elemA, eg, ex, gsR])
        refine VcCall.k (kc) ?_
        (repeat' first | with_reducible (first | intro _ | refine rc ?_ | refine rl ?_ | refine rh ?_ | refine rt ?_ | refine rf ?_ | refine rs ?_ | refine And.intro ?_ ?_) | omega | simp (maxSteps := 1000000) only [go_sem, simprocAttr, ↓reduceIte, gsR])
      (repeat' first | with_reducible (first | intro _ | refine rc ?_ | refine rl ?_ | refine rh ?_ | refine rt ?_ | refine rf ?_ | refine rs ?_ | refine And.intro ?_ ?_) | omega | simp (maxSteps := 1000000) only [go_sem, simprocAttr, ↓reduceIte, hcn, gsR])
      refine ⟨(al, g), Ent.autoK 1 rfl (Nat.le_refl 1) ?_ ?_, hinv, by dsimp only; omega⟩ <;> simp only [go_sem, reduceCtorEq, reduceIte, Nat.reduceEqDiff, Nat.reduceLT, Nat.reduceLeDiff, Int.natCast_succ, fromL, gsR]
  have e : be = al := by omega
  subst e
  have hend : V.take be ++ x :: V.drop be = R := by rw [← hR]; exact merge_first hV hS h3 h4
  have hc1 : ¬ ((m + be : Nat) : Int) < ((m + be : Nat) : Int) := by omega
  have m1 : ((m + be : Nat) : Int) - 1 = ((a + be : Nat) : Int) := by omega
  clear h3 h4 hij
  (repeat' first | with_reducible (first | intro _ | refine rc ?_ | refine rl ?_ | refine rh ?_ | refine rt ?_ | refine rf ?_ | refine rs ?_ | refine And.intro ?_ ?_) | omega | simp (maxSteps := 1000000) only [go_sem, simprocAttr, ↓reduceIte, hc1])
  refine VcLoop.intro (fun k : Nat => ⟨220, [(0, .own 0), (1, .int .i64 a), (2, .int .i64 m), (3, .int .i64 b), (4, .fn F []), (10, .int .i64 (m + be : Nat)), (13, .int .i64 (a + k : Nat))], [(0, .row 41 (gsR (P ++ ((V.take k ++ x :: V.drop k) ++ Q))))], 1⟩) (fun k => k ≤ be) (fun k => be - k) 0 ?_ (Nat.zero_le _) fun k hk => ?_
  · refine Ent.autoK 1 rfl (Nat.le_refl 1) ?_ ?_ <;> simp only [go_sem, reduceCtorEq, reduceIte, Nat.reduceEqDiff, Nat.reduceLT, Nat.reduceLeDiff, Int.natCast_succ, fromL, gsR, hW0]
  have hlk : (P ++ ((V.take k ++ x :: V.drop k) ++ Q)).length = P.length + 1 + V.length + Q.length := by simp; omega
  by_cases hkb : k < be
  · have hkl : k < V.length := by omega
    have hsw : SwapF ((P ++ ((V.take k ++ x :: V.drop k) ++ Q)).map Gs.av) ((P ++ ((V.take (k + 1) ++ x :: V.drop (k + 1)) ++ Q)).map Gs.av) (a + k) (a + (k + 1)) x (gd V k) := by
      refine swapF (A := P ++ V.take k) (B := []) (C := V.drop (k + 1) ++ Q) ?_ ?_ ?_ ?_
      · rw [List.drop_eq_getElem_cons hkl, ← gd_get hkl]; simp
      · rw [List.take_succ_eq_append_getElem hkl, ← gd_get hkl]; simp
      · simp; omega
      · simp; omega
    obtain ⟨hl, hl', e1, e2, s1, s2, t1, t2⟩ := hsw
    generalize gd V k = v at *
    have hc2 : ((a + k : Nat) : Int) < ((a + be : Nat) : Int) := by omega
    have n1 : ((a + k : Nat) : Int) + 1 = ((a + (k + 1) : Nat) : Int) := by omega
    generalize P ++ ((V.take k ++ x :: V.drop k) ++ Q) = W1 at *
    generalize hW2 : P ++ ((V.take (k + 1) ++ x :: V.drop (k + 1)) ++ Q) = W2 at *
    (repeat' first | with_reducible (first | intro _ | refine rc ?_ | refine rl ?_ | refine rh ?_ | refine rt ?_ | refine rf ?_ | refine rs ?_ | refine And.intro ?_ ?_) | omega | simp (maxSteps := 1000000) only [go_sem, simprocAttr, ↓reduceIte, m1, hc2, n1, gsR])
    refine VcDraw.lex [15, 17] [(2, [1]), (3, [1]), (4, [1])] (by kernel_rfl) (by kernel_rfl) ?_
    (repeat' first | with_reducible (first | intro _ | refine rc ?_ | refine rl ?_ | refine rh ?_ | refine rt ?_ | refine rf ?_ | refine rs ?_ | refine And.intro ?_ ?_) | omega | simp (maxSteps := 1000000) only [go_sem, simprocAttr, ↓reduceIte, m1, hc2, n1, gsR, Int.toNat_natCast, elemA, e1, e2, s1, s2, t1, t2])
    refine ⟨k + 1, Ent.autoK 1 rfl (Nat.le_refl 1) ?_ ?_, by omega, by omega⟩ <;> simp only [go_sem, reduceCtorEq, reduceIte, Nat.reduceEqDiff, Nat.reduceLT, Nat.reduceLeDiff, Int.natCast_succ, fromL, gsR, n1, hW2]
  · have e : k = be := by omega
    subst e
    rw [hend]
    have hc2 : ¬ ((a + k : Nat) : Int) < ((a + k : Nat) : Int) := by omega
    (repeat' first | with_reducible (first | intro _ | refine rc ?_ | refine rl ?_ | refine rh ?_ | refine rt ?_ | refine rf ?_ | refine rs ?_ | refine And.intro ?_ ?_) | omega | simp (maxSteps := 1000000) only [go_sem, simprocAttr, ↓reduceIte, m1, hc2])
    refine RetK.auto 1 (Nat.le_refl 1) ?_ rfl ?_ <;> simp only [go_sem, reduceCtorEq, reduceIte, Nat.reduceEqDiff, Nat.reduceLT, Nat.reduceLeDiff, Int.natCast_succ, fromL, gsR]
end Go.Fv.Y

/- The stable sort of guesses: the walk of a merge, where the second side has one element. -/
namespace Go.Fv.Y
open Go Go.Proofs
set_option linter.unusedSimpArgs false
set_option linter.unusedVariables false
set_option linter.unnecessarySimpa false
set_option maxRecDepth 8000

set_option maxHeartbeats 16000000 in
theorem symLast_io (F : Nat) (hF : CmpG F) (P U Q : List Gs) (y : Gs) (a m b : Nat) (ha : a = P.length) (hm : m = P.length + U.length) (hb : b = P.length + U.length + 1) (h2U : 2 ≤ U.length) (hU : Srt U) (hS : Stab (U ++ [y])) (hN : P.length + U.length + 1 + Q.length ≤ 1000000) :
    FnIO Tryz.prog 156 [.own 0, .int .i64 a, .int .i64 m, .int .i64 b, .fn F []] [(0, .row 41 (gsR (P ++ (U ++ ([y] ++ Q)))))] 1 (.tup []) [(0, .row 41 (gsR (P ++ (sortG (U ++ [y]) ++ Q))))] := by
  refine FnIO.of_vc Tryz.func156 rfl (by decide) (by simp [Tryz.f156]) covG1 [] rfl fun w0 T0 _ => ?_
  simp only [Tryz.f156, argEnv]
  generalize hR : sortG (U ++ [y]) = R
  have i1 : ¬ (m : Int) - (a : Int) = 1 := by omega
  have i2 : (b : Int) - (m : Int) = 1 := by omega
  have hWl : (P ++ (U ++ ([y] ++ Q))).length = P.length + U.length + 1 + Q.length := by simp; omega
  have eU : ∀ g, g < U.length → ((P ++ (U ++ ([y] ++ Q))).map Gs.av).getD (a + g) [] = [.str (gd U g).t, .int .i64 (gd U g).d, .int .i64 (gd U g).c] := fun g hg => by
    rw [gs_elem _ (by omega)]
    have := gd_left (P := P) ([y] ++ Q) (U := U) (i := g) (k := a + g) (by omega) hg
    unfold gd at this ⊢
    rw [this]
  have ey : ((P ++ (U ++ ([y] ++ Q))).map Gs.av).getD m [] = [.str y.t, .int .i64 y.d, .int .i64 y.c] := by
    rw [gs_elem _ (by omega)]
    have := gd_right (P := P) (U := U) Q (V := [y]) (i := 0) (k := m) (by omega) (by simp)
    unfold gd at this
    rw [this]; rfl
  have hW0 : P ++ (U ++ ([y] ++ Q)) = P ++ ((U.take U.length ++ y :: U.drop U.length) ++ Q) := by simp
  generalize hW : P ++ (U ++ ([y] ++ Q)) = W at *
  have hWm : (W.map Gs.av).length = P.length + U.length + 1 + Q.length := by rw [List.length_map]; exact hWl
  (repeat' first | with_reducible (first | intro _ | refine rc ?_ | refine rl ?_ | refine rh ?_ | refine rt ?_ | refine rf ?_ | refine rs ?_ | refine And.intro ?_ ?_) | omega | simp (maxSteps := 1000000) only [go_sem, simprocAttr, ↓reduceIte, i1, i2])
  refine VcLoop.intro (fun z : Nat × Nat => ⟨220, [(0, .own 0), (1, .int .i64 a), (2, .int .i64 m), (3, .int .i64 b), (4, .fn F []), (14, .int .i64 (a + z.1 : Nat)), (15, .int .i64 (a + z.2 : Nat))], [(0, .row 41 (gsR W))], 1⟩) (fun z => z.1 ≤ z.2 ∧ z.2 ≤ U.length ∧ (∀ i, i < z.1 → i < U.length → ¬ lt0 y (gd U i)) ∧ (∀ i, z.2 ≤ i → i < U.length → lt0 y (gd U i))) (fun z => z.2 - z.1) (0, U.length) ?_ ⟨Nat.zero_le _, Nat.le_refl _, fun i h => by omega, fun i h1 h2 => by omega⟩ fun z hz => ?_
  · refine Ent.autoK 1 rfl (Nat.le_refl 1) ?_ ?_ <;> simp only [go_sem, reduceCtorEq, reduceIte, Nat.reduceEqDiff, Nat.reduceLT, Nat.reduceLeDiff, Int.natCast_succ, fromL, gsR]
    all_goals omega
  obtain ⟨al, be⟩ := z
  obtain ⟨h1, h2, h3, h4⟩ := hz
  dsimp only at h1 h2 h3 h4 ⊢
  by_cases hij : al < be
  · have hsh := half_sum (a + al) (a + be)
    have hmid : (a + al + (a + be)) / 2 = a + (al + be) / 2 := by omega
    rw [hmid] at hsh
    have hm1 : al ≤ (al + be) / 2 := by omega
    have hm2 : (al + be) / 2 < be := by omega
    have eg := eU ((al + be) / 2) (by omega)
    have kc := hF y (gd U ((al + be) / 2))
    generalize hgm : (al + be) / 2 = g at *
    have hc1 : ((a + al : Nat) : Int) < ((a + be : Nat) : Int) := by omega
    (repeat' first | with_reducible (first | intro _ | refine rc ?_ | refine rl ?_ | refine rh ?_ | refine rt ?_ | refine rf ?_ | refine rs ?_ | refine And.intro ?_ ?_) | omega | simp (maxSteps := 1000000) only [go_sem, simprocAttr, ↓reduceIte, hc1])
    refine LetW.inR (InK_u64.2 (by omega)) ?_
    rw [hsh]
    (repeat' first | with_reducible (first | intro _ | refine rc ?_ | refine rl ?_ | refine rh ?_ | refine rt ?_ | refine rf ?_ | refine rs ?_ | refine And.intro ?_ ?_) | omega | simp (maxSteps := 1000000) only [go_sem, simprocAttr, ↓reduceIte, Int.toNat_natCast])
    refine VcDraw.lex [] [] (by kernel_rfl) (by kernel_rfl) ?_
    by_cases hlt0 : lt0 y (gd U g)
    · have hcn := cf_neg hlt0
      have hinv : al ≤ g ∧ g ≤ U.length ∧ (∀ i, i < al → i < U.length → ¬ lt0 y (gd U i)) ∧ (∀ i, g ≤ i → i < U.length → lt0 y (gd U i)) := ⟨hm1, by omega, h3, fun i hi hl => by
        have := nlt_chain hU (i := g) (j := i) hi hl
        unfold lt0 at *; omega⟩
      generalize cfG y (gd U g) = cv at *
      generalize gd U g = v at *
      (repeat' first | with_reducible (first | intro _ | refine rc ?_ | refine rl ?_ | refine rh ?_ | refine rt ?_ | refine rf ?_ | refine rs ?_ | refine And.intro ?_ ?_) | omega | simp (maxSteps := 1000000) only [go_sem, simprocAttr, ↓reduceIte, Int.toNat_natCast, elemA, eg, ey, gsR])
      refine QV.intro (.int .i64 cv) ?_ ?_
      · (repeat' first | with_reducible (first | intro _ | refine rc ?_ | refine rl ?_ | refine rh ?_ | refine rt ?_ | refine rf ?_ | refine rs ?_ | refine And.intro ?_ ?_) | omega | simp (maxSteps := 1000000) only [go_sem, simprocAttr, ↓reduceIte, Int.toNat_natCast, elemA, eg, ey, gsR])
        refine VcCall.k (kc) ?_
        (repeat' first | with_reducible (first | intro _ | refine rc ?_ | refine rl ?_ | refine rh ?_ | refine rt ?_ | refine rf ?_ | refine rs ?_ | refine And.intro ?_ ?_) | omega | simp (maxSteps := 1000000) only [go_sem, simprocAttr, ↓reduceIte, gsR])
      (repeat' first | with_reducible (first | intro _ | refine rc ?_ | refine rl ?_ | refine rh ?_ | refine rt ?_ | refine rf ?_ | refine rs ?_ | refine And.intro ?_ ?_) | omega | simp (maxSteps := 1000000) only [go_sem, simprocAttr, ↓reduceIte, hcn, gsR])
      refine ⟨(al, g), Ent.autoK 1 rfl (Nat.le_refl 1) ?_ ?_, hinv, by dsimp only; omega⟩ <;> simp only [go_sem, reduceCtorEq, reduceIte, Nat.reduceEqDiff, Nat.reduceLT, Nat.reduceLeDiff, Int.natCast_succ, fromL, gsR]
    · have hcn := cf_not hlt0
      have hinv : g + 1 ≤ be ∧ be ≤ U.length ∧ (∀ i, i < g + 1 → i < U.length → ¬ lt0 y (gd U i)) ∧ (∀ i, be ≤ i → i < U.length → lt0 y (gd U i)) := ⟨by omega, h2, fun i hi hl => by
        have := nlt_chain hU (i := i) (j := g) (by omega) (by omega)
        exact nlt_trans this hlt0, h4⟩
      generalize cfG y (gd U g) = cv at *
      generalize gd U g = v at *
      (repeat' first | with_reducible (first | intro _ | refine rc ?_ | refine rl ?_ | refine rh ?_ | refine rt ?_ | refine rf ?_ | refine rs ?_ | refine And.intro ?_ ?_) | omega | simp (maxSteps := 1000000) only [go_sem, simprocAttr, ↓reduceIte, Int.toNat_natCast, elemA, eg, ey, gsR])
      refine QV.intro (.int .i64 cv) ?_ ?_
      · (repeat' first | with_reducible (first | intro _ | refine rc ?_ | refine rl ?_ | refine rh ?_ | refine rt ?_ | refine rf ?_ | refine rs ?_ | refine And.intro ?_ ?_) | omega | simp (maxSteps := 1000000) only [go_sem, simprocAttr, ↓reduceIte, Int.toNat_natCast, elemA, eg, ey, gsR])
        refine VcCall.k (kc) ?_
        (repeat' first | with_reducible (first | intro _ | refine rc ?_ | refine rl ?_ | refine rh ?_ | refine rt ?_ | refine rf ?_ | refine rs ?_ | refine And.intro ?_ ?_) | omega | simp (maxSteps := 1000000) only [go_sem, simprocAttr, ↓reduceIte, gsR])
      (repeat' first | with_reducible (first | intro _ | refine rc ?_ | refine rl ?_ | refine rh ?_ | refine rt ?_ | refine rf ?_ | refine rs ?_ | refine And.intro ?_ ?_) | omega | simp (maxSteps := 1000000) only [go_sem, simprocAttr, ↓reduceIte, hcn, gsR])
      refine ⟨(g + 1, be), Ent.autoK 1 rfl (Nat.le_refl 1) ?_ ?_, hinv, by dsimp only; omega⟩ <;> simp only [go_sem, reduceCtorEq, reduceIte, Nat.reduceEqDiff, Nat.reduceLT, Nat.reduceLeDiff, Int.natCast_succ, fromL, gsR]
      all_goals omega
  have e : be = al := by omega
  subst e
  have hend : U.take be ++ y :: U.drop be = R := by rw [← hR]; exact merge_last hU hS h3 h4
  have hc1 : ¬ ((a + be : Nat) : Int) < ((a + be : Nat) : Int) := by omega
  have hma : (m : Int) = ((a + U.length : Nat) : Int) := by omega
  clear h3 h4 hij
  (repeat' first | with_reducible (first | intro _ | refine rc ?_ | refine rl ?_ | refine rh ?_ | refine rt ?_ | refine rf ?_ | refine rs ?_ | refine And.intro ?_ ?_) | omega | simp (maxSteps := 1000000) only [go_sem, simprocAttr, ↓reduceIte, hc1])
  refine VcLoop.intro (fun k : Nat => ⟨220, [(0, .own 0), (1, .int .i64 a), (2, .int .i64 m), (3, .int .i64 b), (4, .fn F []), (14, .int .i64 (a + be : Nat)), (17, .int .i64 (a + k : Nat))], [(0, .row 41 (gsR (P ++ ((U.take k ++ y :: U.drop k) ++ Q))))], 1⟩) (fun k => be ≤ k ∧ k ≤ U.length) (fun k => k) U.length ?_ ⟨h2, Nat.le_refl _⟩ fun k hk => ?_
  · refine Ent.autoK 1 rfl (Nat.le_refl 1) ?_ ?_ <;> simp only [go_sem, reduceCtorEq, reduceIte, Nat.reduceEqDiff, Nat.reduceLT, Nat.reduceLeDiff, Int.natCast_succ, fromL, gsR, hW0, hma]
  obtain ⟨hk1, hk2⟩ := hk
  by_cases hkb : be < k
  · obtain ⟨k, rfl⟩ : ∃ k', k = k' + 1 := ⟨k - 1, by omega⟩
    have hkl : k < U.length := by omega
    have hlk : (P ++ ((U.take (k + 1) ++ y :: U.drop (k + 1)) ++ Q)).length = P.length + U.length + 1 + Q.length := by simp; omega
    have hsw : SwapF ((P ++ ((U.take (k + 1) ++ y :: U.drop (k + 1)) ++ Q)).map Gs.av) ((P ++ ((U.take k ++ y :: U.drop k) ++ Q)).map Gs.av) (a + k) (a + (k + 1)) (gd U k) y := by
      refine swapF (A := P ++ U.take k) (B := []) (C := U.drop (k + 1) ++ Q) ?_ ?_ ?_ ?_
      · rw [List.take_succ_eq_append_getElem hkl, ← gd_get hkl]; simp
      · rw [List.drop_eq_getElem_cons hkl, ← gd_get hkl]; simp
      · simp; omega
      · simp; omega
    obtain ⟨hl, hl', e1, e2, s1, s2, t1, t2⟩ := hsw
    generalize gd U k = v at *
    have hc2 : ((a + be : Nat) : Int) < ((a + (k + 1) : Nat) : Int) := by omega
    have n1 : ((a + (k + 1) : Nat) : Int) - 1 = ((a + k : Nat) : Int) := by omega
    generalize hW2 : P ++ ((U.take k ++ y :: U.drop k) ++ Q) = W2 at *
    generalize P ++ ((U.take (k + 1) ++ y :: U.drop (k + 1)) ++ Q) = W1 at *
    (repeat' first | with_reducible (first | intro _ | refine rc ?_ | refine rl ?_ | refine rh ?_ | refine rt ?_ | refine rf ?_ | refine rs ?_ | refine And.intro ?_ ?_) | omega | simp (maxSteps := 1000000) only [go_sem, simprocAttr, ↓reduceIte, hc2, n1, gsR])
    refine VcDraw.lex [15, 17] [(2, [1]), (3, [1]), (4, [1])] (by kernel_rfl) (by kernel_rfl) ?_
    (repeat' first | with_reducible (first | intro _ | refine rc ?_ | refine rl ?_ | refine rh ?_ | refine rt ?_ | refine rf ?_ | refine rs ?_ | refine And.intro ?_ ?_) | omega | simp (maxSteps := 1000000) only [go_sem, simprocAttr, ↓reduceIte, hc2, n1, gsR, Int.toNat_natCast, elemA, e1, e2, s1, s2, t1, t2])
    refine ⟨k, Ent.autoK 1 rfl (Nat.le_refl 1) ?_ ?_, ⟨by omega, by omega⟩, by omega⟩ <;> simp only [go_sem, reduceCtorEq, reduceIte, Nat.reduceEqDiff, Nat.reduceLT, Nat.reduceLeDiff, Int.natCast_succ, fromL, gsR, n1, hW2]
  · have e : k = be := by omega
    subst e
    rw [hend]
    have hc2 : ¬ ((a + k : Nat) : Int) < ((a + k : Nat) : Int) := by omega
    (repeat' first | with_reducible (first | intro _ | refine rc ?_ | refine rl ?_ | refine rh ?_ | refine rt ?_ | refine rf ?_ | refine rs ?_ | refine And.intro ?_ ?_) | omega | simp (maxSteps := 1000000) only [go_sem, simprocAttr, ↓reduceIte, hc2])
    refine RetK.auto 1 (Nat.le_refl 1) ?_ rfl ?_ <;> simp only [go_sem, reduceCtorEq, reduceIte, Nat.reduceEqDiff, Nat.reduceLT, Nat.reduceLeDiff, Int.natCast_succ, fromL, gsR]
end Go.Fv.Y

/- The stable sort of guesses: the walk of a merge in general. -/
namespace Go.Fv.Y
open Go Go.Proofs
set_option linter.unusedSimpArgs false
set_option linter.unusedVariables false
set_option linter.unnecessarySimpa false
set_option maxRecDepth 8000

def SymOk (F n : Nat) : Prop := ∀ (P U V Q : List Gs) (a m b : Nat), a = P.length → m = P.length + U.length → b = P.length + U.length + V.length → 0 < U.length → 0 < V.length → U.length + V.length ≤ n → Srt U → Srt V → Stab (U ++ V) → P.length + U.length + V.length + Q.length ≤ 1000000 →
    FnIO Tryz.prog 156 [.own 0, .int .i64 a, .int .i64 m, .int .i64 b, .fn F []] [(0, .row 41 (gsR (P ++ (U ++ (V ++ Q)))))] 1 (.tup []) [(0, .row 41 (gsR (P ++ (sortG (U ++ V) ++ Q))))]
/-- What is left when the search has ended: three calls, or fewer. -/
structure RestG (F : Nat) (W0 W3 : List Gs) (a m b md s : Nat) : Prop where
  ex : ∃ W1 W2 : List Gs,
    (s < m → s < md → FnIO Tryz.prog 173 [.own 0, .int .i64 s, .int .i64 m, .int .i64 (md + m - s : Nat), .fn F []] [(0, .row 41 (gsR W0))] 1 (.tup []) [(0, .row 41 (gsR W1))]) ∧
    (¬ (s < m ∧ s < md) → W0 = W1) ∧
    (a < s → s < md → FnIO Tryz.prog 156 [.own 0, .int .i64 a, .int .i64 s, .int .i64 md, .fn F []] [(0, .row 41 (gsR W1))] 1 (.tup []) [(0, .row 41 (gsR W2))]) ∧
    (¬ (a < s ∧ s < md) → W1 = W2) ∧
    (s < m → md + m - s < b → FnIO Tryz.prog 156 [.own 0, .int .i64 md, .int .i64 (md + m - s : Nat), .int .i64 b, .fn F []] [(0, .row 41 (gsR W2))] 1 (.tup []) [(0, .row 41 (gsR W3))]) ∧
    (¬ (s < m ∧ md + m - s < b) → W2 = W3)
theorem restG {F n : Nat} (hI : SymOk F n) {P U V Q : List Gs} {a m b md s : Nat} (ha : a = P.length) (hm : m = P.length + U.length) (hb : b = P.length + U.length + V.length) (hn : U.length + V.length ≤ n + 1) (h1 : a < md) (h2 : md < b)
    (hs1 : a ≤ s) (hs2 : s ≤ m) (hs3 : s ≤ md) (hs4 : md + m ≤ b + s) (hU : Srt U) (hV : Srt V) (hS : Stab (U ++ V)) (hN : P.length + U.length + V.length + Q.length ≤ 1000000) (hc : CutG U V (s - a) (md - s)) :
    RestG F (P ++ (U ++ (V ++ Q))) (P ++ (sortG (U ++ V) ++ Q)) a m b md s := by
  have hm3 := hc.merge hU hV hS
  have tU := List.take_append_drop (s - a) U
  have tV := List.take_append_drop (md - s) V
  have l1 : (U.take (s - a)).length = s - a := by rw [List.length_take]; omega
  have l2 : (U.drop (s - a)).length = m - s := by rw [List.length_drop]; omega
  have l3 : (V.take (md - s)).length = md - s := by rw [List.length_take]; omega
  have l4 : (V.drop (md - s)).length = b + s - (md + m) := by rw [List.length_drop]; omega
  have sU1 := hU.take (s - a)
  have sU2 := hU.drop (s - a)
  have sV1 := hV.take (md - s)
  have sV2 := hV.drop (md - s)
  have st1 := stab_takes hS (s - a) (md - s)
  have st2 := stab_drops hS (s - a) (md - s)
  rw [← hm3]
  have hUl : U.length = (s - a) + (m - s) := by omega
  have hVl : V.length = (md - s) + (b + s - (md + m)) := by omega
  clear hm3 hc hU hV hS
  generalize U.take (s - a) = U1 at *
  generalize U.drop (s - a) = U2 at *
  generalize V.take (md - s) = V1 at *
  generalize V.drop (md - s) = V2 at *
  have sl1 : (sortG (U1 ++ V1)).length = md - a := by rw [sortG_len, List.length_append]; omega
  refine ⟨P ++ (U1 ++ (V1 ++ (U2 ++ (V2 ++ Q)))), P ++ (sortG (U1 ++ V1) ++ (U2 ++ (V2 ++ Q))), fun c1 c2 => ?_, fun c => ?_, fun c1 c2 => ?_, fun c => ?_, fun c1 c2 => ?_, fun c => ?_⟩
  · have k := rotate_io (P ++ U1) U2 V1 (V2 ++ Q) s m (md + m - s) F (by rw [List.length_append]; omega) (by rw [List.length_append]; omega) (by rw [List.length_append]; omega) (by omega) (by omega) (by simp only [List.length_append]; omega)
    have e1 : (P ++ U1) ++ (U2 ++ (V1 ++ (V2 ++ Q))) = P ++ (U ++ (V ++ Q)) := by rw [← tU, ← tV]; simp
    have e2 : (P ++ U1) ++ (V1 ++ (U2 ++ (V2 ++ Q))) = P ++ (U1 ++ (V1 ++ (U2 ++ (V2 ++ Q)))) := by simp
    rw [e1, e2] at k
    exact k
  · rw [← tU, ← tV]
    by_cases c1 : s < m
    · have : V1 = [] := List.eq_nil_of_length_eq_zero (by omega)
      subst this; simp
    · have : U2 = [] := List.eq_nil_of_length_eq_zero (by omega)
      subst this; simp
  · exact hI P U1 V1 (U2 ++ (V2 ++ Q)) a s md ha (by omega) (by omega) (by omega) (by omega) (by omega) sU1 sV1 st1 (by simp only [List.length_append]; omega)
  · have : sortG (U1 ++ V1) = U1 ++ V1 := by
      by_cases c1 : a < s
      · have : V1 = [] := List.eq_nil_of_length_eq_zero (by omega)
        subst this
        rw [List.append_nil] at st1 ⊢
        exact sortG_self sU1 st1
      · have : U1 = [] := List.eq_nil_of_length_eq_zero (by omega)
        subst this
        exact sortG_self sV1 st1
    rw [this]; simp
  · have k := hI (P ++ sortG (U1 ++ V1)) U2 V2 Q md (md + m - s) b (by rw [List.length_append]; omega) (by rw [List.length_append]; omega) (by rw [List.length_append]; omega) (by omega) (by omega) (by omega) sU2 sV2 st2 (by rw [List.length_append]; omega)
    have e1 : (P ++ sortG (U1 ++ V1)) ++ (U2 ++ (V2 ++ Q)) = P ++ (sortG (U1 ++ V1) ++ (U2 ++ (V2 ++ Q))) := by simp
    have e2 : (P ++ sortG (U1 ++ V1)) ++ (sortG (U2 ++ V2) ++ Q) = P ++ ((sortG (U1 ++ V1) ++ sortG (U2 ++ V2)) ++ Q) := by simp
    rw [e1, e2] at k
    exact k
  · have : sortG (U2 ++ V2) = U2 ++ V2 := by
      by_cases c1 : s < m
      · have : V2 = [] := List.eq_nil_of_length_eq_zero (by omega)
        subst this
        rw [List.append_nil] at st2 ⊢
        exact sortG_self sU2 st2
      · have : U2 = [] := List.eq_nil_of_length_eq_zero (by omega)
        subst this
        exact sortG_self sV2 st2
    rw [this]; simp
/-- The ends of the search: each is an end of a side, or leaves nothing on the other one. -/
def EndsG (lo hi a m b md : Nat) : Prop := (lo = a ∨ md + m = b + lo) ∧ (hi = m ∨ hi = md)
/-- What the search keeps. -/
def SInv (U V : List Gs) (a md lo hi s r : Nat) : Prop := (lo < s → ¬ lt0 (gd V (md - s)) (gd U (s - 1 - a))) ∧ (r < hi → lt0 (gd V (md - 1 - r)) (gd U (r - a)))
theorem SInv.cut {U V : List Gs} {a m b md lo hi s : Nat} (h : SInv U V a md lo hi s s) (he : EndsG lo hi a m b md) (h1 : lo ≤ s) (h2 : s ≤ hi) (ha : a ≤ lo) (hm : hi ≤ m) (hmd : hi ≤ md) (hb : md + m ≤ b + lo) (hU : m = a + U.length) (hV : b = m + V.length) : CutG U V (s - a) (md - s) := by
  obtain ⟨e1, e2⟩ := he
  refine ⟨by omega, by omega, fun x1 x2 => ?_, fun x1 x2 => ?_⟩
  · have := h.1 (by omega)
    rw [show s - 1 - a = s - a - 1 by omega] at this; exact this
  · have := h.2 (by omega)
    rw [show md - 1 - s = md - s - 1 by omega] at this; exact this
end Go.Fv.Y
