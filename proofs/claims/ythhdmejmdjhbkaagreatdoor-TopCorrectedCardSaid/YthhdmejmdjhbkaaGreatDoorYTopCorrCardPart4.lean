/-
  A part of the proof of the claim: walks over the program's functions and the plain laws that these need. No condition of its own.
-/
import Derived.Test.YthhdmejmdjhbkaaGreatDoorYTopCorrCardPart3
/- The stable sort of guesses: the walk of a merge, where the second side has one element. -/
namespace Go.Fv.Y
open Go Go.Proofs
set_option linter.unusedSimpArgs false
set_option linter.unusedVariables false
set_option linter.unnecessarySimpa false
set_option maxRecDepth 8000

set_option maxHeartbeats 16000000 in
theorem symLast_io (F : Nat) (hF : CmpG F) (P U Q : List Gs) (y : Gs) (a m b : Nat) (ha : a = P.length) (hm : m = P.length + U.length) (hb : b = P.length + U.length + 1) (h2U : 2 ≤ U.length) (hU : Srt U) (hS : Stab (U ++ [y])) (hN : P.length + U.length + 1 + Q.length ≤ 1000000) :
    FnIO Tryz.prog 152 [.own 0, .int .i64 a, .int .i64 m, .int .i64 b, .fn F []] [(0, .row 65 (gsR (P ++ (U ++ ([y] ++ Q)))))] 1 (.tup []) [(0, .row 65 (gsR (P ++ (sortG (U ++ [y]) ++ Q))))] := by
  refine FnIO.of_vc Tryz.func152 rfl (by decide) (by simp [Tryz.f152]) covG1 [] rfl fun w0 T0 _ => ?_
  simp only [Tryz.f152, argEnv]
  generalize hR : sortG (U ++ [y]) = R
  have i1 : ¬ (m : Int) - (a : Int) = 1 := by omega
  have i2 : (b : Int) - (m : Int) = 1 := by omega
  have hWl : (P ++ (U ++ ([y] ++ Q))).length = P.length + U.length + 1 + Q.length := by simp; omega
  have eU : ∀ g, g < U.length → ((P ++ (U ++ ([y] ++ Q))).map Gs.av).getD (a + g) [] = [.str (gd U g).t, .int .i64 (gd U g).d, .int .i64 (gd U g).c] := fun g hg => by
    rw [gs_elem _ (by omega)]
    have := gd_left (P := P) ([y] ++ Q) (U := U) (i := g) (k := a + g) (by omega) hg
    unfold gd at this ⊢
    rw [this]
  have ey : ((P ++ (U ++ ([y] ++ Q))).map Gs.av).getD m [] = [.str y.t, .int .i64 y.d, .int .i64 y.c] := by
    rw [gs_elem _ (by omega)]
    have := gd_right (P := P) (U := U) Q (V := [y]) (i := 0) (k := m) (by omega) (by simp)
    unfold gd at this
    rw [this]; rfl
  have hW0 : P ++ (U ++ ([y] ++ Q)) = P ++ ((U.take U.length ++ y :: U.drop U.length) ++ Q) := by simp
  generalize hW : P ++ (U ++ ([y] ++ Q)) = W at *
  have hWm : (W.map Gs.av).length = P.length + U.length + 1 + Q.length := by rw [List.length_map]; exact hWl
  (repeat' first | with_reducible (first | intro _ | refine rc ?_ | refine rl ?_ | refine rh ?_ | refine rt ?_ | refine rf ?_ | refine rs ?_ | refine And.intro ?_ ?_) | omega | simp (maxSteps := 1000000) only [go_sem, simprocAttr, ↓reduceIte, i1, i2])
  refine VcLoop.intro (fun z : Nat × Nat => ⟨220, [(0, .own 0), (1, .int .i64 a), (2, .int .i64 m), (3, .int .i64 b), (4, .fn F []), (14, .int .i64 (a + z.1 : Nat)), (15, .int .i64 (a + z.2 : Nat))], [(0, .row 65 (gsR W))], 1⟩) (fun z => z.1 ≤ z.2 ∧ z.2 ≤ U.length ∧ (∀ i, i < z.1 → i < U.length → ¬ lt0 y (gd U i)) ∧ (∀ i, z.2 ≤ i → i < U.length → lt0 y (gd U i))) (fun z => z.2 - z.1) (0, U.length) ?_ ⟨Nat.zero_le _, Nat.le_refl _, fun i h => by omega, fun i h1 h2 => by omega⟩ fun z hz => ?_
  · refine Ent.autoK 1 rfl (Nat.le_refl 1) ?_ ?_ <;> simp only [go_sem, reduceCtorEq, reduceIte, Nat.reduceEqDiff, Nat.reduceLT, Nat.reduceLeDiff, Int.natCast_succ, fromL, gsR]
    all_goals omega
  obtain ⟨al, be⟩ := z
  obtain ⟨h1, h2, h3, h4⟩ := hz
  dsimp only at h1 h2 h3 h4 ⊢
  by_cases hij : al < be
  · have hsh := half_sum (a + al) (a + be)
    have hmid : (a + al + (a + be)) / 2 = a + (al + be) / 2 := by omega
    rw [hmid] at hsh
    have hm1 : al ≤ (al + be) / 2 := by omega
    have hm2 : (al + be) / 2 < be := by omega
    have eg := eU ((al + be) / 2) (by omega)
    have kc := hF y (gd U ((al + be) / 2))
    generalize hgm : (al + be) / 2 = g at *
    have hc1 : ((a + al : Nat) : Int) < ((a + be : Nat) : Int) := by omega
    (repeat' first | with_reducible (first | intro _ | refine rc ?_ | refine rl ?_ | refine rh ?_ | refine rt ?_ | refine rf ?_ | refine rs ?_ | refine And.intro ?_ ?_) | omega | simp (maxSteps := 1000000) only [go_sem, simprocAttr, ↓reduceIte, hc1])
    refine LetW.inR (InK_u64.2 (by omega)) ?_
    rw [hsh]
    (repeat' first | with_reducible (first | intro _ | refine rc ?_ | refine rl ?_ | refine rh ?_ | refine rt ?_ | refine rf ?_ | refine rs ?_ | refine And.intro ?_ ?_) | omega | simp (maxSteps := 1000000) only [go_sem, simprocAttr, ↓reduceIte, Int.toNat_natCast])
    refine VcDraw.lex [] [] (by kernel_rfl) (by kernel_rfl) ?_
    by_cases hlt0 : lt0 y (gd U g)
    · have hcn := cf_neg hlt0
      have hinv : al ≤ g ∧ g ≤ U.length ∧ (∀ i, i < al → i < U.length → ¬ lt0 y (gd U i)) ∧ (∀ i, g ≤ i → i < U.length → lt0 y (gd U i)) := ⟨hm1, by omega, h3, fun i hi hl => by
        have := nlt_chain hU (i := g) (j := i) hi hl
        unfold lt0 at *; omega⟩
      generalize cfG y (gd U g) = cv at *
      generalize gd U g = v at *
      (repeat' first | with_reducible (first | intro _ | refine rc ?_ | refine rl ?_ | refine rh ?_ | refine rt ?_ | refine rf ?_ | refine rs ?_ | refine And.intro ?_ ?_) | omega | simp (maxSteps := 1000000) only [go_sem, simprocAttr, ↓reduceIte, Int.toNat_natCast, elemA, eg, ey, gsR])
      refine QV.intro (.int .i64 cv) ?_ ?_
      · (repeat' first | with_reducible (first | intro _ | refine rc ?_ | refine rl ?_ | refine rh ?_ | refine rt ?_ | refine rf ?_ | refine rs ?_ | refine And.intro ?_ ?_) | omega | simp (maxSteps := 1000000) only [go_sem, simprocAttr, ↓reduceIte, Int.toNat_natCast, elemA, eg, ey, gsR])
        refine VcCall.k (kc) ?_
        (repeat' first | with_reducible (first | intro _ | refine rc ?_ | refine rl ?_ | refine rh ?_ | refine rt ?_ | refine rf ?_ | refine rs ?_ | refine And.intro ?_ ?_) | omega | simp (maxSteps := 1000000) only [go_sem, simprocAttr, ↓reduceIte, gsR])
      (repeat' first | with_reducible (first | intro _ | refine rc ?_ | refine rl ?_ | refine rh ?_ | refine rt ?_ | refine rf ?_ | refine rs ?_ | refine And.intro ?_ ?_) | omega | simp (maxSteps := 1000000) only [go_sem, simprocAttr, ↓reduceIte, hcn, gsR])
      refine ⟨(al, g), Ent.autoK 1 rfl (Nat.le_refl 1) ?_ ?_, hinv, by dsimp only; omega⟩ <;> simp only [go_sem, reduceCtorEq, reduceIte, Nat.reduceEqDiff, Nat.reduceLT, Nat.reduceLeDiff, Int.natCast_succ, fromL, gsR]
    · have hcn := cf_not hlt0
      have hinv : g + 1 ≤ be ∧ be ≤ U.length ∧ (∀ i, i < g + 1 → i < U.length → ¬ lt0 y (gd U i)) ∧ (∀ i, be ≤ i → i < U.length → lt0 y (gd U i)) := ⟨by omega, h2, fun i hi hl => by
        have := nlt_chain hU (i := i) (j := g) (by omega) (by omega)
        exact nlt_trans this hlt0, h4⟩
      generalize cfG y (gd U g) = cv at *
      generalize gd U g = v at *
      (repeat' first | with_reducible (first | intro _ | refine rc ?_ | refine rl ?_ | refine rh ?_ | refine rt ?_ | refine rf ?_ | refine rs ?_ | refine And.intro ?_ ?_) | omega | simp (maxSteps := 1000000) only [go_sem, simprocAttr, ↓reduceIte, Int.toNat_natCast, elemA, eg, ey, gsR])
      refine QV.intro (.int .i64 cv) ?_ ?_
      · (repeat' first | with_reducible (first | intro _ | refine rc ?_ | refine rl ?_ | refine rh ?_ | refine rt ?_ | refine rf ?_ | refine rs ?_ | refine And.intro ?_ ?_) | omega | simp (maxSteps := 1000000) only [go_sem, simprocAttr, ↓reduceIte, Int.toNat_natCast, elemA, eg, ey, gsR])
        refine VcCall.k (kc) ?_
        (repeat' first | with_reducible (first | intro _ | refine rc ?_ | refine rl ?_ | refine rh ?_ | refine rt ?_ | refine rf ?_ | refine rs ?_ | refine And.intro ?_ ?_) | omega | simp (maxSteps := 1000000) only [go_sem, simprocAttr, ↓reduceIte, gsR])
      (repeat' first | with_reducible (first | intro _ | refine rc ?_ | refine rl ?_ | refine rh ?_ | refine rt ?_ | refine rf ?_ | refine rs ?_ | refine And.intro ?_ ?_) | omega | simp (maxSteps := 1000000) only [go_sem, simprocAttr, ↓reduceIte, hcn, gsR])
      refine ⟨(g + 1, be), Ent.autoK 1 rfl (Nat.le_refl 1) ?_ ?_, hinv, by dsimp only; omega⟩ <;> simp only [go_sem, reduceCtorEq, reduceIte, Nat.reduceEqDiff, Nat.reduceLT, Nat.reduceLeDiff, Int.natCast_succ, fromL, gsR]
      all_goals omega
  have e : be = al := by omega
  subst e
  have hend : U.take be ++ y :: U.drop be = R := by rw [← hR]; exact merge_last hU hS h3 h4
  have hc1 : ¬ ((a + be : Nat) : Int) < ((a + be : Nat) : Int) := by omega
  have hma : (m : Int) = ((a + U.length : Nat) : Int) := by omega
  clear h3 h4 hij
  (repeat' first | with_reducible (first | intro _ | refine rc ?_ | refine rl ?_ | refine rh ?_ | refine rt ?_ | refine rf ?_ | refine rs ?_ | refine And.intro ?_ ?_) | omega | simp (maxSteps := 1000000) only [go_sem, simprocAttr, ↓reduceIte, hc1])
  refine VcLoop.intro (fun k : Nat => ⟨220, [(0, .own 0), (1, .int .i64 a), (2, .int .i64 m), (3, .int .i64 b), (4, .fn F []), (14, .int .i64 (a + be : Nat)), (17, .int .i64 (a + k : Nat))], [(0, .row 65 (gsR (P ++ ((U.take k ++ y :: U.drop k) ++ Q))))], 1⟩) (fun k => be ≤ k ∧ k ≤ U.length) (fun k => k) U.length ?_ ⟨h2, Nat.le_refl _⟩ fun k hk => ?_
  · refine Ent.autoK 1 rfl (Nat.le_refl 1) ?_ ?_ <;> simp only [go_sem, reduceCtorEq, reduceIte, Nat.reduceEqDiff, Nat.reduceLT, Nat.reduceLeDiff, Int.natCast_succ, fromL, gsR, hW0, hma]
  obtain ⟨hk1, hk2⟩ := hk
  by_cases hkb : be < k
  · obtain ⟨k, rfl⟩ : ∃ k', k = k' + 1 := ⟨k - 1, by omega⟩
    have hkl : k < U.length := by omega
    have hlk : (P ++ ((U.take (k + 1) ++ y :: U.drop (k + 1)) ++ Q)).length = P.length + U.length + 1 + Q.length := by simp; omega
    have hsw : SwapF ((P ++ ((U.take (k + 1) ++ y :: U.drop (k + 1)) ++ Q)).map Gs.av) ((P ++ ((U.take k ++ y :: U.drop k) ++ Q)).map Gs.av) (a + k) (a + (k + 1)) (gd U k) y := by
      refine swapF (A := P ++ U.take k) (B := []) (C := U.drop (k + 1) ++ Q) ?_ ?_ ?_ ?_
      · rw [List.take_succ_eq_append_getElem hkl, ← gd_get hkl]; simp
      · rw [List.drop_eq_getElem_cons hkl, ← gd_get hkl]; simp
      · simp; omega
      · simp; omega
    obtain ⟨hl, hl', e1, e2, s1, s2, t1, t2⟩ := hsw
    generalize gd U k = v at *
    have hc2 : ((a + be : Nat) : Int) < ((a + (k + 1) : Nat) : Int) := by omega
    have n1 : ((a + (k + 1) : Nat) : Int) - 1 = ((a + k : Nat) : Int) := by omega
    generalize hW2 : P ++ ((U.take k ++ y :: U.drop k) ++ Q) = W2 at *
    generalize P ++ ((U.take (k + 1) ++ y :: U.drop (k + 1)) ++ Q) = W1 at *
    (repeat' first | with_reducible (first | intro _ | refine rc ?_ | refine rl ?_ | refine rh ?_ | refine rt ?_ | refine rf ?_ | refine rs ?_ | refine And.intro ?_ ?_) | omega | simp (maxSteps := 1000000) only [go_sem, simprocAttr, ↓reduceIte, hc2, n1, gsR])
    refine VcDraw.lex [15, 17] [(2, [1]), (3, [1]), (4, [1])] (by kernel_rfl) (by kernel_rfl) ?_
    (repeat' first | with_reducible (first | intro _ | refine rc ?_ | refine rl ?_ | refine rh ?_ | refine rt ?_ | refine rf ?_ | refine rs ?_ | refine And.intro ?_ ?_) | omega | simp (maxSteps := 1000000) only [go_sem, simprocAttr, ↓reduceIte, hc2, n1, gsR, Int.toNat_natCast, elemA, e1, e2, s1, s2, t1, t2])
    refine ⟨k, Ent.autoK 1 rfl (Nat.le_refl 1) ?_ ?_, ⟨by omega, by omega⟩, by omega⟩ <;> simp only [go_sem, reduceCtorEq, reduceIte, Nat.reduceEqDiff, Nat.reduceLT, Nat.reduceLeDiff, Int.natCast_succ, fromL, gsR, n1, hW2]
  · have e : k = be := by omega
    subst e
    rw [hend]
    have hc2 : ¬ ((a + k : Nat) : Int) < ((a + k : Nat) : Int) := by omega
    (repeat' first | with_reducible (first | intro _ | refine rc ?_ | refine rl ?_ | refine rh ?_ | refine rt ?_ | refine rf ?_ | refine rs ?_ | refine And.intro ?_ ?_) | omega | simp (maxSteps := 1000000) only [go_sem, simprocAttr, ↓reduceIte, hc2])
    refine RetK.auto 1 (Nat.le_refl 1) ?_ rfl ?_ <;> simp only [go_sem, reduceCtorEq, reduceIte, Nat.reduceEqDiff, Nat.reduceLT, Nat.reduceLeDiff, Int.natCast_succ, fromL, gsR]
end Go.Fv.Y

/- The stable sort of guesses: the walk of a merge in general. -/
namespace Go.Fv.Y
open Go Go.Proofs
set_option linter.unusedSimpArgs false
set_option linter.unusedVariables false
set_option linter.unnecessarySimpa false
set_option maxRecDepth 8000

def SymOk (F n : Nat) : Prop := ∀ (P U V Q : List Gs) (a m b : Nat), a = P.length → m = P.length + U.length → b = P.length + U.length + V.length → 0 < U.length → 0 < V.length → U.length + V.length ≤ n → Srt U → Srt V → Stab (U ++ V) → P.length + U.length + V.length + Q.length ≤ 1000000 →
    FnIO Tryz.prog 152 [.own 0, .int .i64 a, .int .i64 m, .int .i64 b, .fn F []] [(0, .row 65 (gsR (P ++ (U ++ (V ++ Q)))))] 1 (.tup []) [(0, .row 65 (gsR (P ++ (sortG (U ++ V) ++ Q))))]
/-- What is left when the search has ended: three calls, or fewer. -/
structure RestG (F : Nat) (W0 W3 : List Gs) (a m b md s : Nat) : Prop where
  ex : ∃ W1 W2 : List Gs,
    (s < m → s < md → FnIO Tryz.prog 169 [.own 0, .int .i64 s, .int .i64 m, .int .i64 (md + m - s : Nat), .fn F []] [(0, .row 65 (gsR W0))] 1 (.tup []) [(0, .row 65 (gsR W1))]) ∧
    (¬ (s < m ∧ s < md) → W0 = W1) ∧
    (a < s → s < md → FnIO Tryz.prog 152 [.own 0, .int .i64 a, .int .i64 s, .int .i64 md, .fn F []] [(0, .row 65 (gsR W1))] 1 (.tup []) [(0, .row 65 (gsR W2))]) ∧
    (¬ (a < s ∧ s < md) → W1 = W2) ∧
    (s < m → md + m - s < b → FnIO Tryz.prog 152 [.own 0, .int .i64 md, .int .i64 (md + m - s : Nat), .int .i64 b, .fn F []] [(0, .row 65 (gsR W2))] 1 (.tup []) [(0, .row 65 (gsR W3))]) ∧
    (¬ (s < m ∧ md + m - s < b) → W2 = W3)
theorem restG {F n : Nat} (hI : SymOk F n) {P U V Q : List Gs} {a m b md s : Nat} (ha : a = P.length) (hm : m = P.length + U.length) (hb : b = P.length + U.length + V.length) (hn : U.length + V.length ≤ n + 1) (h1 : a < md) (h2 : md < b)
    (hs1 : a ≤ s) (hs2 : s ≤ m) (hs3 : s ≤ md) (hs4 : md + m ≤ b + s) (hU : Srt U) (hV : Srt V) (hS : Stab (U ++ V)) (hN : P.length + U.length + V.length + Q.length ≤ 1000000) (hc : CutG U V (s - a) (md - s)) :
    RestG F (P ++ (U ++ (V ++ Q))) (P ++ (sortG (U ++ V) ++ Q)) a m b md s := by
  have hm3 := hc.merge hU hV hS
  have tU := List.take_append_drop (s - a) U
  have tV := List.take_append_drop (md - s) V
  have l1 : (U.take (s - a)).length = s - a := by rw [List.length_take]; omega
  have l2 : (U.drop (s - a)).length = m - s := by rw [List.length_drop]; omega
  have l3 : (V.take (md - s)).length = md - s := by rw [List.length_take]; omega
  have l4 : (V.drop (md - s)).length = b + s - (md + m) := by rw [List.length_drop]; omega
  have sU1 := hU.take (s - a)
  have sU2 := hU.drop (s - a)
  have sV1 := hV.take (md - s)
  have sV2 := hV.drop (md - s)
  have st1 := stab_takes hS (s - a) (md - s)
  have st2 := stab_drops hS (s - a) (md - s)
  rw [← hm3]
  have hUl : U.length = (s - a) + (m - s) := by omega
  have hVl : V.length = (md - s) + (b + s - (md + m)) := by omega
  clear hm3 hc hU hV hS
  generalize U.take (s - a) = U1 at *
  generalize U.drop (s - a) = U2 at *
  generalize V.take (md - s) = V1 at *
  generalize V.drop (md - s) = V2 at *
  have sl1 : (sortG (U1 ++ V1)).length = md - a := by rw [sortG_len, List.length_append]; omega
  refine ⟨P ++ (U1 ++ (V1 ++ (U2 ++ (V2 ++ Q)))), P ++ (sortG (U1 ++ V1) ++ (U2 ++ (V2 ++ Q))), fun c1 c2 => ?_, fun c => ?_, fun c1 c2 => ?_, fun c => ?_, fun c1 c2 => ?_, fun c => ?_⟩
  · have k := rotate_io (P ++ U1) U2 V1 (V2 ++ Q) s m (md + m - s) F (by rw [List.length_append]; omega) (by rw [List.length_append]; omega) (by rw [List.length_append]; omega) (by omega) (by omega) (by simp only [List.length_append]; omega)
    have e1 : (P ++ U1) ++ (U2 ++ (V1 ++ (V2 ++ Q))) = P ++ (U ++ (V ++ Q)) := by rw [← tU, ← tV]; simp
    have e2 : (P ++ U1) ++ (V1 ++ (U2 ++ (V2 ++ Q))) = P ++ (U1 ++ (V1 ++ (U2 ++ (V2 ++ Q)))) := by simp
    rw [e1, e2] at k
    exact k
  · rw [← tU, ← tV]
    by_cases c1 : s < m
    · have : V1 = [] := List.eq_nil_of_length_eq_zero (by omega)
      subst this; simp
    · have : U2 = [] := List.eq_nil_of_length_eq_zero (by omega)
      subst this; simp
  · exact hI P U1 V1 (U2 ++ (V2 ++ Q)) a s md ha (by omega) (by omega) (by omega) (by omega) (by omega) sU1 sV1 st1 (by simp only [List.length_append]; omega)
  · have : sortG (U1 ++ V1) = U1 ++ V1 := by
      by_cases c1 : a < s
      · have : V1 = [] := List.eq_nil_of_length_eq_zero (by omega)
        subst this
        rw [List.append_nil] at st1 ⊢
        exact sortG_self sU1 st1
      · have : U1 = [] := List.eq_nil_of_length_eq_zero (by omega)
        subst this
        exact sortG_self sV1 st1
    rw [this]; simp
  · have k := hI (P ++ sortG (U1 ++ V1)) U2 V2 Q md (md + m - s) b (by rw [List.length_append]; omega) (by rw [List.length_append]; omega) (by rw [List.length_append]; omega) (by omega) (by omega) (by omega) sU2 sV2 st2 (by rw [List.length_append]; omega)
    have e1 : (P ++ sortG (U1 ++ V1)) ++ (U2 ++ (V2 ++ Q)) = P ++ (sortG (U1 ++ V1) ++ (U2 ++ (V2 ++ Q))) := by simp
    have e2 : (P ++ sortG (U1 ++ V1)) ++ (sortG (U2 ++ V2) ++ Q) = P ++ ((sortG (U1 ++ V1) ++ sortG (U2 ++ V2)) ++ Q) := by simp
    rw [e1, e2] at k
    exact k
  · have : sortG (U2 ++ V2) = U2 ++ V2 := by
      by_cases c1 : s < m
      · have : V2 = [] := List.eq_nil_of_length_eq_zero (by omega)
        subst this
        rw [List.append_nil] at st2 ⊢
        exact sortG_self sU2 st2
      · have : U2 = [] := List.eq_nil_of_length_eq_zero (by omega)
        subst this
        exact sortG_self sV2 st2
    rw [this]; simp
/-- The ends of the search: each is an end of a side, or leaves nothing on the other one. -/
def EndsG (lo hi a m b md : Nat) : Prop := (lo = a ∨ md + m = b + lo) ∧ (hi = m ∨ hi = md)
/-- What the search keeps. -/
def SInv (U V : List Gs) (a md lo hi s r : Nat) : Prop := (lo < s → ¬ lt0 (gd V (md - s)) (gd U (s - 1 - a))) ∧ (r < hi → lt0 (gd V (md - 1 - r)) (gd U (r - a)))
theorem SInv.cut {U V : List Gs} {a m b md lo hi s : Nat} (h : SInv U V a md lo hi s s) (he : EndsG lo hi a m b md) (h1 : lo ≤ s) (h2 : s ≤ hi) (ha : a ≤ lo) (hm : hi ≤ m) (hmd : hi ≤ md) (hb : md + m ≤ b + lo) (hU : m = a + U.length) (hV : b = m + V.length) : CutG U V (s - a) (md - s) := by
  obtain ⟨e1, e2⟩ := he
  refine ⟨by omega, by omega, fun x1 x2 => ?_, fun x1 x2 => ?_⟩
  · have := h.1 (by omega)
    rw [show s - 1 - a = s - a - 1 by omega] at this; exact this
  · have := h.2 (by omega)
    rw [show md - 1 - s = md - s - 1 by omega] at this; exact this
end Go.Fv.Y

/- The stable sort of guesses: the walk of a merge in general. -/
namespace Go.Fv.Y
open Go Go.Proofs
set_option linter.unusedSimpArgs false
set_option linter.unusedVariables false
set_option linter.unnecessarySimpa false
set_option maxRecDepth 8000

set_option maxHeartbeats 32000000 in
theorem symGenA_io (F : Nat) (hF : CmpG F) (n : Nat) (hI : SymOk F n) (P U V Q : List Gs) (a m b : Nat) (ha : a = P.length) (hm : m = P.length + U.length) (hb : b = P.length + U.length + V.length) (h2U : 2 ≤ U.length) (h2V : 2 ≤ V.length) (hn : U.length + V.length ≤ n + 1) (hU : Srt U) (hV : Srt V) (hS : Stab (U ++ V)) (hmd00 : (a + b) / 2 < m) (hN : P.length + U.length + V.length + Q.length ≤ 1000000) :
    FnIO Tryz.prog 152 [.own 0, .int .i64 a, .int .i64 m, .int .i64 b, .fn F []] [(0, .row 65 (gsR (P ++ (U ++ (V ++ Q)))))] 1 (.tup []) [(0, .row 65 (gsR (P ++ (sortG (U ++ V) ++ Q))))] := by
  refine FnIO.of_vc Tryz.func152 rfl (by decide) (by simp [Tryz.f152]) covG1 [] rfl fun w0 T0 _ => ?_
  simp only [Tryz.f152, argEnv]
  have i1 : ¬ (m : Int) - (a : Int) = 1 := by omega
  have i2 : ¬ (b : Int) - (m : Int) = 1 := by omega
  have hWl : (P ++ (U ++ (V ++ Q))).length = P.length + U.length + V.length + Q.length := by simp; omega
  have eU : ∀ g, a ≤ g → g < m → ((P ++ (U ++ (V ++ Q))).map Gs.av).getD g [] = [.str (gd U (g - a)).t, .int .i64 (gd U (g - a)).d, .int .i64 (gd U (g - a)).c] := fun g hg hg2 => by
    rw [gs_elem _ (by omega)]
    have := gd_left (P := P) (V ++ Q) (U := U) (i := g - a) (k := g) (by omega) (by omega)
    unfold gd at this ⊢
    rw [this]
  have eV : ∀ g, m ≤ g → g < b → ((P ++ (U ++ (V ++ Q))).map Gs.av).getD g [] = [.str (gd V (g - m)).t, .int .i64 (gd V (g - m)).d, .int .i64 (gd V (g - m)).c] := fun g hg hg2 => by
    rw [gs_elem _ (by omega)]
    have := gd_right (P := P) (U := U) Q (V := V) (i := g - m) (k := g) (by omega) (by omega)
    unfold gd at this ⊢
    rw [this]
  have hmd0 := half_sum a b
  have hmd1 : a < (a + b) / 2 := by omega
  have hmd2 : (a + b) / 2 < b := by omega
  have hmd3 : 2 * ((a + b) / 2) ≤ a + b ∧ a + b ≤ 2 * ((a + b) / 2) + 1 := by omega
  have hrest := fun s h1 h2 h3 h4 hc => restG (P := P) (U := U) (V := V) (Q := Q) (a := a) (m := m) (b := b) (md := (a + b) / 2) (s := s) hI ha hm hb hn hmd1 hmd2 h1 h2 h3 h4 hU hV hS hN hc
  generalize (a + b) / 2 = md at *
  generalize P ++ (sortG (U ++ V) ++ Q) = W3 at *
  generalize hW : P ++ (U ++ (V ++ Q)) = W at *
  have hWm : (W.map Gs.av).length = P.length + U.length + V.length + Q.length := by rw [List.length_map]; exact hWl
  have nn : (md : Int) + (m : Int) = ((md + m : Nat) : Int) := by omega
  have np : ((md + m : Nat) : Int) - 1 = ((md + m - 1 : Nat) : Int) := by omega
  (repeat' first | with_reducible (first | intro _ | refine rc ?_ | refine rl ?_ | refine rh ?_ | refine rt ?_ | refine rf ?_ | refine rs ?_ | refine And.intro ?_ ?_) | omega | simp (maxSteps := 1000000) only [go_sem, simprocAttr, ↓reduceIte, i1, i2])
  refine LetW.inR (InK_u64.2 (by omega)) ?_
  rw [hmd0]
  obtain ⟨lo, hi, hlh, b1, b2, b3, b4, hends, l1, l2⟩ : ∃ lo hi : Nat, lo ≤ hi ∧ a ≤ lo ∧ hi ≤ m ∧ hi ≤ md ∧ md + m ≤ b + lo ∧ EndsG lo hi a m b md ∧ ((md + m : Nat) : Int) - (b : Int) = (lo : Int) ∧ (md : Int) = (hi : Int) := ⟨md + m - b, md, by omega, by omega, by omega, by omega, by omega, ⟨by omega, by omega⟩, by omega, rfl⟩
  have hg : (md : Int) < (m : Int) := by omega
  (repeat' first | with_reducible (first | intro _ | refine rc ?_ | refine rl ?_ | refine rh ?_ | refine rt ?_ | refine rf ?_ | refine rs ?_ | refine And.intro ?_ ?_) | omega | simp (maxSteps := 1000000) only [go_sem, simprocAttr, ↓reduceIte, nn, np, hg, l1])
  refine VcLoop.intro (fun z : Nat × Nat => ⟨220, [(0, .own 0), (1, .int .i64 a), (2, .int .i64 m), (3, .int .i64 b), (4, .fn F []), (18, .int .i64 md), (19, .int .i64 (md + m : Nat)), (20, .int .i64 z.1), (21, .int .i64 z.2), (22, .int .i64 (md + m - 1 : Nat))], [(0, .row 65 (gsR W))], 1⟩) (fun z => (lo ≤ z.1 ∧ z.1 ≤ z.2 ∧ z.2 ≤ hi) ∧ SInv U V a md lo hi z.1 z.2) (fun z => z.2 - z.1) (lo, hi) ?_ ⟨⟨Nat.le_refl _, hlh, Nat.le_refl _⟩, fun h => absurd h (Nat.lt_irrefl _), fun h => absurd h (Nat.lt_irrefl _)⟩ fun z hz => ?_
  · refine Ent.autoK 1 rfl (Nat.le_refl 1) ?_ ?_ <;> simp only [go_sem, reduceCtorEq, reduceIte, Nat.reduceEqDiff, Nat.reduceLT, Nat.reduceLeDiff, Int.natCast_succ, fromL, gsR, nn, np]
    all_goals omega
  obtain ⟨s, r⟩ := z
  obtain ⟨⟨z1, z2, z3⟩, za⟩ := hz
  dsimp only at z1 z2 z3 za ⊢
  by_cases hsr : s < r
  · have hsh := half_sum s r
    have hm1 : s ≤ (s + r) / 2 := by omega
    have hm2 : (s + r) / 2 < r := by omega
    generalize (s + r) / 2 = c at *
    have n1 : ((md + m - 1 : Nat) : Int) - (c : Int) = ((md + m - 1 - c : Nat) : Int) := by omega
    have e1 := eU c (by omega) (by omega)
    have e2 := eV (md + m - 1 - c) (by omega) (by omega)
    have ei : md + m - 1 - c - m = md - 1 - c := by omega
    rw [ei] at e2
    have kc := hF (gd V (md - 1 - c)) (gd U (c - a))
    have hc1 : (s : Int) < (r : Int) := by omega
    (repeat' first | with_reducible (first | intro _ | refine rc ?_ | refine rl ?_ | refine rh ?_ | refine rt ?_ | refine rf ?_ | refine rs ?_ | refine And.intro ?_ ?_) | omega | simp (maxSteps := 1000000) only [go_sem, simprocAttr, ↓reduceIte, hc1])
    refine LetW.inR (InK_u64.2 (by omega)) ?_
    rw [hsh]
    (repeat' first | with_reducible (first | intro _ | refine rc ?_ | refine rl ?_ | refine rh ?_ | refine rt ?_ | refine rf ?_ | refine rs ?_ | refine And.intro ?_ ?_) | omega | simp (maxSteps := 1000000) only [go_sem, simprocAttr, ↓reduceIte, Int.toNat_natCast])
    refine VcDraw.lex [] [] (by kernel_rfl) (by kernel_rfl) ?_
    by_cases hlt0 : lt0 (gd V (md - 1 - c)) (gd U (c - a))
    · have hcn := cf_neg hlt0
      have hinv : (lo ≤ s ∧ s ≤ c ∧ c ≤ hi) ∧ SInv U V a md lo hi s c := ⟨by omega, za.1, fun _ => hlt0⟩
      generalize cfG (gd V (md - 1 - c)) (gd U (c - a)) = cv at *
      generalize gd V (md - 1 - c) = v at *
      generalize gd U (c - a) = u at *
      (repeat' first | with_reducible (first | intro _ | refine rc ?_ | refine rl ?_ | refine rh ?_ | refine rt ?_ | refine rf ?_ | refine rs ?_ | refine And.intro ?_ ?_) | omega | simp (maxSteps := 1000000) only [go_sem, simprocAttr, ↓reduceIte, Int.toNat_natCast, elemA, e1, e2, n1, gsR])
      refine QV.intro (.int .i64 cv) ?_ ?_
      · (repeat' first | with_reducible (first | intro _ | refine rc ?_ | refine rl ?_ | refine rh ?_ | refine rt ?_ | refine rf ?_ | refine rs ?_ | refine And.intro ?_ ?_) | omega | simp (maxSteps := 1000000) only [go_sem, simprocAttr, ↓reduceIte, Int.toNat_natCast, elemA, e1, e2, n1, gsR])
        refine VcCall.k (kc) ?_
        (repeat' first | with_reducible (first | intro _ | refine rc ?_ | refine rl ?_ | refine rh ?_ | refine rt ?_ | refine rf ?_ | refine rs ?_ | refine And.intro ?_ ?_) | omega | simp (maxSteps := 1000000) only [go_sem, simprocAttr, ↓reduceIte, gsR])
      (repeat' first | with_reducible (first | intro _ | refine rc ?_ | refine rl ?_ | refine rh ?_ | refine rt ?_ | refine rf ?_ | refine rs ?_ | refine And.intro ?_ ?_) | omega | simp (maxSteps := 1000000) only [go_sem, simprocAttr, ↓reduceIte, hcn, gsR])
      refine ⟨(s, c), Ent.autoK 1 rfl (Nat.le_refl 1) ?_ ?_, hinv, by dsimp only; omega⟩ <;> simp only [go_sem, reduceCtorEq, reduceIte, Nat.reduceEqDiff, Nat.reduceLT, Nat.reduceLeDiff, Int.natCast_succ, fromL, gsR]
    · have hcn := cf_not hlt0
      have hinv : (lo ≤ c + 1 ∧ c + 1 ≤ r ∧ r ≤ hi) ∧ SInv U V a md lo hi (c + 1) r := ⟨by omega, fun _ => by
        rw [show md - (c + 1) = md - 1 - c by omega, show c + 1 - 1 - a = c - a by omega]; exact hlt0, za.2⟩
      generalize cfG (gd V (md - 1 - c)) (gd U (c - a)) = cv at *
      generalize gd V (md - 1 - c) = v at *
      generalize gd U (c - a) = u at *
      (repeat' first | with_reducible (first | intro _ | refine rc ?_ | refine rl ?_ | refine rh ?_ | refine rt ?_ | refine rf ?_ | refine rs ?_ | refine And.intro ?_ ?_) | omega | simp (maxSteps := 1000000) only [go_sem, simprocAttr, ↓reduceIte, Int.toNat_natCast, elemA, e1, e2, n1, gsR])
      refine QV.intro (.int .i64 cv) ?_ ?_
      · (repeat' first | with_reducible (first | intro _ | refine rc ?_ | refine rl ?_ | refine rh ?_ | refine rt ?_ | refine rf ?_ | refine rs ?_ | refine And.intro ?_ ?_) | omega | simp (maxSteps := 1000000) only [go_sem, simprocAttr, ↓reduceIte, Int.toNat_natCast, elemA, e1, e2, n1, gsR])
        refine VcCall.k (kc) ?_
        (repeat' first | with_reducible (first | intro _ | refine rc ?_ | refine rl ?_ | refine rh ?_ | refine rt ?_ | refine rf ?_ | refine rs ?_ | refine And.intro ?_ ?_) | omega | simp (maxSteps := 1000000) only [go_sem, simprocAttr, ↓reduceIte, gsR])
      (repeat' first | with_reducible (first | intro _ | refine rc ?_ | refine rl ?_ | refine rh ?_ | refine rt ?_ | refine rf ?_ | refine rs ?_ | refine And.intro ?_ ?_) | omega | simp (maxSteps := 1000000) only [go_sem, simprocAttr, ↓reduceIte, hcn, gsR])
      refine ⟨(c + 1, r), Ent.autoK 1 rfl (Nat.le_refl 1) ?_ ?_, hinv, by dsimp only; omega⟩ <;> simp only [go_sem, reduceCtorEq, reduceIte, Nat.reduceEqDiff, Nat.reduceLT, Nat.reduceLeDiff, Int.natCast_succ, fromL, gsR]
  have e : r = s := by omega
  subst e
  obtain ⟨W1, W2, kr, h01, k1, h12, k2, h23⟩ := (hrest r (by omega) (by omega) (by omega) (by omega) (za.cut hends z1 z3 b1 b2 b3 b4 (by omega) (by omega))).ex
  have ne1 : ((md + m : Nat) : Int) - (r : Int) = ((md + m - r : Nat) : Int) := by omega
  have hc1 : ¬ (r : Int) < (r : Int) := by omega
  clear za hsr hrest eU eV hends
  rcases Classical.em (r < m ∧ r < md) with c0 | c0
  · first
    | (exfalso; omega)
    | (
        have kk := kr c0.1 c0.2
        (repeat' first | with_reducible (first | intro _ | refine rc ?_ | refine rl ?_ | refine rh ?_ | refine rt ?_ | refine rf ?_ | refine rs ?_ | refine And.intro ?_ ?_) | omega | simp (maxSteps := 1000000) only [go_sem, simprocAttr, ↓reduceIte, hc1, ne1])
        refine VcCall.io [0] kk (by decide) (by simp [renL, ren, ioN]) rfl (by simp [subOk, ioN, lk, Item.ren, Item.below, gsR, renR_ok, belowR_ok]) covG1 1 (by decide) rfl (by simp [rowsB, Item.below, gsR, belowR_ok]) ?_
        rcases Classical.em (a < r ∧ r < md) with c1 | c1
        · first
          | (exfalso; omega)
          | (
              have kk := k1 c1.1 c1.2
              (repeat' first | with_reducible (first | intro _ | refine rc ?_ | refine rl ?_ | refine rh ?_ | refine rt ?_ | refine rf ?_ | refine rs ?_ | refine And.intro ?_ ?_) | omega | simp (maxSteps := 1000000) only [go_sem, simprocAttr, ↓reduceIte, S.ioS, ioRows, ioN, delL, Item.ren, gsR, renR_ok, List.length_cons, List.length_nil, List.getElem?_cons_zero, List.getElem?_cons_succ, List.getElem?_nil, List.cons_append, List.nil_append, Nat.reduceAdd, Nat.sub_self, Nat.add_zero, List.filter, ne1])
              refine VcCall.io [0] kk (by decide) (by simp [renL, ren, ioN]) rfl (by simp [subOk, ioN, lk, Item.ren, Item.below, gsR, renR_ok, belowR_ok]) covG1 1 (by decide) rfl (by simp [rowsB, Item.below, gsR, belowR_ok]) ?_
              rcases Classical.em (r < m ∧ md + m - r < b) with c2 | c2
              · first
                | (exfalso; omega)
                | (
                    have kk := k2 c2.1 c2.2
                    (repeat' first | with_reducible (first | intro _ | refine rc ?_ | refine rl ?_ | refine rh ?_ | refine rt ?_ | refine rf ?_ | refine rs ?_ | refine And.intro ?_ ?_) | omega | simp (maxSteps := 1000000) only [go_sem, simprocAttr, ↓reduceIte, S.ioS, ioRows, ioN, delL, Item.ren, gsR, renR_ok, List.length_cons, List.length_nil, List.getElem?_cons_zero, List.getElem?_cons_succ, List.getElem?_nil, List.cons_append, List.nil_append, Nat.reduceAdd, Nat.sub_self, Nat.add_zero, List.filter, ne1])
                    refine VcCall.io [0] kk (by decide) (by simp [renL, ren, ioN]) rfl (by simp [subOk, ioN, lk, Item.ren, Item.below, gsR, renR_ok, belowR_ok]) covG1 1 (by decide) rfl (by simp [rowsB, Item.below, gsR, belowR_ok]) ?_
                    (repeat' first | with_reducible (first | intro _ | refine rc ?_ | refine rl ?_ | refine rh ?_ | refine rt ?_ | refine rf ?_ | refine rs ?_ | refine And.intro ?_ ?_) | omega | simp (maxSteps := 1000000) only [go_sem, simprocAttr, ↓reduceIte, S.ioS, ioRows, ioN, delL, Item.ren, gsR, renR_ok, List.length_cons, List.length_nil, List.getElem?_cons_zero, List.getElem?_cons_succ, List.getElem?_nil, List.cons_append, List.nil_append, Nat.reduceAdd, Nat.sub_self, Nat.add_zero, List.filter, ne1])
                    refine RetK.auto 1 (Nat.le_refl 1) ?_ rfl ?_ <;> simp only [go_sem, reduceCtorEq, reduceIte, Nat.reduceEqDiff, Nat.reduceLT, Nat.reduceLeDiff, Int.natCast_succ, fromL, gsR])
              · first
                | (exfalso; omega)
                | (
                    have hw := h23 c2
                    subst hw
                    (repeat' first | with_reducible (first | intro _ | refine rc ?_ | refine rl ?_ | refine rh ?_ | refine rt ?_ | refine rf ?_ | refine rs ?_ | refine And.intro ?_ ?_) | omega | simp (maxSteps := 1000000) only [go_sem, simprocAttr, ↓reduceIte, S.ioS, ioRows, ioN, delL, Item.ren, gsR, renR_ok, List.length_cons, List.length_nil, List.getElem?_cons_zero, List.getElem?_cons_succ, List.getElem?_nil, List.cons_append, List.nil_append, Nat.reduceAdd, Nat.sub_self, Nat.add_zero, List.filter, ne1])
                    refine RetK.auto 1 (Nat.le_refl 1) ?_ rfl ?_ <;> simp only [go_sem, reduceCtorEq, reduceIte, Nat.reduceEqDiff, Nat.reduceLT, Nat.reduceLeDiff, Int.natCast_succ, fromL, gsR]))
        · first
          | (exfalso; omega)
          | (
              have hw := h12 c1
              subst hw
              rcases Classical.em (r < m ∧ md + m - r < b) with c2 | c2
              · first
                | (exfalso; omega)
                | (
                    have kk := k2 c2.1 c2.2
                    (repeat' first | with_reducible (first | intro _ | refine rc ?_ | refine rl ?_ | refine rh ?_ | refine rt ?_ | refine rf ?_ | refine rs ?_ | refine And.intro ?_ ?_) | omega | simp (maxSteps := 1000000) only [go_sem, simprocAttr, ↓reduceIte, S.ioS, ioRows, ioN, delL, Item.ren, gsR, renR_ok, List.length_cons, List.length_nil, List.getElem?_cons_zero, List.getElem?_cons_succ, List.getElem?_nil, List.cons_append, List.nil_append, Nat.reduceAdd, Nat.sub_self, Nat.add_zero, List.filter, ne1])
                    refine VcCall.io [0] kk (by decide) (by simp [renL, ren, ioN]) rfl (by simp [subOk, ioN, lk, Item.ren, Item.below, gsR, renR_ok, belowR_ok]) covG1 1 (by decide) rfl (by simp [rowsB, Item.below, gsR, belowR_ok]) ?_
                    (repeat' first | with_reducible (first | intro _ | refine rc ?_ | refine rl ?_ | refine rh ?_ | refine rt ?_ | refine rf ?_ | refine rs ?_ | refine And.intro ?_ ?_) | omega | simp (maxSteps := 1000000) only [go_sem, simprocAttr, ↓reduceIte, S.ioS, ioRows, ioN, delL, Item.ren, gsR, renR_ok, List.length_cons, List.length_nil, List.getElem?_cons_zero, List.getElem?_cons_succ, List.getElem?_nil, List.cons_append, List.nil_append, Nat.reduceAdd, Nat.sub_self, Nat.add_zero, List.filter, ne1])
                    refine RetK.auto 1 (Nat.le_refl 1) ?_ rfl ?_ <;> simp only [go_sem, reduceCtorEq, reduceIte, Nat.reduceEqDiff, Nat.reduceLT, Nat.reduceLeDiff, Int.natCast_succ, fromL, gsR])
              · first
                | (exfalso; omega)
                | (
                    have hw := h23 c2
                    subst hw
                    (repeat' first | with_reducible (first | intro _ | refine rc ?_ | refine rl ?_ | refine rh ?_ | refine rt ?_ | refine rf ?_ | refine rs ?_ | refine And.intro ?_ ?_) | omega | simp (maxSteps := 1000000) only [go_sem, simprocAttr, ↓reduceIte, S.ioS, ioRows, ioN, delL, Item.ren, gsR, renR_ok, List.length_cons, List.length_nil, List.getElem?_cons_zero, List.getElem?_cons_succ, List.getElem?_nil, List.cons_append, List.nil_append, Nat.reduceAdd, Nat.sub_self, Nat.add_zero, List.filter, ne1])
                    refine RetK.auto 1 (Nat.le_refl 1) ?_ rfl ?_ <;> simp only [go_sem, reduceCtorEq, reduceIte, Nat.reduceEqDiff, Nat.reduceLT, Nat.reduceLeDiff, Int.natCast_succ, fromL, gsR])))
  · first
    | (exfalso; omega)
    | (
        have hw := h01 c0
        subst hw
        rcases Classical.em (a < r ∧ r < md) with c1 | c1
        · first
          | (exfalso; omega)
          | (
              have kk := k1 c1.1 c1.2
              (repeat' first | with_reducible (first | intro _ | refine rc ?_ | refine rl ?_ | refine rh ?_ | refine rt ?_ | refine rf ?_ | refine rs ?_ | refine And.intro ?_ ?_) | omega | simp (maxSteps := 1000000) only [go_sem, simprocAttr, ↓reduceIte, hc1, ne1])
              refine VcCall.io [0] kk (by decide) (by simp [renL, ren, ioN]) rfl (by simp [subOk, ioN, lk, Item.ren, Item.below, gsR, renR_ok, belowR_ok]) covG1 1 (by decide) rfl (by simp [rowsB, Item.below, gsR, belowR_ok]) ?_
              rcases Classical.em (r < m ∧ md + m - r < b) with c2 | c2
              · exact absurd (And.intro c2.1 c1.2) c0
              · first
                | (exfalso; omega)
                | (
                    have hw := h23 c2
                    subst hw
                    (repeat' first | with_reducible (first | intro _ | refine rc ?_ | refine rl ?_ | refine rh ?_ | refine rt ?_ | refine rf ?_ | refine rs ?_ | refine And.intro ?_ ?_) | omega | simp (maxSteps := 1000000) only [go_sem, simprocAttr, ↓reduceIte, S.ioS, ioRows, ioN, delL, Item.ren, gsR, renR_ok, List.length_cons, List.length_nil, List.getElem?_cons_zero, List.getElem?_cons_succ, List.getElem?_nil, List.cons_append, List.nil_append, Nat.reduceAdd, Nat.sub_self, Nat.add_zero, List.filter, ne1])
                    refine RetK.auto 1 (Nat.le_refl 1) ?_ rfl ?_ <;> simp only [go_sem, reduceCtorEq, reduceIte, Nat.reduceEqDiff, Nat.reduceLT, Nat.reduceLeDiff, Int.natCast_succ, fromL, gsR]))
        · first
          | (exfalso; omega)
          | (
              have hw := h12 c1
              subst hw
              rcases Classical.em (r < m ∧ md + m - r < b) with c2 | c2
              · first
                | (exfalso; omega)
                | (
                    have kk := k2 c2.1 c2.2
                    (repeat' first | with_reducible (first | intro _ | refine rc ?_ | refine rl ?_ | refine rh ?_ | refine rt ?_ | refine rf ?_ | refine rs ?_ | refine And.intro ?_ ?_) | omega | simp (maxSteps := 1000000) only [go_sem, simprocAttr, ↓reduceIte, hc1, ne1])
                    refine VcCall.io [0] kk (by decide) (by simp [renL, ren, ioN]) rfl (by simp [subOk, ioN, lk, Item.ren, Item.below, gsR, renR_ok, belowR_ok]) covG1 1 (by decide) rfl (by simp [rowsB, Item.below, gsR, belowR_ok]) ?_
                    (repeat' first | with_reducible (first | intro _ | refine rc ?_ | refine rl ?_ | refine rh ?_ | refine rt ?_ | refine rf ?_ | refine rs ?_ | refine And.intro ?_ ?_) | omega | simp (maxSteps := 1000000) only [go_sem, simprocAttr, ↓reduceIte, S.ioS, ioRows, ioN, delL, Item.ren, gsR, renR_ok, List.length_cons, List.length_nil, List.getElem?_cons_zero, List.getElem?_cons_succ, List.getElem?_nil, List.cons_append, List.nil_append, Nat.reduceAdd, Nat.sub_self, Nat.add_zero, List.filter, ne1])
                    refine RetK.auto 1 (Nat.le_refl 1) ?_ rfl ?_ <;> simp only [go_sem, reduceCtorEq, reduceIte, Nat.reduceEqDiff, Nat.reduceLT, Nat.reduceLeDiff, Int.natCast_succ, fromL, gsR])
              · first
                | (exfalso; omega)
                | (
                    have hw := h23 c2
                    subst hw
                    (repeat' first | with_reducible (first | intro _ | refine rc ?_ | refine rl ?_ | refine rh ?_ | refine rt ?_ | refine rf ?_ | refine rs ?_ | refine And.intro ?_ ?_) | omega | simp (maxSteps := 1000000) only [go_sem, simprocAttr, ↓reduceIte, hc1, ne1])
                    refine RetK.auto 1 (Nat.le_refl 1) ?_ rfl ?_ <;> simp only [go_sem, reduceCtorEq, reduceIte, Nat.reduceEqDiff, Nat.reduceLT, Nat.reduceLeDiff, Int.natCast_succ, fromL, gsR])))
end Go.Fv.Y

/- The stable sort of guesses: the walk of a merge in general. -/
namespace Go.Fv.Y
open Go Go.Proofs
set_option linter.unusedSimpArgs false
set_option linter.unusedVariables false
set_option linter.unnecessarySimpa false
set_option maxRecDepth 8000

set_option maxHeartbeats 32000000 in
theorem symGenB_io (F : Nat) (hF : CmpG F) (n : Nat) (hI : SymOk F n) (P U V Q : List Gs) (a m b : Nat) (ha : a = P.length) (hm : m = P.length + U.length) (hb : b = P.length + U.length + V.length) (h2U : 2 ≤ U.length) (h2V : 2 ≤ V.length) (hn : U.length + V.length ≤ n + 1) (hU : Srt U) (hV : Srt V) (hS : Stab (U ++ V)) (hmd00 : ¬ (a + b) / 2 < m) (hN : P.length + U.length + V.length + Q.length ≤ 1000000) :
    FnIO Tryz.prog 152 [.own 0, .int .i64 a, .int .i64 m, .int .i64 b, .fn F []] [(0, .row 65 (gsR (P ++ (U ++ (V ++ Q)))))] 1 (.tup []) [(0, .row 65 (gsR (P ++ (sortG (U ++ V) ++ Q))))] := by
  refine FnIO.of_vc Tryz.func152 rfl (by decide) (by simp [Tryz.f152]) covG1 [] rfl fun w0 T0 _ => ?_
  simp only [Tryz.f152, argEnv]
  have i1 : ¬ (m : Int) - (a : Int) = 1 := by omega
  have i2 : ¬ (b : Int) - (m : Int) = 1 := by omega
  have hWl : (P ++ (U ++ (V ++ Q))).length = P.length + U.length + V.length + Q.length := by simp; omega
  have eU : ∀ g, a ≤ g → g < m → ((P ++ (U ++ (V ++ Q))).map Gs.av).getD g [] = [.str (gd U (g - a)).t, .int .i64 (gd U (g - a)).d, .int .i64 (gd U (g - a)).c] := fun g hg hg2 => by
    rw [gs_elem _ (by omega)]
    have := gd_left (P := P) (V ++ Q) (U := U) (i := g - a) (k := g) (by omega) (by omega)
    unfold gd at this ⊢
    rw [this]
  have eV : ∀ g, m ≤ g → g < b → ((P ++ (U ++ (V ++ Q))).map Gs.av).getD g [] = [.str (gd V (g - m)).t, .int .i64 (gd V (g - m)).d, .int .i64 (gd V (g - m)).c] := fun g hg hg2 => by
    rw [gs_elem _ (by omega)]
    have := gd_right (P := P) (U := U) Q (V := V) (i := g - m) (k := g) (by omega) (by omega)
    unfold gd at this ⊢
    rw [this]
  have hmd0 := half_sum a b
  have hmd1 : a < (a + b) / 2 := by omega
  have hmd2 : (a + b) / 2 < b := by omega
  have hmd3 : 2 * ((a + b) / 2) ≤ a + b ∧ a + b ≤ 2 * ((a + b) / 2) + 1 := by omega
  have hrest := fun s h1 h2 h3 h4 hc => restG (P := P) (U := U) (V := V) (Q := Q) (a := a) (m := m) (b := b) (md := (a + b) / 2) (s := s) hI ha hm hb hn hmd1 hmd2 h1 h2 h3 h4 hU hV hS hN hc
  generalize (a + b) / 2 = md at *
  generalize P ++ (sortG (U ++ V) ++ Q) = W3 at *
  generalize hW : P ++ (U ++ (V ++ Q)) = W at *
  have hWm : (W.map Gs.av).length = P.length + U.length + V.length + Q.length := by rw [List.length_map]; exact hWl
  have nn : (md : Int) + (m : Int) = ((md + m : Nat) : Int) := by omega
  have np : ((md + m : Nat) : Int) - 1 = ((md + m - 1 : Nat) : Int) := by omega
  (repeat' first | with_reducible (first | intro _ | refine rc ?_ | refine rl ?_ | refine rh ?_ | refine rt ?_ | refine rf ?_ | refine rs ?_ | refine And.intro ?_ ?_) | omega | simp (maxSteps := 1000000) only [go_sem, simprocAttr, ↓reduceIte, i1, i2])
  refine LetW.inR (InK_u64.2 (by omega)) ?_
  rw [hmd0]
  have hlh : a ≤ m := by omega
  have b1 : a ≤ a := Nat.le_refl _
  have b2 : m ≤ m := Nat.le_refl _
  have b3 : m ≤ md := by omega
  have b4 : md + m ≤ b + a := by omega
  have hends : EndsG a m a m b md := ⟨.inl rfl, .inl rfl⟩
  have hg : ¬ (md : Int) < (m : Int) := by omega
  (repeat' first | with_reducible (first | intro _ | refine rc ?_ | refine rl ?_ | refine rh ?_ | refine rt ?_ | refine rf ?_ | refine rs ?_ | refine And.intro ?_ ?_) | omega | simp (maxSteps := 1000000) only [go_sem, simprocAttr, ↓reduceIte, nn, np, hg])
  refine VcLoop.intro (fun z : Nat × Nat => ⟨220, [(0, .own 0), (1, .int .i64 a), (2, .int .i64 m), (3, .int .i64 b), (4, .fn F []), (18, .int .i64 md), (19, .int .i64 (md + m : Nat)), (20, .int .i64 z.1), (21, .int .i64 z.2), (22, .int .i64 (md + m - 1 : Nat))], [(0, .row 65 (gsR W))], 1⟩) (fun z => (a ≤ z.1 ∧ z.1 ≤ z.2 ∧ z.2 ≤ m) ∧ SInv U V a md a m z.1 z.2) (fun z => z.2 - z.1) (a, m) ?_ ⟨⟨Nat.le_refl _, hlh, Nat.le_refl _⟩, fun h => absurd h (Nat.lt_irrefl _), fun h => absurd h (Nat.lt_irrefl _)⟩ fun z hz => ?_
  · refine Ent.autoK 1 rfl (Nat.le_refl 1) ?_ ?_ <;> simp only [go_sem, reduceCtorEq, reduceIte, Nat.reduceEqDiff, Nat.reduceLT, Nat.reduceLeDiff, Int.natCast_succ, fromL, gsR, nn, np]
    all_goals omega
  obtain ⟨s, r⟩ := z
  obtain ⟨⟨z1, z2, z3⟩, za⟩ := hz
  dsimp only at z1 z2 z3 za ⊢
  by_cases hsr : s < r
  · have hsh := half_sum s r
    have hm1 : s ≤ (s + r) / 2 := by omega
    have hm2 : (s + r) / 2 < r := by omega
    generalize (s + r) / 2 = c at *
    have n1 : ((md + m - 1 : Nat) : Int) - (c : Int) = ((md + m - 1 - c : Nat) : Int) := by omega
    have e1 := eU c (by omega) (by omega)
    have e2 := eV (md + m - 1 - c) (by omega) (by omega)
    have ei : md + m - 1 - c - m = md - 1 - c := by omega
    rw [ei] at e2
    have kc := hF (gd V (md - 1 - c)) (gd U (c - a))
    have hc1 : (s : Int) < (r : Int) := by omega
    (repeat' first | with_reducible (first | intro _ | refine rc ?_ | refine rl ?_ | refine rh ?_ | refine rt ?_ | refine rf ?_ | refine rs ?_ | refine And.intro ?_ ?_) | omega | simp (maxSteps := 1000000) only [go_sem, simprocAttr, ↓reduceIte, hc1])
    refine LetW.inR (InK_u64.2 (by omega)) ?_
    rw [hsh]
    (repeat' first | with_reducible (first | intro _ | refine rc ?_ | refine rl ?_ | refine rh ?_ | refine rt ?_ | refine rf ?_ | refine rs ?_ | refine And.intro ?_ ?_) | omega | simp (maxSteps := 1000000) only [go_sem, simprocAttr, ↓reduceIte, Int.toNat_natCast])
    refine VcDraw.lex [] [] (by kernel_rfl) (by kernel_rfl) ?_
    by_cases hlt0 : lt0 (gd V (md - 1 - c)) (gd U (c - a))
    · have hcn := cf_neg hlt0
      have hinv : (a ≤ s ∧ s ≤ c ∧ c ≤ m) ∧ SInv U V a md a m s c := ⟨by omega, za.1, fun _ => hlt0⟩
      generalize cfG (gd V (md - 1 - c)) (gd U (c - a)) = cv at *
      generalize gd V (md - 1 - c) = v at *
      generalize gd U (c - a) = u at *
      (repeat' first | with_reducible (first | intro _ | refine rc ?_ | refine rl ?_ | refine rh ?_ | refine rt ?_ | refine rf ?_ | refine rs ?_ | refine And.intro ?_ ?_) | omega | simp (maxSteps := 1000000) only [go_sem, simprocAttr, ↓reduceIte, Int.toNat_natCast, elemA, e1, e2, n1, gsR])
      refine QV.intro (.int .i64 cv) ?_ ?_
      · (repeat' first | with_reducible (first | intro _ | refine rc ?_ | refine rl ?_ | refine rh ?_ | refine rt ?_ | refine rf ?_ | refine rs ?_ | refine And.intro ?_ ?_) | omega | simp (maxSteps := 1000000) only [go_sem, simprocAttr, ↓reduceIte, Int.toNat_natCast, elemA, e1, e2, n1, gsR])
        refine VcCall.k (kc) ?_
        (repeat' first | with_reducible (first | intro _ | refine rc ?_ | refine rl ?_ | refine rh ?_ | refine rt ?_ | refine rf ?_ | refine rs ?_ | refine And.intro ?_ ?_) | omega | simp (maxSteps := 1000000) only [go_sem, simprocAttr, ↓reduceIte, gsR])
      (repeat' first | with_reducible (first | intro _ | refine rc ?_ | refine rl ?_ | refine rh ?_ | refine rt ?_ | refine rf ?_ | refine rs ?_ | refine And.intro ?_ ?_) | omega | simp (maxSteps := 1000000) only [go_sem, simprocAttr, ↓reduceIte, hcn, gsR])
      refine ⟨(s, c), Ent.autoK 1 rfl (Nat.le_refl 1) ?_ ?_, hinv, by dsimp only; omega⟩ <;> simp only [go_sem, reduceCtorEq, reduceIte, Nat.reduceEqDiff, Nat.reduceLT, Nat.reduceLeDiff, Int.natCast_succ, fromL, gsR]
    · have hcn := cf_not hlt0
      have hinv : (a ≤ c + 1 ∧ c + 1 ≤ r ∧ r ≤ m) ∧ SInv U V a md a m (c + 1) r := ⟨by omega, fun _ => by
        rw [show md - (c + 1) = md - 1 - c by omega, show c + 1 - 1 - a = c - a by omega]; exact hlt0, za.2⟩
      generalize cfG (gd V (md - 1 - c)) (gd U (c - a)) = cv at *
      generalize gd V (md - 1 - c) = v at *
      generalize gd U (c - a) = u at *
      (repeat' first | with_reducible (first | intro _ | refine rc ?_ | refine rl ?_ | refine rh ?_ | refine rt ?_ | refine rf ?_ | refine rs ?_ | refine And.intro ?_ ?_) | omega | simp (maxSteps := 1000000) only [go_sem, simprocAttr, ↓reduceIte, Int.toNat_natCast, elemA, e1, e2, n1, gsR])
      refine QV.intro (.int .i64 cv) ?_ ?_
      · (repeat' first | with_reducible (first | intro _ | refine rc ?_ | refine rl ?_ | refine rh ?_ | refine rt ?_ | refine rf ?_ | refine rs ?_ | refine And.intro ?_ ?_) | omega | simp (maxSteps := 1000000) only [go_sem, simprocAttr, ↓reduceIte, Int.toNat_natCast, elemA, e1, e2, n1, gsR])
        refine VcCall.k (kc) ?_
        (repeat' first | with_reducible (first | intro _ | refine rc ?_ | refine rl ?_ | refine rh ?_ | refine rt ?_ | refine rf ?_ | refine rs ?_ | refine And.intro ?_ ?_) | omega | simp (maxSteps := 1000000) only [go_sem, simprocAttr, ↓reduceIte, gsR])
      (repeat' first | with_reducible (first | intro _ | refine rc ?_ | refine rl ?_ | refine rh ?_ | refine rt ?_ | refine rf ?_ | refine rs ?_ | refine And.intro ?_ ?_) | omega | simp (maxSteps := 1000000) only [go_sem, simprocAttr, ↓reduceIte, hcn, gsR])
      refine ⟨(c + 1, r), Ent.autoK 1 rfl (Nat.le_refl 1) ?_ ?_, hinv, by dsimp only; omega⟩ <;> simp only [go_sem, reduceCtorEq, reduceIte, Nat.reduceEqDiff, Nat.reduceLT, Nat.reduceLeDiff, Int.natCast_succ, fromL, gsR]
  have e : r = s := by omega
  subst e
  obtain ⟨W1, W2, kr, h01, k1, h12, k2, h23⟩ := (hrest r (by omega) (by omega) (by omega) (by omega) (za.cut hends z1 z3 b1 b2 b3 b4 (by omega) (by omega))).ex
  have ne1 : ((md + m : Nat) : Int) - (r : Int) = ((md + m - r : Nat) : Int) := by omega
  have hc1 : ¬ (r : Int) < (r : Int) := by omega
  clear za hsr hrest eU eV hends
  rcases Classical.em (r < m ∧ r < md) with c0 | c0
  · first
    | (exfalso; omega)
    | (
        have kk := kr c0.1 c0.2
        (repeat' first | with_reducible (first | intro _ | refine rc ?_ | refine rl ?_ | refine rh ?_ | refine rt ?_ | refine rf ?_ | refine rs ?_ | refine And.intro ?_ ?_) | omega | simp (maxSteps := 1000000) only [go_sem, simprocAttr, ↓reduceIte, hc1, ne1])
        refine VcCall.io [0] kk (by decide) (by simp [renL, ren, ioN]) rfl (by simp [subOk, ioN, lk, Item.ren, Item.below, gsR, renR_ok, belowR_ok]) covG1 1 (by decide) rfl (by simp [rowsB, Item.below, gsR, belowR_ok]) ?_
        rcases Classical.em (a < r ∧ r < md) with c1 | c1
        · first
          | (exfalso; omega)
          | (
              have kk := k1 c1.1 c1.2
              (repeat' first | with_reducible (first | intro _ | refine rc ?_ | refine rl ?_ | refine rh ?_ | refine rt ?_ | refine rf ?_ | refine rs ?_ | refine And.intro ?_ ?_) | omega | simp (maxSteps := 1000000) only [go_sem, simprocAttr, ↓reduceIte, S.ioS, ioRows, ioN, delL, Item.ren, gsR, renR_ok, List.length_cons, List.length_nil, List.getElem?_cons_zero, List.getElem?_cons_succ, List.getElem?_nil, List.cons_append, List.nil_append, Nat.reduceAdd, Nat.sub_self, Nat.add_zero, List.filter, ne1])
              refine VcCall.io [0] kk (by decide) (by simp [renL, ren, ioN]) rfl (by simp [subOk, ioN, lk, Item.ren, Item.below, gsR, renR_ok, belowR_ok]) covG1 1 (by decide) rfl (by simp [rowsB, Item.below, gsR, belowR_ok]) ?_
              rcases Classical.em (r < m ∧ md + m - r < b) with c2 | c2
              · first
                | (exfalso; omega)
                | (
                    have kk := k2 c2.1 c2.2
                    (repeat' first | with_reducible (first | intro _ | refine rc ?_ | refine rl ?_ | refine rh ?_ | refine rt ?_ | refine rf ?_ | refine rs ?_ | refine And.intro ?_ ?_) | omega | simp (maxSteps := 1000000) only [go_sem, simprocAttr, ↓reduceIte, S.ioS, ioRows, ioN, delL, Item.ren, gsR, renR_ok, List.length_cons, List.length_nil, List.getElem?_cons_zero, List.getElem?_cons_succ, List.getElem?_nil, List.cons_append, List.nil_append, Nat.reduceAdd, Nat.sub_self, Nat.add_zero, List.filter, ne1])
                    refine VcCall.io [0] kk (by decide) (by simp [renL, ren, ioN]) rfl (by simp [subOk, ioN, lk, Item.ren, Item.below, gsR, renR_ok, belowR_ok]) covG1 1 (by decide) rfl (by simp [rowsB, Item.below, gsR, belowR_ok]) ?_
                    (repeat' first | with_reducible (first | intro _ | refine rc ?_ | refine rl ?_ | refine rh ?_ | refine rt ?_ | refine rf ?_ | refine rs ?_ | refine And.intro ?_ ?_) | omega | simp (maxSteps := 1000000) only [go_sem, simprocAttr, ↓reduceIte, S.ioS, ioRows, ioN, delL, Item.ren, gsR, renR_ok, List.length_cons, List.length_nil, List.getElem?_cons_zero, List.getElem?_cons_succ, List.getElem?_nil, List.cons_append, List.nil_append, Nat.reduceAdd, Nat.sub_self, Nat.add_zero, List.filter, ne1])
                    refine RetK.auto 1 (Nat.le_refl 1) ?_ rfl ?_ <;> simp only [go_sem, reduceCtorEq, reduceIte, Nat.reduceEqDiff, Nat.reduceLT, Nat.reduceLeDiff, Int.natCast_succ, fromL, gsR])
              · first
                | (exfalso; omega)
                | (
                    have hw := h23 c2
                    subst hw
                    (repeat' first | with_reducible (first | intro _ | refine rc ?_ | refine rl ?_ | refine rh ?_ | refine rt ?_ | refine rf ?_ | refine rs ?_ | refine And.intro ?_ ?_) | omega | simp (maxSteps := 1000000) only [go_sem, simprocAttr, ↓reduceIte, S.ioS, ioRows, ioN, delL, Item.ren, gsR, renR_ok, List.length_cons, List.length_nil, List.getElem?_cons_zero, List.getElem?_cons_succ, List.getElem?_nil, List.cons_append, List.nil_append, Nat.reduceAdd, Nat.sub_self, Nat.add_zero, List.filter, ne1])
                    refine RetK.auto 1 (Nat.le_refl 1) ?_ rfl ?_ <;> simp only [go_sem, reduceCtorEq, reduceIte, Nat.reduceEqDiff, Nat.reduceLT, Nat.reduceLeDiff, Int.natCast_succ, fromL, gsR]))
        · first
          | (exfalso; omega)
          | (
              have hw := h12 c1
              subst hw
              rcases Classical.em (r < m ∧ md + m - r < b) with c2 | c2
              · first
                | (exfalso; omega)
                | (
                    have kk := k2 c2.1 c2.2
                    (repeat' first | with_reducible (first | intro _ | refine rc ?_ | refine rl ?_ | refine rh ?_ | refine rt ?_ | refine rf ?_ | refine rs ?_ | refine And.intro ?_ ?_) | omega | simp (maxSteps := 1000000) only [go_sem, simprocAttr, ↓reduceIte, S.ioS, ioRows, ioN, delL, Item.ren, gsR, renR_ok, List.length_cons, List.length_nil, List.getElem?_cons_zero, List.getElem?_cons_succ, List.getElem?_nil, List.cons_append, List.nil_append, Nat.reduceAdd, Nat.sub_self, Nat.add_zero, List.filter, ne1])
                    refine VcCall.io [0] kk (by decide) (by simp [renL, ren, ioN]) rfl (by simp [subOk, ioN, lk, Item.ren, Item.below, gsR, renR_ok, belowR_ok]) covG1 1 (by decide) rfl (by simp [rowsB, Item.below, gsR, belowR_ok]) ?_
                    (repeat' first | with_reducible (first | intro _ | refine rc ?_ | refine rl ?_ | refine rh ?_ | refine rt ?_ | refine rf ?_ | refine rs ?_ | refine And.intro ?_ ?_) | omega | simp (maxSteps := 1000000) only [go_sem, simprocAttr, ↓reduceIte, S.ioS, ioRows, ioN, delL, Item.ren, gsR, renR_ok, List.length_cons, List.length_nil, List.getElem?_cons_zero, List.getElem?_cons_succ, List.getElem?_nil, List.cons_append, List.nil_append, Nat.reduceAdd, Nat.sub_self, Nat.add_zero, List.filter, ne1])
                    refine RetK.auto 1 (Nat.le_refl 1) ?_ rfl ?_ <;> simp only [go_sem, reduceCtorEq, reduceIte, Nat.reduceEqDiff, Nat.reduceLT, Nat.reduceLeDiff, Int.natCast_succ, fromL, gsR])
              · first
                | (exfalso; omega)
                | (
                    have hw := h23 c2
                    subst hw
                    (repeat' first | with_reducible (first | intro _ | refine rc ?_ | refine rl ?_ | refine rh ?_ | refine rt ?_ | refine rf ?_ | refine rs ?_ | refine And.intro ?_ ?_) | omega | simp (maxSteps := 1000000) only [go_sem, simprocAttr, ↓reduceIte, S.ioS, ioRows, ioN, delL, Item.ren, gsR, renR_ok, List.length_cons, List.length_nil, List.getElem?_cons_zero, List.getElem?_cons_succ, List.getElem?_nil, List.cons_append, List.nil_append, Nat.reduceAdd, Nat.sub_self, Nat.add_zero, List.filter, ne1])
                    refine RetK.auto 1 (Nat.le_refl 1) ?_ rfl ?_ <;> simp only [go_sem, reduceCtorEq, reduceIte, Nat.reduceEqDiff, Nat.reduceLT, Nat.reduceLeDiff, Int.natCast_succ, fromL, gsR])))
  · first
    | (exfalso; omega)
    | (
        have hw := h01 c0
        subst hw
        rcases Classical.em (a < r ∧ r < md) with c1 | c1
        · first
          | (exfalso; omega)
          | (
              have kk := k1 c1.1 c1.2
              (repeat' first | with_reducible (first | intro _ | refine rc ?_ | refine rl ?_ | refine rh ?_ | refine rt ?_ | refine rf ?_ | refine rs ?_ | refine And.intro ?_ ?_) | omega | simp (maxSteps := 1000000) only [go_sem, simprocAttr, ↓reduceIte, hc1, ne1])
              refine VcCall.io [0] kk (by decide) (by simp [renL, ren, ioN]) rfl (by simp [subOk, ioN, lk, Item.ren, Item.below, gsR, renR_ok, belowR_ok]) covG1 1 (by decide) rfl (by simp [rowsB, Item.below, gsR, belowR_ok]) ?_
              rcases Classical.em (r < m ∧ md + m - r < b) with c2 | c2
              · exact absurd (And.intro c2.1 c1.2) c0
              · first
                | (exfalso; omega)
                | (
                    have hw := h23 c2
                    subst hw
                    (repeat' first | with_reducible (first | intro _ | refine rc ?_ | refine rl ?_ | refine rh ?_ | refine rt ?_ | refine rf ?_ | refine rs ?_ | refine And.intro ?_ ?_) | omega | simp (maxSteps := 1000000) only [go_sem, simprocAttr, ↓reduceIte, S.ioS, ioRows, ioN, delL, Item.ren, gsR, renR_ok, List.length_cons, List.length_nil, List.getElem?_cons_zero, List.getElem?_cons_succ, List.getElem?_nil, List.cons_append, List.nil_append, Nat.reduceAdd, Nat.sub_self, Nat.add_zero, List.filter, ne1])
                    refine RetK.auto 1 (Nat.le_refl 1) ?_ rfl ?_ <;> simp only [go_sem, reduceCtorEq, reduceIte, Nat.reduceEqDiff, Nat.reduceLT, Nat.reduceLeDiff, Int.natCast_succ, fromL, gsR]))
        · first
          | (exfalso; omega)
          | (
              have hw := h12 c1
              subst hw
              rcases Classical.em (r < m ∧ md + m - r < b) with c2 | c2
              · first
                | (exfalso; omega)
                | (
                    have kk := k2 c2.1 c2.2
                    (repeat' first | with_reducible (first | intro _ | refine rc ?_ | refine rl ?_ | refine rh ?_ | refine rt ?_ | refine rf ?_ | refine rs ?_ | refine And.intro ?_ ?_) | omega | simp (maxSteps := 1000000) only [go_sem, simprocAttr, ↓reduceIte, hc1, ne1])
                    refine VcCall.io [0] kk (by decide) (by simp [renL, ren, ioN]) rfl (by simp [subOk, ioN, lk, Item.ren, Item.below, gsR, renR_ok, belowR_ok]) covG1 1 (by decide) rfl (by simp [rowsB, Item.below, gsR, belowR_ok]) ?_
                    (repeat' first | with_reducible (first | intro _ | refine rc ?_ | refine rl ?_ | refine rh ?_ | refine rt ?_ | refine rf ?_ | refine rs ?_ | refine And.intro ?_ ?_) | omega | simp (maxSteps := 1000000) only [go_sem, simprocAttr, ↓reduceIte, S.ioS, ioRows, ioN, delL, Item.ren, gsR, renR_ok, List.length_cons, List.length_nil, List.getElem?_cons_zero, List.getElem?_cons_succ, List.getElem?_nil, List.cons_append, List.nil_append, Nat.reduceAdd, Nat.sub_self, Nat.add_zero, List.filter, ne1])
                    refine RetK.auto 1 (Nat.le_refl 1) ?_ rfl ?_ <;> simp only [go_sem, reduceCtorEq, reduceIte, Nat.reduceEqDiff, Nat.reduceLT, Nat.reduceLeDiff, Int.natCast_succ, fromL, gsR])
              · first
                | (exfalso; omega)
                | (
                    have hw := h23 c2
                    subst hw
                    (repeat' first | with_reducible (first | intro _ | refine rc ?_ | refine rl ?_ | refine rh ?_ | refine rt ?_ | refine rf ?_ | refine rs ?_ | refine And.intro ?_ ?_) | omega | simp (maxSteps := 1000000) only [go_sem, simprocAttr, ↓reduceIte, hc1, ne1])
                    refine RetK.auto 1 (Nat.le_refl 1) ?_ rfl ?_ <;> simp only [go_sem, reduceCtorEq, reduceIte, Nat.reduceEqDiff, Nat.reduceLT, Nat.reduceLeDiff, Int.natCast_succ, fromL, gsR])))
end Go.Fv.Y

/- The stable sort of guesses: the walk of a merge in general. -/
namespace Go.Fv.Y
open Go Go.Proofs
set_option linter.unusedSimpArgs false
set_option linter.unusedVariables false
set_option linter.unnecessarySimpa false
set_option maxRecDepth 8000

theorem symMerge_io (F : Nat) (hF : CmpG F) : ∀ n, SymOk F n
  | 0 => fun P U V Q a m b _ _ _ h1 h2 h3 _ _ _ _ => by omega
  | n + 1 => fun P U V Q a m b ha hm hb h1 h2 h3 hU hV hS hN => by
    by_cases e1 : U.length = 1
    · obtain ⟨x, rfl⟩ := List.length_eq_one_iff.1 e1
      exact symFirst_io F hF P V Q x a m b ha hm hb hV hS hN
    by_cases e2 : V.length = 1
    · obtain ⟨y, rfl⟩ := List.length_eq_one_iff.1 e2
      exact symLast_io F hF P U Q y a m b ha hm hb (by omega) hU hS hN
    by_cases hmd : (a + b) / 2 < m
    · exact symGenA_io F hF n (symMerge_io F hF n) P U V Q a m b ha hm hb (by omega) (by omega) h3 hU hV hS hmd hN
    · exact symGenB_io F hF n (symMerge_io F hF n) P U V Q a m b ha hm hb (by omega) (by omega) h3 hU hV hS hmd hN
end Go.Fv.Y
