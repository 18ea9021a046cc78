/-
  A part of the proof of the claim: walks over the program's functions and the plain laws that these need. No condition of its own.
-/
import Derived.Test.YtmdaiceacfgkpaaGreatDoorYCorrectsCardPart4
import Derived.Test.YtmdaiceacfgkpaaGreatDoorYCorrectsCardPart1
import Derived.Shelf.Small.Strs
/- The stable sort of guesses: the walk of a merge in general. -/
namespace Go.Fv.Y
open Go Go.Proofs
set_option linter.unusedSimpArgs false
set_option linter.unusedVariables false
set_option linter.unnecessarySimpa false
set_option maxRecDepth 8000

set_option maxHeartbeats 32000000 in
theorem symGenA_io (F : Nat) (hF : CmpG F) (n : Nat) (hI : SymOk F n) (P U V Q : List Gs) (a m b : Nat) (ha : a = P.length) (hm : m = P.length + U.length) (hb : b = P.length + U.length + V.length) (h2U : 2 ≤ U.length) (h2V : 2 ≤ V.length) (hn : U.length + V.length ≤ n + 1) (hU : Srt U) (hV : Srt V) (hS : Stab (U ++ V)) (hmd00 : (a + b) / 2 < m) (hN : P.length + U.length + V.length + Q.length ≤ 1000000) :
    FnIO Tryz.prog 156 [.own 0, .int .i64 a, .int .i64 m, .int .i64 b, .fn F []] [(0, .row 41 (gsR (P ++ (U ++ (V ++ Q)))))] 1 (.tup []) [(0, .row 41 (gsR (P ++ (sortG (U ++ V) ++ Q))))] := by
  refine FnIO.of_vc Tryz.func156 rfl (by decide) (by simp [Tryz.f156]) covG1 [] rfl fun w0 T0 _ => ?_
  simp only [Tryz.f156, argEnv]
  have i1 : ¬ (m : Int) - (a : Int) = 1 := by omega
  have i2 : ¬ (b : Int) - (m : Int) = 1 := by omega
  have hWl : (P ++ (U ++ (V ++ Q))).length = P.length + U.length + V.length + Q.length := by simp; omega
  have eU : ∀ g, a ≤ g → g < m → ((P ++ (U ++ (V ++ Q))).map Gs.av).getD g [] = [.str (gd U (g - a)).t, .int .i64 (gd U (g - a)).d, .int .i64 (gd U (g - a)).c] := fun g hg hg2 => by
    rw [gs_elem _ (by omega)]
    have := gd_left (P := P) (V ++ Q) (U := U) (i := g - a) (k := g) (by omega) (by omega)
    unfold gd at this ⊢
    rw [this]
  have eV : ∀ g, m ≤ g → g < b → ((P ++ (U ++ (V ++ Q))).map Gs.av).getD g [] = [.str (gd V (g - m)).t, .int .i64 (gd V (g - m)).d, .int .i64 (gd V (g - m)).c] := fun g hg hg2 => by
    rw [gs_elem _ (by omega)]
    have := gd_right (P := P) (U := U) Q (V := V) (i := g - m) (k := g) (by omega) (by omega)
    unfold gd at this ⊢
    rw [this]
  have hmd0 := half_sum a b
  have hmd1 : a < (a + b) / 2 := by omega
  have hmd2 : (a + b) / 2 < b := by omega
  have hmd3 : 2 * ((a + b) / 2) ≤ a + b ∧ a + b ≤ 2 * ((a + b) / 2) + 1 := by omega
  have hrest := fun s h1 h2 h3 h4 hc => restG (P := P) (U := U) (V := V) (Q := Q) (a := a) (m := m) (b := b) (md := (a + b) / 2) (s := s) hI ha hm hb hn hmd1 hmd2 h1 h2 h3 h4 hU hV hS hN hc
  generalize (a + b) / 2 = md at *
  generalize P ++ (sortG (U ++ V) ++ Q) = W3 at *
  generalize hW : P ++ (U ++ (V ++ Q)) = W at *
  have hWm : (W.map Gs.av).length = P.length + U.length + V.length + Q.length := by rw [List.length_map]; exact hWl
  have nn : (md : Int) + (m : Int) = ((md + m : Nat) : Int) := by omega
  have np : ((md + m : Nat) : Int) - 1 = ((md + m - 1 : Nat) : Int) := by omega
  (repeat' first | with_reducible (first | intro _ | refine rc ?_ | refine rl ?_ | refine rh ?_ | refine rt ?_ | refine rf ?_ | refine rs ?_ | refine And.intro ?_ ?_) | omega | simp (maxSteps := 1000000) only [go_sem, simprocAttr, ↓reduceIte, i1, i2])
  refine LetW.inR (InK_u64.2 (by omega)) ?_
  rw [hmd0]
  obtain ⟨lo, hi, hlh, b1, b2, b3, b4, hends, l1, l2⟩ : ∃ lo hi : Nat, lo ≤ hi ∧ a ≤ lo ∧ hi ≤ m ∧ hi ≤ md ∧ md + m ≤ b + lo ∧ EndsG lo hi a m b md ∧ ((md + m : Nat) : Int) - (b : Int) = (lo : Int) ∧ (md : Int) = (hi : Int) := ⟨md + m - b, md, by omega, by omega, by omega, by omega, by omega, ⟨by omega, by omega⟩, by omega, rfl⟩
  have hg : (md : Int) < (m : Int) := by omega
  (repeat' first | with_reducible (first | intro _ | refine rc ?_ | refine rl ?_ | refine rh ?_ | refine rt ?_ | refine rf ?_ | refine rs ?_ | refine And.intro ?_ ?_) | omega | simp (maxSteps := 1000000) only [go_sem, simprocAttr, ↓reduceIte, nn, np, hg, l1])
  refine VcLoop.intro (fun z : Nat × Nat => ⟨220, [(0, .own 0), (1, .int .i64 a), (2, .int .i64 m), (3, .int .i64 b), (4, .fn F []), (18, .int .i64 md), (19, .int .i64 (md + m : Nat)), (20, .int .i64 z.1), (21, .int .i64 z.2), (22, .int .i64 (md + m - 1 : Nat))], [(0, .row 41 (gsR W))], 1⟩) (fun z => (lo ≤ z.1 ∧ z.1 ≤ z.2 ∧ z.2 ≤ hi) ∧ SInv U V a md lo hi z.1 z.2) (fun z => z.2 - z.1) (lo, hi) ?_ ⟨⟨Nat.le_refl _, hlh, Nat.le_refl _⟩, fun h => absurd h (Nat.lt_irrefl _), fun h => absurd h (Nat.lt_irrefl _)⟩ fun z hz => ?_
  · refine Ent.autoK 1 rfl (Nat.le_refl 1) ?_ ?_ <;> simp only [go_sem, reduceCtorEq, reduceIte, Nat.reduceEqDiff, Nat.reduceLT, Nat.reduceLeDiff, Int.natCast_succ, fromL, gsR, nn, np]
    all_goals omega
  obtain ⟨s, r⟩ := z
  obtain ⟨⟨z1, z2, z3⟩, za⟩ := hz
  dsimp only at z1 z2 z3 za ⊢
  by_cases hsr : s < r
  · have hsh := half_sum s r
    have hm1 : s ≤ (s + r) / 2 := by omega
    have hm2 : (s + r) / 2 < r := by omega
    generalize (s + r) / 2 = c at *
    have n1 : ((md + m - 1 : Nat) : Int) - (c : Int) = ((md + m - 1 - c : Nat) : Int) := by omega
    have e1 := eU c (by omega) (by omega)
    have e2 := eV (md + m - 1 - c) (by omega) (by omega)
    have ei : md + m - 1 - c - m = md - 1 - c := by omega
    rw [ei] at e2
    have kc := hF (gd V (md - 1 - c)) (gd U (c - a))
    have hc1 : (s : Int) < (r : Int) := by omega
    (repeat' first | with_reducible (first | intro _ | refine rc ?_ | refine rl ?_ | refine rh ?_ | refine rt ?_ | refine rf ?_ | refine rs ?_ | refine And.intro ?_ ?_) | omega | simp (maxSteps := 1000000) only [go_sem, simprocAttr, ↓reduceIte, hc1])
    refine LetW.inR (InK_u64.2 (by omega)) ?_
    rw [hsh]
    (repeat' first | with_reducible (first | intro _ | refine rc ?_ | refine rl ?_ | refine rh ?_ | refine rt ?_ | refine rf ?_ | refine rs ?_ | refine And.intro ?_ ?_) | omega | simp (maxSteps := 1000000) only [go_sem, simprocAttr, ↓reduceIte, Int.toNat_natCast])
    refine VcDraw.lex [] [] (by kernel_rfl) (by kernel_rfl) ?_
    by_cases hlt0 : lt0 (gd V (md - 1 - c)) (gd U (c - a))
    · have hcn := cf_neg hlt0
      have hinv : (lo ≤ s ∧ s ≤ c ∧ c ≤ hi) ∧ SInv U V a md lo hi s c := ⟨by omega, za.1, fun _ => hlt0⟩
      generalize cfG (gd V (md - 1 - c)) (gd U (c - a)) = cv at *
      generalize gd V (md - 1 - c) = v at *
      generalize gd U (c - a) = u at *
      (repeat' first | with_reducible (first | intro _ | refine rc ?_ | refine rl ?_ | refine rh ?_ | refine rt ?_ | refine rf ?_ | refine rs ?_ | refine And.intro ?_ ?_) | omega | simp (maxSteps := 1000000) only [go_sem, simprocAttr, ↓reduceIte, Int.toNat_natCast, elemA, e1, e2, n1, gsR])
      refine QV.intro (.int .i64 cv) ?_ ?_
      · (repeat' first | with_reducible (first | intro _ | refine rc ?_ | refine rl ?_ | refine rh ?_ | refine rt ?_ | refine rf ?_ | refine rs ?_ | refine And.intro ?_ ?_) | omega | simp (maxSteps := 1000000) only [go_sem, simprocAttr, ↓reduceIte, Int.toNat_natCast, elemA, e1, e2, n1, gsR])
        refine VcCall.k (kc) ?_
        (repeat' first | with_reducible (first | intro _ | refine rc ?_ | refine rl ?_ | refine rh ?_ | refine rt ?_ | refine rf ?_ | refine rs ?_ | refine And.intro ?_ ?_) | omega | simp (maxSteps := 1000000) only [go_sem, simprocAttr, ↓reduceIte, gsR])
      (repeat' first | with_reducible (first | intro _ | refine rc ?_ | refine rl ?_ | refine rh ?_ | refine rt ?_ | refine rf ?_ | refine rs ?_ | refine And.intro ?_ ?_) | omega | simp (maxSteps := 1000000) only [go_sem, simprocAttr, ↓reduceIte, hcn, gsR])
      refine ⟨(s, c), Ent.autoK 1 rfl (Nat.le_refl 1) ?_ ?_, hinv, by dsimp only; omega⟩ <;> simp only [go_sem, reduceCtorEq, reduceIte, Nat.reduceEqDiff, Nat.reduceLT, Nat.reduceLeDiff, Int.natCast_succ, fromL, gsR]
    · have hcn := cf_not hlt0
      have hinv : (lo ≤ c + 1 ∧ c + 1 ≤ r ∧ r ≤ hi) ∧ SInv U V a md lo hi (c + 1) r := ⟨by omega, fun _ => by
        rw [show md - (c + 1) = md - 1 - c by omega, show c + 1 - 1 - a = c - a by omega]; exact hlt0, za.2⟩
      generalize cfG (gd V (md - 1 - c)) (gd U (c - a)) = cv at *
      generalize gd V (md - 1 - c) = v at *
      generalize gd U (c - a) = u at *
      (repeat' first | with_reducible (first | intro _ | refine rc ?_ | refine rl ?_ | refine rh ?_ | refine rt ?_ | refine rf ?_ | refine rs ?_ | refine And.intro ?_ ?_) | omega | simp (maxSteps := 1000000) only [go_sem, simprocAttr, ↓reduceIte, Int.toNat_natCast, elemA, e1, e2, n1, gsR])
      refine QV.intro (.int .i64 cv) ?_ ?_
      · (repeat' first | with_reducible (first | intro _ | refine rc ?_ | refine rl ?_ | refine rh ?_ | refine rt ?_ | refine rf ?_ | refine rs ?_ | refine And.intro ?_ ?_) | omega | simp (maxSteps := 1000000) only [go_sem, simprocAttr, ↓reduceIte, Int.toNat_natCast, elemA, e1, e2, n1, gsR])
        refine VcCall.k (kc) ?_
        (repeat' first | with_reducible (first | intro _ | refine rc ?_ | refine rl ?_ | refine rh ?_ | refine rt ?_ | refine rf ?_ | refine rs ?_ | refine And.intro ?_ ?_) | omega | simp (maxSteps := 1000000) only [go_sem, simprocAttr, ↓reduceIte, gsR])
      (repeat' first | with_reducible (first | intro _ | refine rc ?_ | refine rl ?_ | refine rh ?_ | refine rt ?_ | refine rf ?_ | refine rs ?_ | refine And.intro ?_ ?_) | omega | simp (maxSteps := 1000000) only [go_sem, simprocAttr, ↓reduceIte, hcn, gsR])
      refine ⟨(c + 1, r), Ent.autoK 1 rfl (Nat.le_refl 1) ?_ ?_, hinv, by dsimp only; omega⟩ <;> simp only [go_sem, reduceCtorEq, reduceIte, Nat.reduceEqDiff, Nat.reduceLT, Nat.reduceLeDiff, Int.natCast_succ, fromL, gsR]
  have e : r = s := by omega
  subst e
  obtain ⟨W1, W2, kr, h01, k1, h12, k2, h23⟩ := (hrest r (by omega) (by omega) (by omega) (by omega) (za.cut hends z1 z3 b1 b2 b3 b4 (by omega) (by omega))).ex
  have ne1 : ((md + m : Nat) : Int) - (r : Int) = ((md + m - r : Nat) : Int) := by omega
  have hc1 : ¬ (r : Int) < (r : Int) := by omega
  clear za hsr hrest eU eV hends
  rcases Classical.em (r < m ∧ r < md) with c0 | c0
  · first
    | (exfalso; omega)
    | (
        have kk := kr c0.1 c0.2
        (repeat' first | with_reducible (first | intro _ | refine rc ?_ | refine rl ?_ | refine rh ?_ | refine rt ?_ | refine rf ?_ | refine rs ?_ | refine And.intro ?_ ?_) | omega | simp (maxSteps := 1000000) only [go_sem, simprocAttr, ↓reduceIte, hc1, ne1])
        refine VcCall.io [0] kk (by decide) (by simp [renL, ren, ioN]) rfl (by simp [subOk, ioN, lk, Item.ren, Item.below, gsR, renR_ok, belowR_ok]) covG1 1 (by decide) rfl (by simp [rowsB, Item.below, gsR, belowR_ok]) ?_
        rcases Classical.em (a < r ∧ r < md) with c1 | c1
        · first
          | (exfalso; omega)
          | (
              have kk := k1 c1.1 c1.2
              (repeat' first | with_reducible (first | intro _ | refine rc ?_ | refine rl ?_ | refine rh ?_ | refine rt ?_ | refine rf ?_ | refine rs ?_ | refine And.intro ?_ ?_) | omega | simp (maxSteps := 1000000) only [go_sem, simprocAttr, ↓reduceIte, S.ioS, ioRows, ioN, delL, Item.ren, gsR, renR_ok, List.length_cons, List.length_nil, List.getElem?_cons_zero, List.getElem?_cons_succ, List.getElem?_nil, List.cons_append, List.nil_append, Nat.reduceAdd, Nat.sub_self, Nat.add_zero, List.filter, ne1])
              refine VcCall.io [0] kk (by decide) (by simp [renL, ren, ioN]) rfl (by simp [subOk, ioN, lk, Item.ren, Item.below, gsR, renR_ok, belowR_ok]) covG1 1 (by decide) rfl (by simp [rowsB, Item.below, gsR, belowR_ok]) ?_
              rcases Classical.em (r < m ∧ md + m - r < b) with c2 | c2
              · first
                | (exfalso; omega)
                | (
                    have kk := k2 c2.1 c2.2
                    (repeat' first | with_reducible (first | intro _ | refine rc ?_ | refine rl ?_ | refine rh ?_ | refine rt ?_ | refine rf ?_ | refine rs ?_ | refine And.intro ?_ ?_) | omega | simp (maxSteps := 1000000) only [go_sem, simprocAttr, ↓reduceIte, S.ioS, ioRows, ioN, delL, Item.ren, gsR, renR_ok, List.length_cons, List.length_nil, List.getElem?_cons_zero, List.getElem?_cons_succ, List.getElem?_nil, List.cons_append, List.nil_append, Nat.reduceAdd, Nat.sub_self, Nat.add_zero, List.filter, ne1])
                    refine VcCall.io [0] kk (by decide) (by simp [renL, ren, ioN]) rfl (by simp [subOk, ioN, lk, Item.ren, Item.below, gsR, renR_ok, belowR_ok]) covG1 1 (by decide) rfl (by simp [rowsB, Item.below, gsR, belowR_ok]) ?_
                    (repeat' first | with_reducible (first | intro _ | refine rc ?_ | refine rl ?_ | refine rh ?_ | refine rt ?_ | refine rf ?_ | refine rs ?_ | refine And.intro ?_ ?_) | omega | simp (maxSteps := 1000000) only [go_sem, simprocAttr, ↓reduceIte, S.ioS, ioRows, ioN, delL, Item.ren, gsR, renR_ok, List.length_cons, List.length_nil, List.getElem?_cons_zero, List.getElem?_cons_succ, List.getElem?_nil, List.cons_append, List.nil_append, Nat.reduceAdd, Nat.sub_self, Nat.add_zero, List.filter, ne1])
                    refine RetK.auto 1 (Nat.le_refl 1) ?_ rfl ?_ <;> simp only [go_sem, reduceCtorEq, reduceIte, Nat.reduceEqDiff, Nat.reduceLT, Nat.reduceLeDiff, Int.natCast_succ, fromL, gsR])
              · first
                | (exfalso; omega)
                | (
                    have hw := h23 c2
                    subst hw
                    (repeat' first | with_reducible (first | intro _ | refine rc ?_ | refine rl ?_ | refine rh ?_ | refine rt ?_ | refine rf ?_ | refine rs ?_ | refine And.intro ?_ ?_) | omega | simp (maxSteps := 1000000) only [go_sem, simprocAttr, ↓reduceIte, S.ioS, ioRows, ioN, delL, Item.ren, gsR, renR_ok, List.length_cons, List.length_nil, List.getElem?_cons_zero, List.getElem?_cons_succ, List.getElem?_nil, List.cons_append, List.nil_append, Nat.reduceAdd, Nat.sub_self, Nat.add_zero, List.filter, ne1])
                    refine RetK.auto 1 (Nat.le_refl 1) ?_ rfl ?_ <;> simp only [go_sem, reduceCtorEq, reduceIte, Nat.reduceEqDiff, Nat.reduceLT, Nat.reduceLeDiff, Int.natCast_succ, fromL, gsR]))
        · first
          | (exfalso; omega)
          | (
              have hw := h12 c1
              subst hw
              rcases Classical.em (r < m ∧ md + m - r < b) with c2 | c2
              · first
                | (exfalso; omega)
                | (
                    have kk := k2 c2.1 c2.2
                    (repeat' first | with_reducible (first | intro _ | refine rc ?_ | refine rl ?_ | refine rh ?_ | refine rt ?_ | refine rf ?_ | refine rs ?_ | refine And.intro ?_ ?_) | omega | simp (maxSteps := 1000000) only [go_sem, simprocAttr, ↓reduceIte, S.ioS, ioRows, ioN, delL, Item.ren, gsR, renR_ok, List.length_cons, List.length_nil, List.getElem?_cons_zero, List.getElem?_cons_succ, List.getElem?_nil, List.cons_append, List.nil_append, Nat.reduceAdd, Nat.sub_self, Nat.add_zero, List.filter, ne1])
                    refine VcCall.io [0] kk (by decide) (by simp [renL, ren, ioN]) rfl (by simp [subOk, ioN, lk, Item.ren, Item.below, gsR, renR_ok, belowR_ok]) covG1 1 (by decide) rfl (by simp [rowsB, Item.below, gsR, belowR_ok]) ?_
                    (repeat' first | with_reducible (first | intro _ | refine rc ?_ | refine rl ?_ | refine rh ?_ | refine rt ?_ | refine rf ?_ | refine rs ?_ | refine And.intro ?_ ?_) | omega | simp (maxSteps := 1000000) only [go_sem, simprocAttr, ↓reduceIte, S.ioS, ioRows, ioN, delL, Item.ren, gsR, renR_ok, List.length_cons, List.length_nil, List.getElem?_cons_zero, List.getElem?_cons_succ, List.getElem?_nil, List.cons_append, List.nil_append, Nat.reduceAdd, Nat.sub_self, Nat.add_zero, List.filter, ne1])
                    refine RetK.auto 1 (Nat.le_refl 1) ?_ rfl ?_ <;> simp only [go_sem, reduceCtorEq, reduceIte, Nat.reduceEqDiff, Nat.reduceLT, Nat.reduceLeDiff, Int.natCast_succ, fromL, gsR])
              · first
                | (exfalso; omega)
                | (
                    have hw := h23 c2
                    subst hw
                    (repeat' first | with_reducible (first | intro _ | refine rc ?_ | refine rl ?_ | refine rh ?_ | refine rt ?_ | refine rf ?_ | refine rs ?_ | refine And.intro ?_ ?_) | omega | simp (maxSteps := 1000000) only [go_sem, simprocAttr, ↓reduceIte, S.ioS, ioRows, ioN, delL, Item.ren, gsR, renR_ok, List.length_cons, List.length_nil, List.getElem?_cons_zero, List.getElem?_cons_succ, List.getElem?_nil, List.cons_append, List.nil_append, Nat.reduceAdd, Nat.sub_self, Nat.add_zero, List.filter, ne1])
                    refine RetK.auto 1 (Nat.le_refl 1) ?_ rfl ?_ <;> simp only [go_sem, reduceCtorEq, reduceIte, Nat.reduceEqDiff, Nat.reduceLT, Nat.reduceLeDiff, Int.natCast_succ, fromL, gsR])))
  · first
    | (exfalso; omega)
    | (
        have hw := h01 c0
        subst hw
        rcases Classical.em (a < r ∧ r < md) with c1 | c1
        · first
          | (exfalso; omega)
          | (
              have kk := k1 c1.1 c1.2
              (repeat' first | with_reducible (first | intro _ | refine rc ?_ | refine rl ?_ | refine rh ?_ | refine rt ?_ | refine rf ?_ | refine rs ?_ | refine And.intro ?_ ?_) | omega | simp (maxSteps := 1000000) only [go_sem, simprocAttr, ↓reduceIte, hc1, ne1])
              refine VcCall.io [0] kk (by decide) (by simp [renL, ren, ioN]) rfl (by simp [subOk, ioN, lk, Item.ren, Item.below, gsR, renR_ok, belowR_ok]) covG1 1 (by decide) rfl (by simp [rowsB, Item.below, gsR, belowR_ok]) ?_
              rcases Classical.em (r < m ∧ md + m - r < b) with c2 | c2
              · exact absurd (And.intro c2.1 c1.2) c0
              · first
                | (exfalso; omega)
                | (
                    have hw := h23 c2
                    subst hw
                    (repeat' first | with_reducible (first | intro _ | refine rc ?_ | refine rl ?_ | refine rh ?_ | refine rt ?_ | refine rf ?_ | refine rs ?_ | refine And.intro ?_ ?_) | omega | simp (maxSteps := 1000000) only [go_sem, simprocAttr, ↓reduceIte, S.ioS, ioRows, ioN, delL, Item.ren, gsR, renR_ok, List.length_cons, List.length_nil, List.getElem?_cons_zero, List.getElem?_cons_succ, List.getElem?_nil, List.cons_append, List.nil_append, Nat.reduceAdd, Nat.sub_self, Nat.add_zero, List.filter, ne1])
                    refine RetK.auto 1 (Nat.le_refl 1) ?_ rfl ?_ <;> simp only [go_sem, reduceCtorEq, reduceIte, Nat.reduceEqDiff, Nat.reduceLT, Nat.reduceLeDiff, Int.natCast_succ, fromL, gsR]))
        · first
          | (exfalso; omega)
          | (
              have hw := h12 c1
              subst hw
              rcases Classical.em (r < m ∧ md + m - r < b) with c2 | c2
              · first
                | (exfalso; omega)
                | (
                    have kk := k2 c2.1 c2.2
                    (repeat' first | with_reducible (first | intro _ | refine rc ?_ | refine rl ?_ | refine rh ?_ | refine rt ?_ | refine rf ?_ | refine rs ?_ | refine And.intro ?_ ?_) | omega | simp (maxSteps := 1000000) only [go_sem, simprocAttr, ↓reduceIte, hc1, ne1])
                    refine VcCall.io [0] kk (by decide) (by simp [renL, ren, ioN]) rfl (by simp [subOk, ioN, lk, Item.ren, Item.below, gsR, renR_ok, belowR_ok]) covG1 1 (by decide) rfl (by simp [rowsB, Item.below, gsR, belowR_ok]) ?_
                    (repeat' first | with_reducible (first | intro _ | refine rc ?_ | refine rl ?_ | refine rh ?_ | refine rt ?_ | refine rf ?_ | refine rs ?_ | refine And.intro ?_ ?_) | omega | simp (maxSteps := 1000000) only [go_sem, simprocAttr, ↓reduceIte, S.ioS, ioRows, ioN, delL, Item.ren, gsR, renR_ok, List.length_cons, List.length_nil, List.getElem?_cons_zero, List.getElem?_cons_succ, List.getElem?_nil, List.cons_append, List.nil_append, Nat.reduceAdd, Nat.sub_self, Nat.add_zero, List.filter, ne1])
                    refine RetK.auto 1 (Nat.le_refl 1) ?_ rfl ?_ <;> simp only [go_sem, reduceCtorEq, reduceIte, Nat.reduceEqDiff, Nat.reduceLT, Nat.reduceLeDiff, Int.natCast_succ, fromL, gsR])
              · first
                | (exfalso; omega)
                | (
                    have hw := h23 c2
                    subst hw
                    (repeat' first | with_reducible (first | intro _ | refine rc ?_ | refine rl ?_ | refine rh ?_ | refine rt ?_ | refine rf ?_ | refine rs ?_ | refine And.intro ?_ ?_) | omega | simp (maxSteps := 1000000) only [go_sem, simprocAttr, ↓reduceIte, hc1, ne1])
                    refine RetK.auto 1 (Nat.le_refl 1) ?_ rfl ?_ <;> simp only [go_sem, reduceCtorEq, reduceIte, Nat.reduceEqDiff, Nat.reduceLT, Nat.reduceLeDiff, Int.natCast_succ, fromL, gsR])))
end Go.Fv.Y

/- The stable sort of guesses: the walk of a merge in general. -/
namespace Go.Fv.Y
open Go Go.Proofs
set_option linter.unusedSimpArgs false
set_option linter.unusedVariables false
set_option linter.unnecessarySimpa false
set_option maxRecDepth 8000

set_option maxHeartbeats 32000000 in
theorem symGenB_io (F : Nat) (hF : CmpG F) (n : Nat) (hI : SymOk F n) (P U V Q : List Gs) (a m b : Nat) (ha : a = P.length) (hm : m = P.length + U.length) (hb : b = P.length + U.length + V.length) (h2U : 2 ≤ U.length) (h2V : 2 ≤ V.length) (hn : U.length + V.length ≤ n + 1) (hU : Srt U) (hV : Srt V) (hS : Stab (U ++ V)) (hmd00 : ¬ (a + b) / 2 < m) (hN : P.length + U.length + V.length + Q.length ≤ 1000000) :
    FnIO Tryz.prog 156 [.own 0, .int .i64 a, .int .i64 m, .int .i64 b, .fn F []] [(0, .row 41 (gsR (P ++ (U ++ (V ++ Q)))))] 1 (.tup []) [(0, .row 41 (gsR (P ++ (sortG (U ++ V) ++ Q))))] := by
  refine FnIO.of_vc Tryz.func156 rfl (by decide) (by simp [Tryz.f156]) covG1 [] rfl fun w0 T0 _ => ?_
  simp only [Tryz.f156, argEnv]
  have i1 : ¬ (m : Int) - (a : Int) = 1 := by omega
  have i2 : ¬ (b : Int) - (m : Int) = 1 := by omega
  have hWl : (P ++ (U ++ (V ++ Q))).length = P.length + U.length + V.length + Q.length := by simp; omega
  have eU : ∀ g, a ≤ g → g < m → ((P ++ (U ++ (V ++ Q))).map Gs.av).getD g [] = [.str (gd U (g - a)).t, .int .i64 (gd U (g - a)).d, .int .i64 (gd U (g - a)).c] := fun g hg hg2 => by
    rw [gs_elem _ (by omega)]
    have := gd_left (P := P) (V ++ Q) (U := U) (i := g - a) (k := g) (by omega) (by omega)
    unfold gd at this ⊢
    rw [this]
  have eV : ∀ g, m ≤ g → g < b → ((P ++ (U ++ (V ++ Q))).map Gs.av).getD g [] = [.str (gd V (g - m)).t, .int .i64 (gd V (g - m)).d, .int .i64 (gd V (g - m)).c] := fun g hg hg2 => by
    rw [gs_elem _ (by omega)]
    have := gd_right (P := P) (U := U) Q (V := V) (i := g - m) (k := g) (by omega) (by omega)
    unfold gd at this ⊢
    rw [this]
  have hmd0 := half_sum a b
  have hmd1 : a < (a + b) / 2 := by omega
  have hmd2 : (a + b) / 2 < b := by omega
  have hmd3 : 2 * ((a + b) / 2) ≤ a + b ∧ a + b ≤ 2 * ((a + b) / 2) + 1 := by omega
  have hrest := fun s h1 h2 h3 h4 hc => restG (P := P) (U := U) (V := V) (Q := Q) (a := a) (m := m) (b := b) (md := (a + b) / 2) (s := s) hI ha hm hb hn hmd1 hmd2 h1 h2 h3 h4 hU hV hS hN hc
  generalize (a + b) / 2 = md at *
  generalize P ++ (sortG (U ++ V) ++ Q) = W3 at *
  generalize hW : P ++ (U ++ (V ++ Q)) = W at *
  have hWm : (W.map Gs.av).length = P.length + U.length + V.length + Q.length := by rw [List.length_map]; exact hWl
  have nn : (md : Int) + (m : Int) = ((md + m : Nat) : Int) := by omega
  have np : ((md + m : Nat) : Int) - 1 = ((md + m - 1 : Nat) : Int) := by omega
  (repeat' first | with_reducible (first | intro _ | refine rc ?_ | refine rl ?_ | refine rh ?_ | refine rt ?_ | refine rf ?_ | refine rs ?_ | refine And.intro ?_ ?_) | omega | simp (maxSteps := 1000000) only [go_sem, simprocAttr, ↓reduceIte, i1, i2])
  refine LetW.inR (InK_u64.2 (by omega)) ?_
  rw [hmd0]
  have hlh : a ≤ m := by omega
  have b1 : a ≤ a := Nat.le_refl _
  have b2 : m ≤ m := Nat.le_refl _
  have b3 : m ≤ md := by omega
  have b4 : md + m ≤ b + a := by omega
  have hends : EndsG a m a m b md := ⟨.inl rfl, .inl rfl⟩
  have hg : ¬ (md : Int) < (m : Int) := by omega
  (repeat' first | with_reducible (first | intro _ | refine rc ?_ | refine rl ?_ | refine rh ?_ | refine rt ?_ | refine rf ?_ | refine rs ?_ | refine And.intro ?_ ?_) | omega | simp (maxSteps := 1000000) only [go_sem, simprocAttr, ↓reduceIte, nn, np, hg])
  refine VcLoop.intro (fun z : Nat × Nat => ⟨220, [(0, .own 0), (1, .int .i64 a), (2, .int .i64 m), (3, .int .i64 b), (4, .fn F []), (18, .int .i64 md), (19, .int .i64 (md + m : Nat)), (20, .int .i64 z.1), (21, .int .i64 z.2), (22, .int .i64 (md + m - 1 : Nat))], [(0, .row 41 (gsR W))], 1⟩) (fun z => (a ≤ z.1 ∧ z.1 ≤ z.2 ∧ z.2 ≤ m) ∧ SInv U V a md a m z.1 z.2) (fun z => z.2 - z.1) (a, m) ?_ ⟨⟨Nat.le_refl _, hlh, Nat.le_refl _⟩, fun h => absurd h (Nat.lt_irrefl _), fun h => absurd h (Nat.lt_irrefl _)⟩ fun z hz => ?_
  · refine Ent.autoK 1 rfl (Nat.le_refl 1) ?_ ?_ <;> simp only [go_sem, reduceCtorEq, reduceIte, Nat.reduceEqDiff, Nat.reduceLT, Nat.reduceLeDiff, Int.natCast_succ, fromL, gsR, nn, np]
    all_goals omega
  obtain ⟨s, r⟩ := z
  obtain ⟨⟨z1, z2, z3⟩, za⟩ := hz
  dsimp only at z1 z2 z3 za ⊢
  by_cases hsr : s < r
  · have hsh := half_sum s r
    have hm1 : s ≤ (s + r) / 2 := by omega
    have hm2 : (s + r) / 2 < r := by omega
    generalize (s + r) / 2 = c at *
    have n1 : ((md + m - 1 : Nat) : Int) - (c : Int) = ((md + m - 1 - c : Nat) : Int) := by omega
    have e1 := eU c (by omega) (by omega)
    have e2 := eV (md + m - 1 - c) (by omega) (by omega)
    have ei : md + m - 1 - c - m = md - 1 - c := by omega
    rw [ei] at e2
    have kc := hF (gd V (md - 1 - c)) (gd U (c - a))
    have hc1 : (s : Int) < (r : Int) := by omega
    (repeat' first | with_reducible (first | intro _ | refine rc ?_ | refine rl ?_ | refine rh ?_ | refine rt ?_ | refine rf ?_ | refine rs ?_ | refine And.intro ?_ ?_) | omega | simp (maxSteps := 1000000) only [go_sem, simprocAttr, ↓reduceIte, hc1])
    refine LetW.inR (InK_u64.2 (by omega)) ?_
    rw [hsh]
    (repeat' first | with_reducible (first | intro _ | refine rc ?_ | refine rl ?_ | refine rh ?_ | refine rt ?_ | refine rf ?_ | refine rs ?_ | refine And.intro ?_ ?_) | omega | simp (maxSteps := 1000000) only [go_sem, simprocAttr, ↓reduceIte, Int.toNat_natCast])
    refine VcDraw.lex [] [] (by kernel_rfl) (by kernel_rfl) ?_
    by_cases hlt0 : lt0 (gd V (md - 1 - c)) (gd U (c - a))
    · have hcn := cf_neg hlt0
      have hinv : (a ≤ s ∧ s ≤ c ∧ c ≤ m) ∧ SInv U V a md a m s c := ⟨by omega, za.1, fun _ => hlt0⟩
      generalize cfG (gd V (md - 1 - c)) (gd U (c - a)) = cv at *
      generalize gd V (md - 1 - c) = v at *
      generalize gd U (c - a) = u at *
      (repeat' first | with_reducible (first | intro _ | refine rc ?_ | refine rl ?_ | refine rh ?_ | refine rt ?_ | refine rf ?_ | refine rs ?_ | refine And.intro ?_ ?_) | omega | simp (maxSteps := 1000000) only [go_sem, simprocAttr, ↓reduceIte, Int.toNat_natCast, elemA, e1, e2, n1, gsR])
      refine QV.intro (.int .i64 cv) ?_ ?_
      · (repeat' first | with_reducible (first | intro _ | refine rc ?_ | refine rl ?_ | refine rh ?_ | refine rt ?_ | refine rf ?_ | refine rs ?_ | refine And.intro ?_ ?_) | omega | simp (maxSteps := 1000000) only [go_sem, simprocAttr, ↓reduceIte, Int.toNat_natCast, elemA, e1, e2, n1, gsR])
        refine VcCall.k (kc) ?_
        (repeat' first | with_reducible (first | intro _ | refine rc ?_ | refine rl ?_ | refine rh ?_ | refine rt ?_ | refine rf ?_ | refine rs ?_ | refine And.intro ?_ ?_) | omega | simp (maxSteps := 1000000) only [go_sem, simprocAttr, ↓reduceIte, gsR])
      (repeat' first | with_reducible (first | intro _ | refine rc ?_ | refine rl ?_ | refine rh ?_ | refine rt ?_ | refine rf ?_ | refine rs ?_ | refine And.intro ?_ ?_) | omega | simp (maxSteps := 1000000) only [go_sem, simprocAttr, ↓reduceIte, hcn, gsR])
      refine ⟨(s, c), Ent.autoK 1 rfl (Nat.le_refl 1) ?_ ?_, hinv, by dsimp only; omega⟩ <;> simp only [go_sem, reduceCtorEq, reduceIte, Nat.reduceEqDiff, Nat.reduceLT, Nat.reduceLeDiff, Int.natCast_succ, fromL, gsR]
    · have hcn := cf_not hlt0
      have hinv : (a ≤ c + 1 ∧ c + 1 ≤ r ∧ r ≤ m) ∧ SInv U V a md a m (c + 1) r := ⟨by omega, fun _ => by
        rw [show md - (c + 1) = md - 1 - c by omega, show c + 1 - 1 - a = c - a by omega]; exact hlt0, za.2⟩
      generalize cfG (gd V (md - 1 - c)) (gd U (c - a)) = cv at *
      generalize gd V (md - 1 - c) = v at *
      generalize gd U (c - a) = u at *
      (repeat' first | with_reducible (first | intro _ | refine rc ?_ | refine rl ?_ | refine rh ?_ | refine rt ?_ | refine rf ?_ | refine rs ?_ | refine And.intro ?_ ?_) | omega | simp (maxSteps := 1000000) only [go_sem, simprocAttr, ↓reduceIte, Int.toNat_natCast, elemA, e1, e2, n1, gsR])
      refine QV.intro (.int .i64 cv) ?_ ?_
      · (repeat' first | with_reducible (first | intro _ | refine rc ?_ | refine rl ?_ | refine rh ?_ | refine rt ?_ | refine rf ?_ | refine rs ?_ | refine And.intro ?_ ?_) | omega | simp (maxSteps := 1000000) only [go_sem, simprocAttr, ↓reduceIte, Int.toNat_natCast, elemA, e1, e2, n1, gsR])
        refine VcCall.k (kc) ?_
        (repeat' first | with_reducible (first | intro _ | refine rc ?_ | refine rl ?_ | refine rh ?_ | refine rt ?_ | refine rf ?_ | refine rs ?_ | refine And.intro ?_ ?_) | omega | simp (maxSteps := 1000000) only [go_sem, simprocAttr, ↓reduceIte, gsR])
      (repeat' first | with_reducible (first | intro _ | refine rc ?_ | refine rl ?_ | refine rh ?_ | refine rt ?_ | refine rf ?_ | refine rs ?_ | refine And.intro ?_ ?_) | omega | simp (maxSteps := 1000000) only [go_sem, simprocAttr, ↓reduceIte, hcn, gsR])
      refine ⟨(c + 1, r), Ent.autoK 1 rfl (Nat.le_refl 1) ?_ ?_, hinv, by dsimp only; omega⟩ <;> simp only [go_sem, reduceCtorEq, reduceIte, Nat.reduceEqDiff, Nat.reduceLT, Nat.reduceLeDiff, Int.natCast_succ, fromL, gsR]
  have e : r = s := by omega
  subst e
  obtain ⟨W1, W2, kr, h01, k1, h12, k2, h23⟩ := (hrest r (by omega) (by omega) (by omega) (by omega) (za.cut hends z1 z3 b1 b2 b3 b4 (by omega) (by omega))).ex
  have ne1 : ((md + m : Nat) : Int) - (r : Int) = ((md + m - r : Nat) : Int) := by omega
  have hc1 : ¬ (r : Int) < (r : Int) := by omega
  clear za hsr hrest eU eV hends
  rcases Classical.em (r < m ∧ r < md) with c0 | c0
  · first
    | (exfalso; omega)
    | (
        have kk := kr c0.1 c0.2
        (repeat' first | with_reducible (first | intro _ | refine rc ?_ | refine rl ?_ | refine rh ?_ | refine rt ?_ | refine rf ?_ | refine rs ?_ | refine And.intro ?_ ?_) | omega | simp (maxSteps := 1000000) only [go_sem, simprocAttr, ↓reduceIte, hc1, ne1])
        refine VcCall.io [0] kk (by decide) (by simp [renL, ren, ioN]) rfl (by simp [subOk, ioN, lk, Item.ren, Item.below, gsR, renR_ok, belowR_ok]) covG1 1 (by decide) rfl (by simp [rowsB, Item.below, gsR, belowR_ok]) ?_
        rcases Classical.em (a < r ∧ r < md) with c1 | c1
        · first
          | (exfalso; omega)
          | (
              have kk := k1 c1.1 c1.2
              (repeat' first | with_reducible (first | intro _ | refine rc ?_ | refine rl ?_ | refine rh ?_ | refine rt ?_ | refine rf ?_ | refine rs ?_ | refine And.intro ?_ ?_) | omega | simp (maxSteps := 1000000) only [go_sem, simprocAttr, ↓reduceIte, S.ioS, ioRows, ioN, delL, Item.ren, gsR, renR_ok, List.length_cons, List.length_nil, List.getElem?_cons_zero, List.getElem?_cons_succ, List.getElem?_nil, List.cons_append, List.nil_append, Nat.reduceAdd, Nat.sub_self, Nat.add_zero, List.filter, ne1])
              refine VcCall.io [0] kk (by decide) (by simp [renL, ren, ioN]) rfl (by simp [subOk, ioN, lk, Item.ren, Item.below, gsR, renR_ok, belowR_ok]) covG1 1 (by decide) rfl (by simp [rowsB, Item.below, gsR, belowR_ok]) ?_
              rcases Classical.em (r < m ∧ md + m - r < b) with c2 | c2
              · first
                | (exfalso; omega)
                | (
                    have kk := k2 c2.1 c2.2
                    (repeat' first | with_reducible (first | intro _ | refine rc ?_ | refine rl ?_ | refine rh ?_ | refine rt ?_ | refine rf ?_ | refine rs ?_ | refine And.intro ?_ ?_) | omega | simp (maxSteps := 1000000) only [go_sem, simprocAttr, ↓reduceIte, S.ioS, ioRows, ioN, delL, Item.ren, gsR, renR_ok, List.length_cons, List.length_nil, List.getElem?_cons_zero, List.getElem?_cons_succ, List.getElem?_nil, List.cons_append, List.nil_append, Nat.reduceAdd, Nat.sub_self, Nat.add_zero, List.filter, ne1])
                    refine VcCall.io [0] kk (by decide) (by simp [renL, ren, ioN]) rfl (by simp [subOk, ioN, lk, Item.ren, Item.below, gsR, renR_ok, belowR_ok]) covG1 1 (by decide) rfl (by simp [rowsB, Item.below, gsR, belowR_ok]) ?_
                    (repeat' first | with_reducible (first | intro _ | refine rc ?_ | refine rl ?_ | refine rh ?_ | refine rt ?_ | refine rf ?_ | refine rs ?_ | refine And.intro ?_ ?_) | omega | simp (maxSteps := 1000000) only [go_sem, simprocAttr, ↓reduceIte, S.ioS, ioRows, ioN, delL, Item.ren, gsR, renR_ok, List.length_cons, List.length_nil, List.getElem?_cons_zero, List.getElem?_cons_succ, List.getElem?_nil, List.cons_append, List.nil_append, Nat.reduceAdd, Nat.sub_self, Nat.add_zero, List.filter, ne1])
                    refine RetK.auto 1 (Nat.le_refl 1) ?_ rfl ?_ <;> simp only [go_sem, reduceCtorEq, reduceIte, Nat.reduceEqDiff, Nat.reduceLT, Nat.reduceLeDiff, Int.natCast_succ, fromL, gsR])
              · first
                | (exfalso; omega)
                | (
                    have hw := h23 c2
                    subst hw
                    (repeat' first | with_reducible (first | intro _ | refine rc ?_ | refine rl ?_ | refine rh ?_ | refine rt ?_ | refine rf ?_ | refine rs ?_ | refine And.intro ?_ ?_) | omega | simp (maxSteps := 1000000) only [go_sem, simprocAttr, ↓reduceIte, S.ioS, ioRows, ioN, delL, Item.ren, gsR, renR_ok, List.length_cons, List.length_nil, List.getElem?_cons_zero, List.getElem?_cons_succ, List.getElem?_nil, List.cons_append, List.nil_append, Nat.reduceAdd, Nat.sub_self, Nat.add_zero, List.filter, ne1])
                    refine RetK.auto 1 (Nat.le_refl 1) ?_ rfl ?_ <;> simp only [go_sem, reduceCtorEq, reduceIte, Nat.reduceEqDiff, Nat.reduceLT, Nat.reduceLeDiff, Int.natCast_succ, fromL, gsR]))
        · first
          | (exfalso; omega)
          | (
              have hw := h12 c1
              subst hw
              rcases Classical.em (r < m ∧ md + m - r < b) with c2 | c2
              · first
                | (exfalso; omega)
                | (
                    have kk := k2 c2.1 c2.2
                    (repeat' first | with_reducible (first | intro _ | refine rc ?_ | refine rl ?_ | refine rh ?_ | refine rt ?_ | refine rf ?_ | refine rs ?_ | refine And.intro ?_ ?_) | omega | simp (maxSteps := 1000000) only [go_sem, simprocAttr, ↓reduceIte, S.ioS, ioRows, ioN, delL, Item.ren, gsR, renR_ok, List.length_cons, List.length_nil, List.getElem?_cons_zero, List.getElem?_cons_succ, List.getElem?_nil, List.cons_append, List.nil_append, Nat.reduceAdd, Nat.sub_self, Nat.add_zero, List.filter, ne1])
                    refine VcCall.io [0] kk (by decide) (by simp [renL, ren, ioN]) rfl (by simp [subOk, ioN, lk, Item.ren, Item.below, gsR, renR_ok, belowR_ok]) covG1 1 (by decide) rfl (by simp [rowsB, Item.below, gsR, belowR_ok]) ?_
                    (repeat' first | with_reducible (first | intro _ | refine rc ?_ | refine rl ?_ | refine rh ?_ | refine rt ?_ | refine rf ?_ | refine rs ?_ | refine And.intro ?_ ?_) | omega | simp (maxSteps := 1000000) only [go_sem, simprocAttr, ↓reduceIte, S.ioS, ioRows, ioN, delL, Item.ren, gsR, renR_ok, List.length_cons, List.length_nil, List.getElem?_cons_zero, List.getElem?_cons_succ, List.getElem?_nil, List.cons_append, List.nil_append, Nat.reduceAdd, Nat.sub_self, Nat.add_zero, List.filter, ne1])
                    refine RetK.auto 1 (Nat.le_refl 1) ?_ rfl ?_ <;> simp only [go_sem, reduceCtorEq, reduceIte, Nat.reduceEqDiff, Nat.reduceLT, Nat.reduceLeDiff, Int.natCast_succ, fromL, gsR])
              · first
                | (exfalso; omega)
                | (
                    have hw := h23 c2
                    subst hw
                    (repeat' first | with_reducible (first | intro _ | refine rc ?_ | refine rl ?_ | refine rh ?_ | refine rt ?_ | refine rf ?_ | refine rs ?_ | refine And.intro ?_ ?_) | omega | simp (maxSteps := 1000000) only [go_sem, simprocAttr, ↓reduceIte, S.ioS, ioRows, ioN, delL, Item.ren, gsR, renR_ok, List.length_cons, List.length_nil, List.getElem?_cons_zero, List.getElem?_cons_succ, List.getElem?_nil, List.cons_append, List.nil_append, Nat.reduceAdd, Nat.sub_self, Nat.add_zero, List.filter, ne1])
                    refine RetK.auto 1 (Nat.le_refl 1) ?_ rfl ?_ <;> simp only [go_sem, reduceCtorEq, reduceIte, Nat.reduceEqDiff, Nat.reduceLT, Nat.reduceLeDiff, Int.natCast_succ, fromL, gsR])))
  · first
    | (exfalso; omega)
    | (
        have hw := h01 c0
        subst hw
        rcases Classical.em (a < r ∧ r < md) with c1 | c1
        · first
          | (exfalso; omega)
          | (
              have kk := k1 c1.1 c1.2
              (repeat' first | with_reducible (first | intro _ | refine rc ?_ | refine rl ?_ | refine rh ?_ | refine rt ?_ | refine rf ?_ | refine rs ?_ | refine And.intro ?_ ?_) | omega | simp (maxSteps := 1000000) only [go_sem, simprocAttr, ↓reduceIte, hc1, ne1])
              refine VcCall.io [0] kk (by decide) (by simp [renL, ren, ioN]) rfl (by simp [subOk, ioN, lk, Item.ren, Item.below, gsR, renR_ok, belowR_ok]) covG1 1 (by decide) rfl (by simp [rowsB, Item.below, gsR, belowR_ok]) ?_
              rcases Classical.em (r < m ∧ md + m - r < b) with c2 | c2
              · exact absurd (And.intro c2.1 c1.2) c0
              · first
                | (exfalso; omega)
                | (
                    have hw := h23 c2
                    subst hw
                    (repeat' first | with_reducible (first | intro _ | refine rc ?_ | refine rl ?_ | refine rh ?_ | refine rt ?_ | refine rf ?_ | refine rs ?_ | refine And.intro ?_ ?_) | omega | simp (maxSteps := 1000000) only [go_sem, simprocAttr, ↓reduceIte, S.ioS, ioRows, ioN, delL, Item.ren, gsR, renR_ok, List.length_cons, List.length_nil, List.getElem?_cons_zero, List.getElem?_cons_succ, List.getElem?_nil, List.cons_append, List.nil_append, Nat.reduceAdd, Nat.sub_self, Nat.add_zero, List.filter, ne1])
                    refine RetK.auto 1 (Nat.le_refl 1) ?_ rfl ?_ <;> simp only [go_sem, reduceCtorEq, reduceIte, Nat.reduceEqDiff, Nat.reduceLT, Nat.reduceLeDiff, Int.natCast_succ, fromL, gsR]))
        · first
          | (exfalso; omega)
          | (
              have hw := h12 c1
              subst hw
              rcases Classical.em (r < m ∧ md + m - r < b) with c2 | c2
              · first
                | (exfalso; omega)
                | (
                    have kk := k2 c2.1 c2.2
                    (repeat' first | with_reducible (first | intro _ | refine rc ?_ | refine rl ?_ | refine rh ?_ | refine rt ?_ | refine rf ?_ | refine rs ?_ | refine And.intro ?_ ?_) | omega | simp (maxSteps := 1000000) only [go_sem, simprocAttr, ↓reduceIte, hc1, ne1])
                    refine VcCall.io [0] kk (by decide) (by simp [renL, ren, ioN]) rfl (by simp [subOk, ioN, lk, Item.ren, Item.below, gsR, renR_ok, belowR_ok]) covG1 1 (by decide) rfl (by simp [rowsB, Item.below, gsR, belowR_ok]) ?_
                    (repeat' first | with_reducible (first | intro _ | refine rc ?_ | refine rl ?_ | refine rh ?_ | refine rt ?_ | refine rf ?_ | refine rs ?_ | refine And.intro ?_ ?_) | omega | simp (maxSteps := 1000000) only [go_sem, simprocAttr, ↓reduceIte, S.ioS, ioRows, ioN, delL, Item.ren, gsR, renR_ok, List.length_cons, List.length_nil, List.getElem?_cons_zero, List.getElem?_cons_succ, List.getElem?_nil, List.cons_append, List.nil_append, Nat.reduceAdd, Nat.sub_self, Nat.add_zero, List.filter, ne1])
                    refine RetK.auto 1 (Nat.le_refl 1) ?_ rfl ?_ <;> simp only [go_sem, reduceCtorEq, reduceIte, Nat.reduceEqDiff, Nat.reduceLT, Nat.reduceLeDiff, Int.natCast_succ, fromL, gsR])
              · first
                | (exfalso; omega)
                | (
                    have hw := h23 c2
                    subst hw
                    (repeat' first | with_reducible (first | intro _ | refine rc ?_ | refine rl ?_ | refine rh ?_ | refine rt ?_ | refine rf ?_ | refine rs ?_ | refine And.intro ?_ ?_) | omega | simp (maxSteps := 1000000) only [go_sem, simprocAttr, ↓reduceIte, hc1, ne1])
                    refine RetK.auto 1 (Nat.le_refl 1) ?_ rfl ?_ <;> simp only [go_sem, reduceCtorEq, reduceIte, Nat.reduceEqDiff, Nat.reduceLT, Nat.reduceLeDiff, Int.natCast_succ, fromL, gsR])))
end Go.Fv.Y

/- The stable sort of guesses: the walk of a merge in general. -/
namespace Go.Fv.Y
open Go Go.Proofs
set_option linter.unusedSimpArgs false
set_option linter.unusedVariables false
set_option linter.unnecessarySimpa false
set_option maxRecDepth 8000

theorem symMerge_io (F : Nat) (hF : CmpG F) : ∀ n, SymOk F n
  | 0 => fun P U V Q a m b _ _ _ h1 h2 h3 _ _ _ _ => by omega
  | n + 1 => fun P U V Q a m b ha hm hb h1 h2 h3 hU hV hS hN => by
    by_cases e1 : U.length = 1
    · obtain ⟨x, rfl⟩ := List.length_eq_one_iff.1 e1
      exact symFirst_io F hF P V Q x a m b ha hm hb hV hS hN
    by_cases e2 : V.length = 1
    · obtain ⟨y, rfl⟩ := List.length_eq_one_iff.1 e2
      exact symLast_io F hF P U Q y a m b ha hm hb (by omega) hU hS hN
    by_cases hmd : (a + b) / 2 < m
    · exact symGenA_io F hF n (symMerge_io F hF n) P U V Q a m b ha hm hb (by omega) (by omega) h3 hU hV hS hmd hN
    · exact symGenB_io F hF n (symMerge_io F hF n) P U V Q a m b ha hm hb (by omega) (by omega) h3 hU hV hS hmd hN
end Go.Fv.Y

/- slices.SortStableFunc of fewer than forty guesses. -/
namespace Go.Fv.Y
open Go Go.Proofs
set_option linter.unusedSimpArgs false
set_option linter.unusedVariables false
set_option linter.unnecessarySimpa false
set_option maxRecDepth 8000

theorem sortG_parts {A B : List Gs} : sortG (sortG A ++ sortG B) = sortG (A ++ B) :=
  sortG_eq ((sortG_perm _).trans ((sortG_perm A).append (sortG_perm B))) (sortG_le _)
theorem stab_parts {A B : List Gs} (h : Stab (A ++ B)) : Stab (sortG A ++ sortG B) := by
  obtain ⟨h1, h2, h3⟩ := List.pairwise_append.1 h
  exact List.pairwise_append.2 ⟨stab_sort h1, stab_sort h2, fun x hx y hy => h3 x ((sortG_perm A).mem_iff.1 hx) y ((sortG_perm B).mem_iff.1 hy)⟩
set_option maxHeartbeats 16000000 in
theorem stableCmp_io (F : Nat) (hF : CmpG F) (l : List Gs) (n : Nat) (hn : l.length = n) (h40 : n < 40) (hS : Stab l) :
    FnIO Tryz.prog 116 [.own 0, .int .i64 n, .fn F []] [(0, .row 41 (gsR l))] 1 (.tup []) [(0, .row 41 (gsR (sortG l)))] := by
  refine FnIO.of_vc Tryz.func116 rfl (by decide) (by simp [Tryz.f116]) covG1 [] rfl fun w0 T0 _ => ?_
  simp only [Tryz.f116, argEnv]
  rcases Nat.lt_or_ge n 20 with h20 | h20
  · have k := insertion_io F hF [] l [] 0 n rfl (by simp [hn]) hS (by simp; omega)
    simp only [List.nil_append, List.append_nil] at k
    (repeat' first | with_reducible (first | intro _ | refine rc ?_ | refine rl ?_ | refine rh ?_ | refine rt ?_ | refine rf ?_ | refine rs ?_ | refine And.intro ?_ ?_) | omega | simp (maxSteps := 1000000) only [go_sem, simprocAttr, ↓reduceIte])
    refine VcLoop.intro (fun i : Nat => ⟨63, [(0, .own 0), (1, .int .i64 n), (2, .fn F []), (6, .int .i64 20), (7, .int .i64 0), (8, .int .i64 20)], [(0, .row 41 (gsR l))], 1⟩) (fun i => True) (fun i => i) 0 ?_ trivial fun i hi => ?_
    · refine Ent.autoK 1 rfl (Nat.le_refl 1) ?_ ?_ <;> simp only [go_sem, reduceCtorEq, reduceIte, Nat.reduceEqDiff, Nat.reduceLT, Nat.reduceLeDiff, Int.natCast_succ, fromL, gsR]
    have hc : ¬ (20 : Int) ≤ (n : Int) := by omega
    (repeat' first | with_reducible (first | intro _ | refine rc ?_ | refine rl ?_ | refine rh ?_ | refine rt ?_ | refine rf ?_ | refine rs ?_ | refine And.intro ?_ ?_) | omega | simp (maxSteps := 1000000) only [go_sem, simprocAttr, ↓reduceIte, hc])
    refine VcCall.io [0] k (by decide) (by simp [renL, ren, ioN]) rfl (by simp [subOk, ioN, lk, Item.ren, Item.below, gsR, renR_ok, belowR_ok]) covG1 1 (by decide) rfl (by simp [rowsB, Item.below, gsR, belowR_ok]) ?_
    (repeat' first | with_reducible (first | intro _ | refine rc ?_ | refine rl ?_ | refine rh ?_ | refine rt ?_ | refine rf ?_ | refine rs ?_ | refine And.intro ?_ ?_) | omega | simp (maxSteps := 1000000) only [go_sem, simprocAttr, ↓reduceIte, S.ioS, ioRows, ioN, delL, Item.ren, gsR, renR_ok, List.length_cons, List.length_nil, List.getElem?_cons_zero, List.getElem?_cons_succ, List.getElem?_nil, List.cons_append, List.nil_append, Nat.reduceAdd, Nat.sub_self, Nat.add_zero, List.filter])
    refine VcLoop.intro (fun i : Nat => ⟨63, [(0, .own 0), (1, .int .i64 n), (2, .fn F []), (6, .int .i64 20)], [(0, .row 41 (gsR (sortG l)))], 1⟩) (fun i => True) (fun i => i) 0 ?_ trivial fun i hi => ?_
    · refine Ent.autoK 1 rfl (Nat.le_refl 1) ?_ ?_ <;> simp only [go_sem, reduceCtorEq, reduceIte, Nat.reduceEqDiff, Nat.reduceLT, Nat.reduceLeDiff, Int.natCast_succ, fromL, gsR]
    have hc : ¬ (20 : Int) < (n : Int) := by omega
    (repeat' first | with_reducible (first | intro _ | refine rc ?_ | refine rl ?_ | refine rh ?_ | refine rt ?_ | refine rf ?_ | refine rs ?_ | refine And.intro ?_ ?_) | omega | simp (maxSteps := 1000000) only [go_sem, simprocAttr, ↓reduceIte, hc])
    refine RetK.auto 1 (Nat.le_refl 1) ?_ rfl ?_ <;> simp only [go_sem, reduceCtorEq, reduceIte, Nat.reduceEqDiff, Nat.reduceLT, Nat.reduceLeDiff, Int.natCast_succ, fromL, gsR]
  have hAB := List.take_append_drop 20 l
  have hAl : (l.take 20).length = 20 := by rw [List.length_take]; omega
  have hBl : (l.drop 20).length = n - 20 := by rw [List.length_drop]; omega
  rw [← hAB] at hS ⊢
  generalize l.take 20 = A at *
  generalize l.drop 20 = B at *
  have sA : Stab A := (List.pairwise_append.1 hS).1
  have sB : Stab B := (List.pairwise_append.1 hS).2.1
  have k1 := insertion_io F hF [] A B 0 20 rfl (by simp [hAl]) sA (by simp; omega)
  have lA : (sortG A).length = 20 := by rw [sortG_len]; exact hAl
  have k2 := insertion_io F hF (sortG A) B [] 20 n (by omega) (by omega) sB (by simp; omega)
  have k3 : 20 < n → FnIO Tryz.prog 156 [.own 0, .int .i64 (0 : Nat), .int .i64 (20 : Nat), .int .i64 n, .fn F []] [(0, .row 41 (gsR (sortG A ++ sortG B)))] 1 (.tup []) [(0, .row 41 (gsR (sortG (A ++ B))))] := fun h => by
    have k := symMerge_io F hF 40 [] (sortG A) (sortG B) [] 0 20 n rfl (by simp; omega) (by simp [lA, sortG_len]; omega) (by omega) (by rw [sortG_len]; omega) (by rw [lA, sortG_len]; omega) (sortG_srt _) (sortG_srt _) (stab_parts hS) (by rw [lA, sortG_len]; simp; omega)
    simp only [List.nil_append, List.append_nil] at k
    rw [sortG_parts] at k
    exact k
  have e0 : ¬ 20 < n → sortG A ++ sortG B = sortG (A ++ B) := fun h => by
    have : B = [] := List.eq_nil_of_length_eq_zero (by omega)
    subst this
    rw [List.append_nil]
    have : sortG [] = [] := List.eq_nil_of_length_eq_zero (by rw [sortG_len]; rfl)
    rw [this, List.append_nil]
  simp only [List.nil_append, List.append_nil, Int.cast_ofNat_Int] at k1 k2 k3
  generalize sortG (A ++ B) = R at *
  generalize sortG A = SA at *
  generalize sortG B = SB at *
  have c0 : (20 : Int) ≤ (n : Int) := by omega
  have c1 : ¬ (40 : Int) ≤ (n : Int) := by omega
  (repeat' first | with_reducible (first | intro _ | refine rc ?_ | refine rl ?_ | refine rh ?_ | refine rt ?_ | refine rf ?_ | refine rs ?_ | refine And.intro ?_ ?_) | omega | simp (maxSteps := 1000000) only [go_sem, simprocAttr, ↓reduceIte])
  refine VcLoop.intro (fun k : Bool => ⟨63, [(0, .own 0), (1, .int .i64 n), (2, .fn F []), (6, .int .i64 20), (7, .int .i64 (bif k then 20 else 0)), (8, .int .i64 (bif k then 40 else 20))], [(0, .row 41 (gsR (bif k then SA ++ B else A ++ B)))], 1⟩) (fun k => True) (fun k => bif k then 0 else 1) false ?_ trivial fun k hk => ?_
  · refine Ent.autoK 1 rfl (Nat.le_refl 1) ?_ ?_ <;> simp only [go_sem, reduceCtorEq, reduceIte, Nat.reduceEqDiff, Nat.reduceLT, Nat.reduceLeDiff, Int.natCast_succ, fromL, gsR, cond_true, cond_false]
  cases k with
  | false =>
    simp only [cond_false]
    (repeat' first | with_reducible (first | intro _ | refine rc ?_ | refine rl ?_ | refine rh ?_ | refine rt ?_ | refine rf ?_ | refine rs ?_ | refine And.intro ?_ ?_) | omega | simp (maxSteps := 1000000) only [go_sem, simprocAttr, ↓reduceIte, c0])
    refine VcCall.io [0] k1 (by decide) (by simp [renL, ren, ioN]) rfl (by simp [subOk, ioN, lk, Item.ren, Item.below, gsR, renR_ok, belowR_ok]) covG1 1 (by decide) rfl (by simp [rowsB, Item.below, gsR, belowR_ok]) ?_
    (repeat' first | with_reducible (first | intro _ | refine rc ?_ | refine rl ?_ | refine rh ?_ | refine rt ?_ | refine rf ?_ | refine rs ?_ | refine And.intro ?_ ?_) | omega | simp (maxSteps := 1000000) only [go_sem, simprocAttr, ↓reduceIte, S.ioS, ioRows, ioN, delL, Item.ren, gsR, renR_ok, List.length_cons, List.length_nil, List.getElem?_cons_zero, List.getElem?_cons_succ, List.getElem?_nil, List.cons_append, List.nil_append, Nat.reduceAdd, Nat.sub_self, Nat.add_zero, List.filter])
    refine ⟨true, Ent.autoK 1 rfl (Nat.le_refl 1) ?_ ?_, by decide⟩ <;> simp only [go_sem, reduceCtorEq, reduceIte, Nat.reduceEqDiff, Nat.reduceLT, Nat.reduceLeDiff, Int.natCast_succ, fromL, gsR, cond_true, cond_false]
  | true =>
    simp only [cond_true]
    (repeat' first | with_reducible (first | intro _ | refine rc ?_ | refine rl ?_ | refine rh ?_ | refine rt ?_ | refine rf ?_ | refine rs ?_ | refine And.intro ?_ ?_) | omega | simp (maxSteps := 1000000) only [go_sem, simprocAttr, ↓reduceIte, c1])
    refine VcCall.io [0] k2 (by decide) (by simp [renL, ren, ioN]) rfl (by simp [subOk, ioN, lk, Item.ren, Item.below, gsR, renR_ok, belowR_ok]) covG1 1 (by decide) rfl (by simp [rowsB, Item.below, gsR, belowR_ok]) ?_
    (repeat' first | with_reducible (first | intro _ | refine rc ?_ | refine rl ?_ | refine rh ?_ | refine rt ?_ | refine rf ?_ | refine rs ?_ | refine And.intro ?_ ?_) | omega | simp (maxSteps := 1000000) only [go_sem, simprocAttr, ↓reduceIte, S.ioS, ioRows, ioN, delL, Item.ren, gsR, renR_ok, List.length_cons, List.length_nil, List.getElem?_cons_zero, List.getElem?_cons_succ, List.getElem?_nil, List.cons_append, List.nil_append, Nat.reduceAdd, Nat.sub_self, Nat.add_zero, List.filter])
    refine VcLoop.intro (fun k : Bool => ⟨63, [(0, .own 0), (1, .int .i64 n), (2, .fn F []), (6, .int .i64 (bif k then 40 else 20))], [(0, .row 41 (gsR (bif k then R else SA ++ SB)))], 1⟩) (fun k => k = true → 20 < n) (fun k => bif k then 0 else 1) false ?_ (fun h => absurd h (by decide)) fun k hk => ?_
    · refine Ent.autoK 1 rfl (Nat.le_refl 1) ?_ ?_ <;> simp only [go_sem, reduceCtorEq, reduceIte, Nat.reduceEqDiff, Nat.reduceLT, Nat.reduceLeDiff, Int.natCast_succ, fromL, gsR, cond_true, cond_false]
    cases k with
    | true =>
      simp only [cond_true]
      have c2 : ¬ (40 : Int) < (n : Int) := by omega
      (repeat' first | with_reducible (first | intro _ | refine rc ?_ | refine rl ?_ | refine rh ?_ | refine rt ?_ | refine rf ?_ | refine rs ?_ | refine And.intro ?_ ?_) | omega | simp (maxSteps := 1000000) only [go_sem, simprocAttr, ↓reduceIte, c2])
      refine RetK.auto 1 (Nat.le_refl 1) ?_ rfl ?_ <;> simp only [go_sem, reduceCtorEq, reduceIte, Nat.reduceEqDiff, Nat.reduceLT, Nat.reduceLeDiff, Int.natCast_succ, fromL, gsR]
    | false =>
      simp only [cond_false]
      by_cases hlt : 20 < n
      · have k3 := k3 hlt
        have c2 : (20 : Int) < (n : Int) := by omega
        (repeat' first | with_reducible (first | intro _ | refine rc ?_ | refine rl ?_ | refine rh ?_ | refine rt ?_ | refine rf ?_ | refine rs ?_ | refine And.intro ?_ ?_) | omega | simp (maxSteps := 1000000) only [go_sem, simprocAttr, ↓reduceIte, c2])
        refine VcLoop.intro (fun i : Nat => ⟨63, [(0, .own 0), (1, .int .i64 n), (2, .fn F []), (6, .int .i64 20), (7, .int .i64 0), (8, .int .i64 40)], [(0, .row 41 (gsR (SA ++ SB)))], 1⟩) (fun i => True) (fun i => i) 0 ?_ trivial fun i hi => ?_
        · refine Ent.autoK 1 rfl (Nat.le_refl 1) ?_ ?_ <;> simp only [go_sem, reduceCtorEq, reduceIte, Nat.reduceEqDiff, Nat.reduceLT, Nat.reduceLeDiff, Int.natCast_succ, fromL, gsR]
        (repeat' first | with_reducible (first | intro _ | refine rc ?_ | refine rl ?_ | refine rh ?_ | refine rt ?_ | refine rf ?_ | refine rs ?_ | refine And.intro ?_ ?_) | omega | simp (maxSteps := 1000000) only [go_sem, simprocAttr, ↓reduceIte, c1, c2])
        refine VcCall.io [0] k3 (by decide) (by simp [renL, ren, ioN]) rfl (by simp [subOk, ioN, lk, Item.ren, Item.below, gsR, renR_ok, belowR_ok]) covG1 1 (by decide) rfl (by simp [rowsB, Item.below, gsR, belowR_ok]) ?_
        (repeat' first | with_reducible (first | intro _ | refine rc ?_ | refine rl ?_ | refine rh ?_ | refine rt ?_ | refine rf ?_ | refine rs ?_ | refine And.intro ?_ ?_) | omega | simp (maxSteps := 1000000) only [go_sem, simprocAttr, ↓reduceIte, S.ioS, ioRows, ioN, delL, Item.ren, gsR, renR_ok, List.length_cons, List.length_nil, List.getElem?_cons_zero, List.getElem?_cons_succ, List.getElem?_nil, List.cons_append, List.nil_append, Nat.reduceAdd, Nat.sub_self, Nat.add_zero, List.filter])
        refine ⟨true, Ent.autoK 1 rfl (Nat.le_refl 1) ?_ ?_, fun _ => hlt, by decide⟩ <;> simp only [go_sem, reduceCtorEq, reduceIte, Nat.reduceEqDiff, Nat.reduceLT, Nat.reduceLeDiff, Int.natCast_succ, fromL, gsR, cond_true, cond_false]
      · have c2 : ¬ (20 : Int) < (n : Int) := by omega
        rw [e0 hlt]
        (repeat' first | with_reducible (first | intro _ | refine rc ?_ | refine rl ?_ | refine rh ?_ | refine rt ?_ | refine rf ?_ | refine rs ?_ | refine And.intro ?_ ?_) | omega | simp (maxSteps := 1000000) only [go_sem, simprocAttr, ↓reduceIte, c2])
        refine RetK.auto 1 (Nat.le_refl 1) ?_ rfl ?_ <;> simp only [go_sem, reduceCtorEq, reduceIte, Nat.reduceEqDiff, Nat.reduceLT, Nat.reduceLeDiff, Int.natCast_succ, fromL, gsR]
theorem sortStable_io (F : Nat) (hF : CmpG F) (l : List Gs) (h40 : l.length < 40) (hS : Stab l) :
    FnIO Tryz.prog 90 [.own 0, .fn F []] [(0, .row 41 (gsR l))] 1 (.tup []) [(0, .row 41 (gsR (sortG l)))] := by
  have k := stableCmp_io F hF l _ rfl h40 hS
  refine FnIO.of_vc Tryz.func90 rfl (by decide) (by simp [Tryz.f90]) covG1 [] rfl fun w0 T0 _ => ?_
  simp only [Tryz.f90, argEnv]
  (repeat' first | with_reducible (first | intro _ | refine rc ?_ | refine rl ?_ | refine rh ?_ | refine rt ?_ | refine rf ?_ | refine rs ?_ | refine And.intro ?_ ?_) | omega | simp (maxSteps := 1000000) only [go_sem, simprocAttr, ↓reduceIte, gsR, List.length_map])
  refine VcCall.io [0] k (by decide) (by simp [renL, ren, ioN]) rfl (by simp [subOk, ioN, lk, Item.ren, Item.below, gsR, renR_ok, belowR_ok]) covG1 1 (by decide) rfl (by simp [rowsB, Item.below, gsR, belowR_ok]) ?_
  (repeat' first | with_reducible (first | intro _ | refine rc ?_ | refine rl ?_ | refine rh ?_ | refine rt ?_ | refine rf ?_ | refine rs ?_ | refine And.intro ?_ ?_) | omega | simp (maxSteps := 1000000) only [go_sem, simprocAttr, ↓reduceIte, S.ioS, ioRows, ioN, delL, Item.ren, gsR, renR_ok, List.length_cons, List.length_nil, List.getElem?_cons_zero, List.getElem?_cons_succ, List.getElem?_nil, List.cons_append, List.nil_append, Nat.reduceAdd, Nat.sub_self, Nat.add_zero, List.filter])
  refine RetK.auto 1 (Nat.le_refl 1) ?_ rfl ?_ <;> simp only [go_sem, reduceCtorEq, reduceIte, Nat.reduceEqDiff, Nat.reduceLT, Nat.reduceLeDiff, Int.natCast_succ, fromL, gsR]
end Go.Fv.Y

/- strings.Compare, and slices.SortFunc of words, by the shelf. -/
namespace Go.Proofs
open Go.Shelf
def Tryz.lays106_ren : Go.Shelf.Ren := ⟨fun | 106 => 57 | 213 => 96 | 265 => 128 | n => n, fun | 9 => 9 | 3 => 3 | n => n, fun | n => n⟩
theorem Tryz.lays106 : Go.Proofs.Lays.n106 Tryz.prog Tryz.lays106_ren := {
  mixed := by kernel_rfl
  f106 := Tryz.func57.trans (congrArg some (by kernel_rfl))
  f213 := Tryz.func96.trans (congrArg some (by kernel_rfl))
  f265 := Tryz.func128.trans (congrArg some (by kernel_rfl))
  t3 := Tryz.underlying3
  a3 := Tryz.isAgg3
  z3 := Tryz.sizeOf3
  v3 := Tryz.zeroValue3
  t9 := Tryz.underlying9
  a9 := Tryz.isAgg9
  z9 := Tryz.sizeOf9
  v9 := Tryz.zeroValue9 }
end Go.Proofs
namespace Go.Proofs
open Go.Shelf
def Tryz.lSoW_ren : Go.Shelf.Ren := ⟨fun | 6 => 86 | 15 => 95 | 14 => 114 | 28 => 126 | 29 => 127 | 20 => 147 | 21 => 148 | 22 => 149 | 23 => 150 | 24 => 151 | 25 => 152 | 26 => 153 | 27 => 154 | 46 => 170 | 47 => 158 | 48 => 159 | 49 => 171 | 50 => 172 | 57 => 176 | n => n, fun | 22 => 23 | 24 => 56 | 25 => 128 | 3 => 3 | 39 => 145 | 0 => 0 | 53 => 165 | 55 => 167 | 4 => 4 | 46 => 158 | 45 => 157 | 50 => 162 | 5 => 5 | 9 => 9 | 66 => 187 | 70 => 191 | 76 => 199 | 77 => 200 | n => n, fun | n => n⟩
theorem Tryz.lSoW : Go.Proofs.SlLaysF0.n6 Tryz.prog Tryz.lSoW_ren := {
  mixed := by kernel_rfl
  f6 := ⟨Tryz.f86.name, by decide, Tryz.func86.trans (congrArg some (by kernel_rfl))⟩
  f14 := ⟨Tryz.f114.name, by decide, Tryz.func114.trans (congrArg some (by kernel_rfl))⟩
  f15 := Tryz.func95.trans (congrArg some (by kernel_rfl))
  f20 := ⟨Tryz.f147.name, by decide, Tryz.func147.trans (congrArg some (by kernel_rfl))⟩
  f21 := ⟨Tryz.f148.name, by decide, Tryz.func148.trans (congrArg some (by kernel_rfl))⟩
  f22 := ⟨Tryz.f149.name, by decide, Tryz.func149.trans (congrArg some (by kernel_rfl))⟩
  f23 := ⟨Tryz.f150.name, by decide, Tryz.func150.trans (congrArg some (by kernel_rfl))⟩
  f24 := ⟨Tryz.f151.name, by decide, Tryz.func151.trans (congrArg some (by kernel_rfl))⟩
  f25 := ⟨Tryz.f152.name, by decide, Tryz.func152.trans (congrArg some (by kernel_rfl))⟩
  f26 := ⟨Tryz.f153.name, by decide, Tryz.func153.trans (congrArg some (by kernel_rfl))⟩
  f27 := ⟨Tryz.f154.name, by decide, Tryz.func154.trans (congrArg some (by kernel_rfl))⟩
  f28 := Tryz.func126.trans (congrArg some (by kernel_rfl))
  f29 := Tryz.func127.trans (congrArg some (by kernel_rfl))
  f46 := ⟨Tryz.f170.name, by decide, Tryz.func170.trans (congrArg some (by kernel_rfl))⟩
  f47 := Tryz.func158.trans (congrArg some (by kernel_rfl))
  f48 := Tryz.func159.trans (congrArg some (by kernel_rfl))
  f49 := ⟨Tryz.f171.name, by decide, Tryz.func171.trans (congrArg some (by kernel_rfl))⟩
  f50 := ⟨Tryz.f172.name, by decide, Tryz.func172.trans (congrArg some (by kernel_rfl))⟩
  f57 := ⟨Tryz.f176.name, by decide, Tryz.func176.trans (congrArg some (by kernel_rfl))⟩
  t0 := Tryz.underlying0
  a0 := Tryz.isAgg0
  z0 := Tryz.sizeOf0
  v0 := Tryz.zeroValue0
  t3 := Tryz.underlying3
  a3 := Tryz.isAgg3
  z3 := Tryz.sizeOf3
  v3 := Tryz.zeroValue3
  t4 := Tryz.underlying4
  a4 := Tryz.isAgg4
  z4 := Tryz.sizeOf4
  v4 := Tryz.zeroValue4
  t5 := Tryz.underlying5
  a5 := Tryz.isAgg5
  z5 := Tryz.sizeOf5
  v5 := Tryz.zeroValue5
  t9 := Tryz.underlying9
  a9 := Tryz.isAgg9
  z9 := Tryz.sizeOf9
  v9 := Tryz.zeroValue9
  t22 := Tryz.underlying23
  a22 := Tryz.isAgg23
  z22 := Tryz.sizeOf23
  v22 := Tryz.zeroValue23
  t25 := Tryz.underlying128
  a25 := Tryz.isAgg128
  z25 := Tryz.sizeOf128
  v25 := Tryz.zeroValue128
  t39 := Tryz.underlying145
  a39 := Tryz.isAgg145
  z39 := Tryz.sizeOf145
  v39 := Tryz.zeroValue145
  t45 := Tryz.underlying157
  a45 := Tryz.isAgg157
  z45 := Tryz.sizeOf157
  v45 := Tryz.zeroValue157
  t46 := Tryz.underlying158
  a46 := Tryz.isAgg158
  z46 := Tryz.sizeOf158
  v46 := Tryz.zeroValue158
  t50 := Tryz.underlying162
  a50 := Tryz.isAgg162
  z50 := Tryz.sizeOf162
  v50 := Tryz.zeroValue162
  t53 := Tryz.underlying165
  a53 := Tryz.isAgg165
  z53 := Tryz.sizeOf165
  v53 := Tryz.zeroValue165
  t55 := Tryz.underlying167
  a55 := Tryz.isAgg167
  z55 := Tryz.sizeOf167
  v55 := Tryz.zeroValue167
  t66 := Tryz.underlying187
  a66 := Tryz.isAgg187
  z66 := Tryz.sizeOf187
  v66 := Tryz.zeroValue187
  t70 := Tryz.underlying191
  a70 := Tryz.isAgg191
  z70 := Tryz.sizeOf191
  v70 := Tryz.zeroValue191
  t76 := Tryz.underlying199
  a76 := Tryz.isAgg199
  z76 := Tryz.sizeOf199
  v76 := Tryz.zeroValue199
  t77 := Tryz.underlying200
  a77 := Tryz.isAgg200
  z77 := Tryz.sizeOf200
  v77 := Tryz.zeroValue200 }
end Go.Proofs
namespace Go.Fv.Y
open Go Go.Proofs
set_option linter.unusedSimpArgs false
set_option linter.unusedVariables false
set_option linter.unnecessarySimpa false
set_option maxRecDepth 8000

theorem compareS_ok (s t : List UInt8) : FnOk Tryz.prog 57 [.str s, .str t] (.int .i64 (Lib.compareBytes s t)) [] := by
  refine ⟨⟨_, Tryz.func57, by kernel_rfl, by kernel_rfl⟩, fun w T vals hg hv => ?_⟩
  cases hv with
  | cons _ _ _ _ h1 hv => cases hv with
    | cons _ _ _ _ h2 hv =>
      cases hv
      cases h1 with
      | str _ e1 => cases h2 with
        | str _ e2 =>
          have L := Tryz.lays106
          refine (Any.strings_Compare { L with } ⟨s.toArray⟩ ⟨t.toArray⟩ w).mono ?_
          rintro e w' ⟨rfl, rfl⟩
          refine ⟨_, rfl, BelowD.refl _ _, fun _ => undef, 0, ?_, ?_, ?_⟩
          · have h1 := cmp_bd s t
            have e1 : IntKind.i64.min = -9223372036854775808 := by decide
            have e2 : IntKind.i64.max = 9223372036854775807 := by decide
            exact .int .i64 _ ⟨by rw [e1]; omega, by rw [e2]; omega⟩
          · intro i it h; cases h
          · intro i j it jt b h; cases h
theorem refDict1_ok (x y : Wd) : FnOk Tryz.prog 87 [.agg x.av, .agg y.av] (.int .i64 (cfW x y)) [] := by
  have k := compareS_ok x.t y.t
  unfold Wd.av cfW
  refine FnOk.of_vc Tryz.func87 rfl (by decide) (by simp [Tryz.f87]) [.tmp 4] rfl fun w0 T0 _ => ?_
  simp only [Tryz.f87, argEnv]
  (repeat' first | with_reducible (first | intro _ | refine rc ?_ | refine rl ?_ | refine rh ?_ | refine rt ?_ | refine rf ?_ | refine rs ?_ | refine And.intro ?_ ?_) | omega | simp (maxSteps := 1000000) only [go_sem, simprocAttr, ↓reduceIte])
  refine VcCall.k (k) ?_
  (repeat' first | with_reducible (first | intro _ | refine rc ?_ | refine rl ?_ | refine rh ?_ | refine rt ?_ | refine rf ?_ | refine rs ?_ | refine And.intro ?_ ?_) | omega | simp (maxSteps := 1000000) only [go_sem, simprocAttr, ↓reduceIte])
  refine Ret.auto 0 ?_ rfl ?_ <;> simp only [go_sem, reduceCtorEq, reduceIte, Nat.reduceEqDiff, Nat.reduceLT, Nat.reduceLeDiff, Int.natCast_succ, Post]
theorem sortWd_io (F : Nat) (kF : ∀ x y, FnFr Tryz.prog F [.agg (Wd.av x), .agg (Wd.av y)] (.int .i64 (cfW x y)) []) (l : List Wd) (hl : ∀ x, x ∈ l → WdOk x) (hn : (l.map Wd.t).Nodup) (hln : l.length ≤ 1000000000) :
    FnIO Tryz.prog 86 [.own 0, .fn F []] [(0, .row 56 (wdR l))] 1 (.tup []) [(0, .row 56 (wdR (sortW l)))] := by
  obtain ⟨l', hp, hs, kS⟩ := sortFK_io Wd.av 2 (fun _ => rfl) (by decide) Tryz.lSoW ⟨_, Tryz.func86, by kernel_rfl, by kernel_rfl⟩ Tryz.isAgg56 Tryz.sizeOf56 56 (good := WdOk)
    cfW_ord F [] rfl (fun x y _ _ => kF x y) l hl (fun x hx y hy => by
      unfold WdOk at hx
      unfold Wd.av at hy
      rcases List.mem_cons.1 hy with rfl | hy
      · show x.t.length ≤ maxLen
        have : maxLen = 9223372036854775807 := rfl
        omega
      · rw [List.mem_singleton] at hy; subst hy; exact InK_i64.2 (by omega)) (by omega)
  rw [sortW_eq hp hs hn] at kS
  exact kS
end Go.Fv.Y
