/-
  A part of the proof of the claim: walks over the program's functions and the plain laws that these need. No condition of its own.
-/
import Derived.Test.YtolhkphiifgblaaDoorMPiecesGoCardPart1
import Derived.Test.YtolhkphiifgblaaDoorFvPart9
/- The reference's parts: the walk. -/
namespace Go.Fv.M
open Go Go.Proofs
set_option linter.unusedSimpArgs false
set_option linter.unusedVariables false
set_option linter.unnecessarySimpa false
set_option maxRecDepth 8000

theorem part_t {a b k : Bool} (h : (a || decide ¬ b = k) = true) : a = true ∨ (b == k) = false := by revert h; cases a <;> cases b <;> cases k <;> simp
theorem part_f {a b k : Bool} (h : (a || decide ¬ b = k) = false) : ¬ (a = true ∨ (b == k) = false) := by revert h; cases a <;> cases b <;> cases k <;> simp
theorem mark_t {a b k : Bool} (h : (!a && decide (b = k)) = true) : ¬ (a = true ∨ (b == k) = false) := by revert h; cases a <;> cases b <;> cases k <;> simp
theorem mark_f {a b k : Bool} (h : (!a && decide (b = k)) = false) : a = true ∨ (b == k) = false := by revert h; cases a <;> cases b <;> cases k <;> simp
set_option maxHeartbeats 8000000 in
theorem parts_ok (w h : Nat) (hw1 : 1 ≤ w) (hw : w ≤ 1000) (hh1 : 1 ≤ h) (hh : h ≤ 1000) (p : List Bool) (hp : p.length = w * h) (ink : Bool) :
    FnOk Tryd.prog 51 [.agg [.int .i64 w, .int .i64 h, .ro (.bools p)], .bool ink] (.own 0) [(0, .row 53 (.objs 1 (((pieces ⟨p, w, h, ink, ink⟩).map sortI).map gAv)))] := by
  have hn : w * h ≤ 1000 * 1000 := Nat.mul_le_mul hw hh
  have hst : StepOk (Pg2.ok ⟨p, w, h, ink, ink⟩) (w * h) (pix ⟨p, w, h, ink, ink⟩) := pix_step ⟨p, w, h, ink, ink⟩
  have hRl : (pieces ⟨p, w, h, ink, ink⟩).length ≤ w * h := pieces_len ⟨p, w, h, ink, ink⟩
  have hpt : ∀ c0 s x y v u, RInv (Pg2.ok ⟨p, w, h, ink, ink⟩) (w * h) c0 s → RInv (Pg2.ok ⟨p, w, h, ink, ink⟩) (w * h) c0 (pt9 ⟨p, w, h, ink, ink⟩ x y v s u) ∧ RLe s (pt9 ⟨p, w, h, ink, ink⟩ x y v s u) :=
    fun c0 s x y v u hs => by
      unfold pt9
      split
      · rename_i ho
        exact pt_inv (g := ⟨p, w, h, ink, ink⟩) hs ⟨ho.1, ho.2.2.1⟩ ⟨ho.2.1, ho.2.2.2⟩
      · exact ⟨hs, RLe.refl s⟩
  have hrw : ∀ c0 s x y v, RInv (Pg2.ok ⟨p, w, h, ink, ink⟩) (w * h) c0 s → RInv (Pg2.ok ⟨p, w, h, ink, ink⟩) (w * h) c0 (row9 ⟨p, w, h, ink, ink⟩ x y s v) ∧ RLe s (row9 ⟨p, w, h, ink, ink⟩ x y s v) :=
    fun c0 s x y v hs => fold_inv (P := RInv (Pg2.ok ⟨p, w, h, ink, ink⟩) (w * h) c0) (R := RLe) RLe.refl (fun _ _ _ h h' => h.trans h') _ s hs fun s u hs _ => hpt c0 s x y v u hs
  generalize hg : (⟨p, w, h, ink, ink⟩ : Pg2) = g at *
  generalize hR : pieces g = R at *
  refine FnOk.of_vc Tryd.func51 rfl (by decide) (by simp [Tryd.f51]) [.tmp 4] rfl fun w0 T0 _ => ?_
  simp only [Tryd.f51, argEnv]
  (repeat' first | with_reducible (first | refine Asm.intro fun _ => ?_ | refine Chk.g ?_ | refine AnyI.i64 fun _ _ => ?_ | refine LetW.g ?_ | refine LetW.h ?_ | refine Ite.t fun _ => ?_ | refine Ite.f fun _ => ?_ | refine Ite.decide (fun _ => ?_) fun _ => ?_ | refine Ite.bool (fun _ => ?_) fun _ => ?_ | refine And.intro ?_ ?_) | omega | simp (maxSteps := 1000000) only [go_sem, reduceCtorEq, Nat.reduceLT, Nat.reduceLeDiff, reduceIte, ↓reduceIte, Nat.reduceEqDiff, Nat.reduceAdd, Nat.reduceMul, Nat.reduceSub, Int.reduceLE, Int.reduceLT, Int.reduceNeg, Int.reduceToNat, hp])
  refine VcLoop.intro (fun x : Nat × List Bool × List (List Int) => ⟨144, [(24, .int .i64 (x.1 : Nat)), (23, .int .i64 (w * h : Nat)), (6, .own 2), (5, .own 1), (2, .ptr 0 0), (1, .bool ink)], [(0, .box 24 [.int .i64 w, .int .i64 h, .ro (.bools p)]), (1, .row 4 (.bools x.2.1)), (2, .row 53 (.objs 1 ((x.2.2.map sortI).map gAv)))], 3⟩) (fun x => x.1 ≤ w * h ∧ SInv g.ok (w * h) x.1 x.2.1 ∧ x.2.2 ++ regs g.ok (pix g) (w * h) (w * h - x.1) x.1 x.2.1 = R) (fun x => w * h - x.1) (0, List.replicate (w * h) false, []) ?_ ⟨Nat.zero_le _, SInv.zero _ _, ?_⟩ fun x hx => ?_
  · refine Ent.auto0 rfl ?_ ?_ <;> simp only [go_sem, reduceCtorEq, reduceIte, Nat.reduceEqDiff, Nat.reduceLT, Nat.reduceLeDiff, Int.natCast_succ, zrow, List.map_nil, Int.toNat_natCast]
  · subst hg
    dsimp only
    rw [Nat.sub_zero, List.nil_append]
    exact hR
  obtain ⟨i, seen, D⟩ := x
  obtain ⟨hi, hS, hD⟩ := hx
  dsimp only at hi hS hD ⊢
  have hsl := hS.len
  by_cases hlt : i < w * h
  · obtain ⟨m, hm⟩ : ∃ m, w * h - i = m + 1 := ⟨w * h - i - 1, by omega⟩
    have hm' : w * h - (i + 1) = m := by omega
    have hok : g.ok i = (p.getD i false == ink) := by subst hg; rfl
    rw [hm] at hD
    simp only [regs] at hD
    (repeat' first | with_reducible (first | refine Asm.intro fun _ => ?_ | refine Chk.g ?_ | refine AnyI.i64 fun _ _ => ?_ | refine LetW.g ?_ | refine LetW.h ?_ | refine Ite.t fun _ => ?_ | refine Ite.f fun _ => ?_ | refine Ite.decide (fun _ => ?_) fun _ => ?_ | refine Ite.bool (fun _ => ?_) fun _ => ?_ | refine And.intro ?_ ?_) | omega | simp (maxSteps := 1000000) only [go_sem, reduceCtorEq, Nat.reduceLT, Nat.reduceLeDiff, reduceIte, ↓reduceIte, Nat.reduceEqDiff, Nat.reduceAdd, Nat.reduceMul, Nat.reduceSub, Int.reduceLE, Int.reduceLT, Int.reduceNeg, Int.reduceToNat, Int.toNat_natCast, hsl, hp])
    refine Chk.g ?_ (fun h => ⟨h, by omega⟩)
    refine Ite.bool (fun hc => ?_) (fun hc => ?_)
    · have hs : seen.getD i false = true ∨ g.ok i = false := by rw [hok]; exact part_t hc
      rw [if_pos hs] at hD
      (repeat' first | with_reducible (first | refine Asm.intro fun _ => ?_ | refine Chk.g ?_ | refine AnyI.i64 fun _ _ => ?_ | refine LetW.g ?_ | refine LetW.h ?_ | refine Ite.t fun _ => ?_ | refine Ite.f fun _ => ?_ | refine Ite.decide (fun _ => ?_) fun _ => ?_ | refine Ite.bool (fun _ => ?_) fun _ => ?_ | refine And.intro ?_ ?_) | omega | simp (maxSteps := 1000000) only [go_sem, reduceCtorEq, Nat.reduceLT, Nat.reduceLeDiff, reduceIte, ↓reduceIte, Nat.reduceEqDiff, Nat.reduceAdd, Nat.reduceMul, Nat.reduceSub, Int.reduceLE, Int.reduceLT, Int.reduceNeg, Int.reduceToNat])
      refine ⟨(i + 1, seen, D), Ent.auto0 rfl ?_ ?_, ⟨by omega, hS.skip hs, by dsimp only; rw [hm']; exact hD⟩, by dsimp only; omega⟩ <;> simp only [go_sem, reduceCtorEq, reduceIte, Nat.reduceEqDiff, Nat.reduceLT, Nat.reduceLeDiff, Int.natCast_succ]
    · have hs : ¬ (seen.getD i false = true ∨ g.ok i = false) := by rw [hok]; exact part_f hc
      rw [if_neg hs] at hD
      have hI := hS.start hlt hs
      obtain ⟨hS2, hO2, _⟩ := hS.region hst hlt hs (w * h)
      generalize hF : bfs (pix g) (w * h) 0 ⟨seen.set i true, [(i : Int)]⟩ = F at *
      generalize seen.count true = c0 at *
      (repeat' first | with_reducible (first | refine Asm.intro fun _ => ?_ | refine Chk.g ?_ | refine AnyI.i64 fun _ _ => ?_ | refine LetW.g ?_ | refine LetW.h ?_ | refine Ite.t fun _ => ?_ | refine Ite.f fun _ => ?_ | refine Ite.decide (fun _ => ?_) fun _ => ?_ | refine Ite.bool (fun _ => ?_) fun _ => ?_ | refine And.intro ?_ ?_) | omega | simp (maxSteps := 1000000) only [go_sem, reduceCtorEq, Nat.reduceLT, Nat.reduceLeDiff, reduceIte, ↓reduceIte, Nat.reduceEqDiff, Nat.reduceAdd, Nat.reduceMul, Nat.reduceSub, Int.reduceLE, Int.reduceLT, Int.reduceNeg, Int.reduceToNat, Int.toNat_natCast, hsl, hp])
      refine VcLoop.intro (fun x : Nat × RS => ⟨144, [(9, .int .i64 (x.1 : Nat)), (8, .own 3), (24, .int .i64 (i : Nat)), (23, .int .i64 (w * h : Nat)), (6, .own 2), (5, .own 1), (2, .ptr 0 0), (1, .bool ink)], [(0, .box 24 [.int .i64 w, .int .i64 h, .ro (.bools p)]), (1, .row 4 (.bools x.2.seen)), (2, .row 53 (.objs 1 ((D.map sortI).map gAv))), (3, .row 3 (.ints .i64 x.2.l))], 4⟩) (fun x => x.1 ≤ x.2.l.length ∧ RInv g.ok (w * h) c0 x.2 ∧ bfs (pix g) (w * h - x.1) x.1 x.2 = F) (fun x => w * h - x.1) (0, ⟨seen.set i true, [(i : Int)]⟩) ?_ ⟨Nat.zero_le _, hI, hF⟩ fun x hx => ?_
      · refine Ent.auto0 rfl ?_ ?_ <;> simp only [go_sem, reduceCtorEq, reduceIte, Nat.reduceEqDiff, Nat.reduceLT, Nat.reduceLeDiff, Int.natCast_succ]
      obtain ⟨k, s⟩ := x
      obtain ⟨hk, hI, hF⟩ := hx
      dsimp only at hk hI hF ⊢
      have hll := hI.le
      have hDl : D.length ≤ w * h := by
        rw [← hD, List.length_append] at hRl
        omega
      by_cases hlk : k < s.l.length
      · obtain ⟨hb1, hb2⟩ := hI.bd _ (getD_mem hlk)
        obtain ⟨m2, hm2⟩ : ∃ m2, w * h - k = m2 + 1 := ⟨w * h - k - 1, by omega⟩
        have hm2' : w * h - (k + 1) = m2 := by omega
        rw [hm2, bfs_step _ hlk] at hF
        obtain ⟨c, hc⟩ : ∃ c : Nat, s.l.getD k 0 = c := ⟨(s.l.getD k 0).toNat, by omega⟩
        rw [hc] at hF hb2
        have hgw : g.w = w := by subst hg; rfl
        have hgh : g.h = h := by subst hg; rfl
        rw [← pix9_eq g s (c := (c : Int)) (by omega) (by rw [hgw, hgh]; exact hb2)] at hF
        obtain ⟨⟨_, hx2⟩, _, hy2⟩ := xy_bd (g := g) (c := c) (by omega) (by subst hg; exact hb2)
        rw [hgw] at hx2 hy2
        rw [hgh] at hy2
        have ex : (c : Int) % (w : Int) = ((c % w : Nat) : Int) := rfl
        have ey : (c : Int) / (w : Int) = ((c / w : Nat) : Int) := rfl
        rw [ex] at hx2
        rw [ey] at hy2
        generalize hQ : pix9 g s (c : Int) = Q at *
        unfold pix9 at hQ
        rw [hgw, ex, ey] at hQ
        generalize hx0 : c % w = x at *
        generalize hy0 : c / w = y at *
        (repeat' first | with_reducible (first | refine Asm.intro fun _ => ?_ | refine Chk.g ?_ | refine AnyI.i64 fun _ _ => ?_ | refine LetW.g ?_ | refine LetW.h ?_ | refine Ite.t fun _ => ?_ | refine Ite.f fun _ => ?_ | refine Ite.decide (fun _ => ?_) fun _ => ?_ | refine Ite.bool (fun _ => ?_) fun _ => ?_ | refine And.intro ?_ ?_) | omega | simp (maxSteps := 1000000) only [go_sem, reduceCtorEq, Nat.reduceLT, Nat.reduceLeDiff, reduceIte, ↓reduceIte, Nat.reduceEqDiff, Nat.reduceAdd, Nat.reduceMul, Nat.reduceSub, Int.reduceLE, Int.reduceLT, Int.reduceNeg, Int.reduceToNat, Int.toNat_natCast])
        refine VcDraw.lex [] [] (by kernel_rfl) (by kernel_rfl) ?_
        (repeat' first | with_reducible (first | refine Asm.intro fun _ => ?_ | refine Chk.g ?_ | refine AnyI.i64 fun _ _ => ?_ | refine LetW.g ?_ | refine LetW.h ?_ | refine Ite.t fun _ => ?_ | refine Ite.f fun _ => ?_ | refine Ite.decide (fun _ => ?_) fun _ => ?_ | refine Ite.bool (fun _ => ?_) fun _ => ?_ | refine And.intro ?_ ?_) | omega | simp (maxSteps := 1000000) only [go_sem, reduceCtorEq, Nat.reduceLT, Nat.reduceLeDiff, reduceIte, ↓reduceIte, Nat.reduceEqDiff, Nat.reduceAdd, Nat.reduceMul, Nat.reduceSub, Int.reduceLE, Int.reduceLT, Int.reduceNeg, Int.reduceToNat, Int.toNat_natCast, hc, up_tmod, up_tdiv, minmax, hx0, hy0])
        refine VcLoop.intro (fun z : Int × RS => ⟨144, [(12, .int .i64 z.1), (11, .int .i64 (y : Nat)), (10, .int .i64 (x : Nat)), (9, .int .i64 (k : Nat)), (8, .own 3), (24, .int .i64 (i : Nat)), (23, .int .i64 (w * h : Nat)), (6, .own 2), (5, .own 1), (2, .ptr 0 0), (1, .bool ink)], [(0, .box 24 [.int .i64 w, .int .i64 h, .ro (.bools p)]), (1, .row 4 (.bools z.2.seen)), (2, .row 53 (.objs 1 ((D.map sortI).map gAv))), (3, .row 3 (.ints .i64 z.2.l))], 4⟩) (fun z => -1 ≤ z.1 ∧ z.1 ≤ 2 ∧ RInv g.ok (w * h) c0 z.2 ∧ k < z.2.l.length ∧ (rng (y + z.1) (2 - z.1).toNat).foldl (row9 g x y) z.2 = Q) (fun z => (2 - z.1).toNat) (-1, s) ?_ ⟨by dsimp only; omega, by dsimp only; omega, hI, hlk, by have h1 := hQ; rw [Int.sub_eq_add_neg] at h1; exact h1⟩ fun z hz => ?_
        · refine Ent.auto0 rfl ?_ ?_ <;> simp only [go_sem, reduceCtorEq, reduceIte, Nat.reduceEqDiff, Nat.reduceLT, Nat.reduceLeDiff, Int.natCast_succ]
        obtain ⟨dy, t⟩ := z
        obtain ⟨hv1, hv2, hIt, hkt, hrest⟩ := hz
        dsimp only at hv1 hv2 hIt hkt hrest ⊢
        have hlt2 := hIt.le
        by_cases hv : dy ≤ 1
        · obtain ⟨m3, hm3⟩ : ∃ m3, (2 - dy).toNat = m3 + 1 := ⟨(2 - dy).toNat - 1, by omega⟩
          have hm3' : (2 - (dy + 1)).toNat = m3 := by omega
          rw [hm3] at hrest
          simp only [rng, List.foldl_cons] at hrest
          obtain ⟨hI3, hL3⟩ := hrw c0 t x y (y + dy) hIt
          have hl3 := hL3.len
          generalize hQ2 : row9 g x y t (y + dy) = Q2 at *
          unfold row9 at hQ2
          (repeat' first | with_reducible (first | refine Asm.intro fun _ => ?_ | refine Chk.g ?_ | refine AnyI.i64 fun _ _ => ?_ | refine LetW.g ?_ | refine LetW.h ?_ | refine Ite.t fun _ => ?_ | refine Ite.f fun _ => ?_ | refine Ite.decide (fun _ => ?_) fun _ => ?_ | refine Ite.bool (fun _ => ?_) fun _ => ?_ | refine And.intro ?_ ?_) | omega | simp (maxSteps := 1000000) only [go_sem, reduceCtorEq, Nat.reduceLT, Nat.reduceLeDiff, reduceIte, ↓reduceIte, Nat.reduceEqDiff, Nat.reduceAdd, Nat.reduceMul, Nat.reduceSub, Int.reduceLE, Int.reduceLT, Int.reduceNeg, Int.reduceToNat, Int.toNat_natCast, minmax])
          refine VcLoop.intro (fun z : Int × RS => ⟨144, [(13, .int .i64 z.1), (12, .int .i64 dy), (11, .int .i64 (y : Nat)), (10, .int .i64 (x : Nat)), (9, .int .i64 (k : Nat)), (8, .own 3), (24, .int .i64 (i : Nat)), (23, .int .i64 (w * h : Nat)), (6, .own 2), (5, .own 1), (2, .ptr 0 0), (1, .bool ink)], [(0, .box 24 [.int .i64 w, .int .i64 h, .ro (.bools p)]), (1, .row 4 (.bools z.2.seen)), (2, .row 53 (.objs 1 ((D.map sortI).map gAv))), (3, .row 3 (.ints .i64 z.2.l))], 4⟩) (fun z => -1 ≤ z.1 ∧ z.1 ≤ 2 ∧ RInv g.ok (w * h) c0 z.2 ∧ (rng (x + z.1) (2 - z.1).toNat).foldl (pt9 g x y (y + dy)) z.2 = Q2) (fun z => (2 - z.1).toNat) (-1, t) ?_ ⟨by dsimp only; omega, by dsimp only; omega, hIt, by have h1 := hQ2; rw [Int.sub_eq_add_neg] at h1; exact h1⟩ fun z hz => ?_
          · refine Ent.auto0 rfl ?_ ?_ <;> simp only [go_sem, reduceCtorEq, reduceIte, Nat.reduceEqDiff, Nat.reduceLT, Nat.reduceLeDiff, Int.natCast_succ]
          clear hlt2
          obtain ⟨dx, t⟩ := z
          obtain ⟨hu1, hu2, hIu, hrest2⟩ := hz
          dsimp only at hu1 hu2 hIu hrest2 ⊢
          have hlu := hIu.le
          have hsu := hIu.len
          by_cases hu : dx ≤ 1
          · obtain ⟨m4, hm4⟩ : ∃ m4, (2 - dx).toNat = m4 + 1 := ⟨(2 - dx).toNat - 1, by omega⟩
            have hm4' : (2 - (dx + 1)).toNat = m4 := by omega
            rw [hm4] at hrest2
            simp only [rng, List.foldl_cons] at hrest2
            have hI4 := (hpt c0 t x y (y + dy) (x + dx) hIu).1
            have eu : (x : Int) + dx + 1 = x + (dx + 1) := by omega
            rw [eu] at hrest2
            have hRS : pt9 g x y (y + dy) t (x + dx) = if 0 ≤ (x : Int) + dx ∧ 0 ≤ (y : Int) + dy ∧ (x : Int) + dx < w ∧ (y : Int) + dy < h then (if ink = false ∧ (x : Int) + dx ≠ x ∧ (y : Int) + dy ≠ y then t else t.vis g.ok (((y : Int) + dy) * w + (x + dx)).toNat) else t := by
              unfold pt9 okAt RS.pt
              subst hg
              rfl
            rw [hRS] at hI4 hrest2
            (repeat' first | with_reducible (first | refine Asm.intro fun _ => ?_ | refine Chk.g ?_ | refine AnyI.i64 fun _ _ => ?_ | refine LetW.g ?_ | refine LetW.h ?_ | refine Ite.t fun _ => ?_ | refine Ite.f fun _ => ?_ | refine Ite.decide (fun _ => ?_) fun _ => ?_ | refine Ite.bool (fun _ => ?_) fun _ => ?_ | refine And.intro ?_ ?_) | omega | simp (maxSteps := 1000000) only [go_sem, reduceCtorEq, Nat.reduceLT, Nat.reduceLeDiff, reduceIte, ↓reduceIte, Nat.reduceEqDiff, Nat.reduceAdd, Nat.reduceMul, Nat.reduceSub, Int.reduceLE, Int.reduceLT, Int.reduceNeg, Int.reduceToNat, Int.toNat_natCast, minmax, hp])
            refine Chk.g (Chk.g (Ite.bool (fun hc => ?_) (fun hc => ?_)) (fun h => ⟨h, fun h2 => ⟨h, h2⟩⟩)) (fun h => ⟨h, fun h2 => ⟨h, h2⟩⟩)
            · have e : (if 0 ≤ (x : Int) + dx ∧ 0 ≤ (y : Int) + dy ∧ (x : Int) + dx < w ∧ (y : Int) + dy < h then (if ink = false ∧ (x : Int) + dx ≠ x ∧ (y : Int) + dy ≠ y then t else t.vis g.ok (((y : Int) + dy) * w + (x + dx)).toNat) else t) = t := by
                simp only [Bool.or_eq_true, decide_eq_true_eq, Bool.and_eq_true, Bool.not_eq_true'] at hc
                rcases hc with h1 | ⟨⟨h1, h2⟩, h3⟩
                · rw [if_neg (by omega)]
                · rw [if_pos (show ink = false ∧ (x : Int) + dx ≠ x ∧ (y : Int) + dy ≠ y from ⟨h1, by omega, by omega⟩), ite_self]
              rw [e] at hI4 hrest2
              (repeat' first | with_reducible (first | refine Asm.intro fun _ => ?_ | refine Chk.g ?_ | refine AnyI.i64 fun _ _ => ?_ | refine LetW.g ?_ | refine LetW.h ?_ | refine Ite.t fun _ => ?_ | refine Ite.f fun _ => ?_ | refine Ite.decide (fun _ => ?_) fun _ => ?_ | refine Ite.bool (fun _ => ?_) fun _ => ?_ | refine And.intro ?_ ?_) | omega | simp (maxSteps := 1000000) only [go_sem, reduceCtorEq, Nat.reduceLT, Nat.reduceLeDiff, reduceIte, ↓reduceIte, Nat.reduceEqDiff, Nat.reduceAdd, Nat.reduceMul, Nat.reduceSub, Int.reduceLE, Int.reduceLT, Int.reduceNeg, Int.reduceToNat, Int.toNat_natCast, minmax, hp])
              refine ⟨(dx + 1, t), Ent.auto0 rfl ?_ ?_, ⟨by dsimp only; omega, by dsimp only; omega, hI4, by dsimp only; rw [hm4']; exact hrest2⟩, by dsimp only; omega⟩ <;> simp only [go_sem, reduceCtorEq, reduceIte, Nat.reduceEqDiff, Nat.reduceLT, Nat.reduceLeDiff, Int.natCast_succ]
            · simp only [Bool.or_eq_false_iff, decide_eq_false_iff_not] at hc
              obtain ⟨h1, h2⟩ := hc
              have hu0 : 0 ≤ (x : Int) + dx ∧ (x : Int) + dx < w := by omega
              have hv0 : 0 ≤ (y : Int) + dy ∧ (y : Int) + dy < h := by omega
              rw [if_pos (show 0 ≤ (x : Int) + dx ∧ 0 ≤ (y : Int) + dy ∧ (x : Int) + dx < w ∧ (y : Int) + dy < h by omega), if_neg (by
                rintro ⟨k1, k2, k3⟩
                rw [k1, decide_eq_true (show ¬ dx = 0 by omega), decide_eq_true (show ¬ dy = 0 by omega)] at h2
                cases h2)] at hI4 hrest2
              obtain ⟨hc1, hc2, hc3⟩ := cell_lt hu0 hv0
              have hvw0 : 0 ≤ ((y : Int) + dy) * (w : Int) := Int.mul_nonneg hv0.1 (by omega)
              obtain ⟨q, hq⟩ : ∃ q : Nat, ((y : Int) + dy) * (w : Int) + (x + dx) = q := ⟨(((y : Int) + dy) * (w : Int) + (x + dx)).toNat, by omega⟩
              rw [hq, Int.toNat_natCast] at hI4 hrest2
              have hqn : q < w * h := by omega
              have hokq : g.ok q = (p.getD q false == ink) := by subst hg; rfl
              unfold RS.vis at hI4 hrest2
              rw [hokq] at hI4 hrest2
              (repeat' first | with_reducible (first | refine Asm.intro fun _ => ?_ | refine Chk.g ?_ | refine AnyI.i64 fun _ _ => ?_ | refine LetW.g ?_ | refine LetW.h ?_ | refine Ite.t fun _ => ?_ | refine Ite.f fun _ => ?_ | refine Ite.decide (fun _ => ?_) fun _ => ?_ | refine Ite.bool (fun _ => ?_) fun _ => ?_ | refine And.intro ?_ ?_) | omega | simp (maxSteps := 1000000) only [go_sem, reduceCtorEq, Nat.reduceLT, Nat.reduceLeDiff, reduceIte, ↓reduceIte, Nat.reduceEqDiff, Nat.reduceAdd, Nat.reduceMul, Nat.reduceSub, Int.reduceLE, Int.reduceLT, Int.reduceNeg, Int.reduceToNat, Int.toNat_natCast, minmax, hp, hq])
              refine Chk.g (Ite.bool (fun hc => ?_) (fun hc => ?_)) (fun h => ⟨h, by omega⟩)
              · rw [if_neg (mark_t hc)] at hI4 hrest2
                (repeat' first | with_reducible (first | refine Asm.intro fun _ => ?_ | refine Chk.g ?_ | refine AnyI.i64 fun _ _ => ?_ | refine LetW.g ?_ | refine LetW.h ?_ | refine Ite.t fun _ => ?_ | refine Ite.f fun _ => ?_ | refine Ite.decide (fun _ => ?_) fun _ => ?_ | refine Ite.bool (fun _ => ?_) fun _ => ?_ | refine And.intro ?_ ?_) | omega | simp (maxSteps := 1000000) only [go_sem, reduceCtorEq, Nat.reduceLT, Nat.reduceLeDiff, reduceIte, ↓reduceIte, Nat.reduceEqDiff, Nat.reduceAdd, Nat.reduceMul, Nat.reduceSub, Int.reduceLE, Int.reduceLT, Int.reduceNeg, Int.reduceToNat, Int.toNat_natCast, minmax, hp, hq, hsu])
                refine ⟨(dx + 1, ⟨t.seen.set q true, t.l ++ [(q : Int)]⟩), Ent.auto0 rfl ?_ ?_, ⟨by dsimp only; omega, by dsimp only; omega, hI4, by dsimp only; rw [hm4']; exact hrest2⟩, by dsimp only; omega⟩ <;> simp only [go_sem, reduceCtorEq, reduceIte, Nat.reduceEqDiff, Nat.reduceLT, Nat.reduceLeDiff, Int.natCast_succ]
              · rw [if_pos (mark_f hc)] at hI4 hrest2
                (repeat' first | with_reducible (first | refine Asm.intro fun _ => ?_ | refine Chk.g ?_ | refine AnyI.i64 fun _ _ => ?_ | refine LetW.g ?_ | refine LetW.h ?_ | refine Ite.t fun _ => ?_ | refine Ite.f fun _ => ?_ | refine Ite.decide (fun _ => ?_) fun _ => ?_ | refine Ite.bool (fun _ => ?_) fun _ => ?_ | refine And.intro ?_ ?_) | omega | simp (maxSteps := 1000000) only [go_sem, reduceCtorEq, Nat.reduceLT, Nat.reduceLeDiff, reduceIte, ↓reduceIte, Nat.reduceEqDiff, Nat.reduceAdd, Nat.reduceMul, Nat.reduceSub, Int.reduceLE, Int.reduceLT, Int.reduceNeg, Int.reduceToNat, Int.toNat_natCast, minmax, hp, hq])
                refine ⟨(dx + 1, t), Ent.auto0 rfl ?_ ?_, ⟨by dsimp only; omega, by dsimp only; omega, hI4, by dsimp only; rw [hm4']; exact hrest2⟩, by dsimp only; omega⟩ <;> simp only [go_sem, reduceCtorEq, reduceIte, Nat.reduceEqDiff, Nat.reduceLT, Nat.reduceLeDiff, Int.natCast_succ]
          · have eu : dx = 2 := by omega
            subst eu
            have e : t = Q2 := hrest2
            subst e
            (repeat' first | with_reducible (first | refine Asm.intro fun _ => ?_ | refine Chk.g ?_ | refine AnyI.i64 fun _ _ => ?_ | refine LetW.g ?_ | refine LetW.h ?_ | refine Ite.t fun _ => ?_ | refine Ite.f fun _ => ?_ | refine Ite.decide (fun _ => ?_) fun _ => ?_ | refine Ite.bool (fun _ => ?_) fun _ => ?_ | refine And.intro ?_ ?_) | omega | simp (maxSteps := 1000000) only [go_sem, reduceCtorEq, Nat.reduceLT, Nat.reduceLeDiff, reduceIte, ↓reduceIte, Nat.reduceEqDiff, Nat.reduceAdd, Nat.reduceMul, Nat.reduceSub, Int.reduceLE, Int.reduceLT, Int.reduceNeg, Int.reduceToNat, Int.toNat_natCast, minmax])
            have ed : (y : Int) + dy + 1 = y + (dy + 1) := by omega
            rw [ed] at hrest
            refine ⟨(dy + 1, t), Ent.auto0 rfl ?_ ?_, ⟨by dsimp only; omega, by dsimp only; omega, hI3, by dsimp only; omega, by dsimp only; rw [hm3']; exact hrest⟩, by dsimp only; omega⟩ <;> simp only [go_sem, reduceCtorEq, reduceIte, Nat.reduceEqDiff, Nat.reduceLT, Nat.reduceLeDiff, Int.natCast_succ]
        · have ev : dy = 2 := by omega
          subst ev
          have e : t = Q := hrest
          subst e
          (repeat' first | with_reducible (first | refine Asm.intro fun _ => ?_ | refine Chk.g ?_ | refine AnyI.i64 fun _ _ => ?_ | refine LetW.g ?_ | refine LetW.h ?_ | refine Ite.t fun _ => ?_ | refine Ite.f fun _ => ?_ | refine Ite.decide (fun _ => ?_) fun _ => ?_ | refine Ite.bool (fun _ => ?_) fun _ => ?_ | refine And.intro ?_ ?_) | omega | simp (maxSteps := 1000000) only [go_sem, reduceCtorEq, Nat.reduceLT, Nat.reduceLeDiff, reduceIte, ↓reduceIte, Nat.reduceEqDiff, Nat.reduceAdd, Nat.reduceMul, Nat.reduceSub, Int.reduceLE, Int.reduceLT, Int.reduceNeg, Int.reduceToNat, Int.toNat_natCast, minmax])
          refine ⟨(k + 1, t), Ent.auto0 rfl ?_ ?_, ⟨by dsimp only; omega, hIt, by dsimp only; rw [hm2']; exact hF⟩, by dsimp only; omega⟩ <;> simp only [go_sem, reduceCtorEq, reduceIte, Nat.reduceEqDiff, Nat.reduceLT, Nat.reduceLeDiff, Int.natCast_succ]
      · have e : F = s := by rw [← hF, bfs_end _ _ _ _ hlk]
        subst e
        have kS := sortR_ok F.l (by omega)
        have hsl2 := sortI_len F.l
        (repeat' first | with_reducible (first | refine Asm.intro fun _ => ?_ | refine Chk.g ?_ | refine AnyI.i64 fun _ _ => ?_ | refine LetW.g ?_ | refine LetW.h ?_ | refine Ite.t fun _ => ?_ | refine Ite.f fun _ => ?_ | refine Ite.decide (fun _ => ?_) fun _ => ?_ | refine Ite.bool (fun _ => ?_) fun _ => ?_ | refine And.intro ?_ ?_) | omega | simp (maxSteps := 1000000) only [go_sem, reduceCtorEq, Nat.reduceLT, Nat.reduceLeDiff, reduceIte, ↓reduceIte, Nat.reduceEqDiff, Nat.reduceAdd, Nat.reduceMul, Nat.reduceSub, Int.reduceLE, Int.reduceLT, Int.reduceNeg, Int.reduceToNat])
        refine VcCall.io [3] kS (by decide) (by simp [renL, ren, ioN]) rfl (by simp [subOk, ioN, lk, Item.ren, Item.below, ren, renL, belowL, Fv.below, renR, belowR]) cov1 1 (by decide) rfl (by simp [rowsB, Item.below, Fv.below, belowL, belowR]) ?_
        (repeat' first | with_reducible (first | refine Asm.intro fun _ => ?_ | refine Chk.g ?_ | refine AnyI.i64 fun _ _ => ?_ | refine LetW.g ?_ | refine LetW.h ?_ | refine Ite.t fun _ => ?_ | refine Ite.f fun _ => ?_ | refine Ite.decide (fun _ => ?_) fun _ => ?_ | refine Ite.bool (fun _ => ?_) fun _ => ?_ | refine And.intro ?_ ?_) | omega | simp (maxSteps := 1000000) only [go_sem, reduceCtorEq, Nat.reduceLT, Nat.reduceLeDiff, reduceIte, ↓reduceIte, Nat.reduceEqDiff, Nat.reduceAdd, Nat.reduceMul, Nat.reduceSub, Int.reduceLE, Int.reduceLT, Int.reduceNeg, Int.reduceToNat, S.ioS, ioRows, ioN, delL, Item.ren, ren, renL, renR, List.map_nil, List.length_cons, List.length_nil, List.getElem?_cons_zero, List.getElem?_nil, List.cons_append, List.nil_append, Nat.reduceAdd, Nat.sub_self, Nat.add_zero, List.filter])
        refine ⟨(i + 1, F.seen, D ++ [F.l]), Ent.auto0 rfl ?_ ?_, ⟨by omega, hS2, by dsimp only; rw [hm', List.append_assoc]; exact hD⟩, by dsimp only; omega⟩ <;> simp only [go_sem, reduceCtorEq, reduceIte, Nat.reduceEqDiff, Nat.reduceLT, Nat.reduceLeDiff, Int.natCast_succ, List.map_append, gAv]
  · have e : i = w * h := by omega
    subst e
    rw [Nat.sub_self] at hD
    simp only [regs, List.append_nil] at hD
    subst hD
    (repeat' first | with_reducible (first | refine Asm.intro fun _ => ?_ | refine Chk.g ?_ | refine AnyI.i64 fun _ _ => ?_ | refine LetW.g ?_ | refine LetW.h ?_ | refine Ite.t fun _ => ?_ | refine Ite.f fun _ => ?_ | refine Ite.decide (fun _ => ?_) fun _ => ?_ | refine Ite.bool (fun _ => ?_) fun _ => ?_ | refine And.intro ?_ ?_) | omega | simp (maxSteps := 1000000) only [go_sem, reduceCtorEq, Nat.reduceLT, Nat.reduceLeDiff, reduceIte, ↓reduceIte, Nat.reduceEqDiff, Nat.reduceAdd, Nat.reduceMul, Nat.reduceSub, Int.reduceLE, Int.reduceLT, Int.reduceNeg, Int.reduceToNat])
    refine Ret.auto 1 ?_ rfl ?_ <;> simp only [go_sem, reduceCtorEq, reduceIte, Nat.reduceEqDiff, Nat.reduceLT, Nat.reduceLeDiff, Int.natCast_succ, Post]
end Go.Fv.M

/- Regions: the walk. -/
namespace Go.Fv.M
open Go Go.Proofs
set_option linter.unusedSimpArgs false
set_option linter.unusedVariables false
set_option linter.unnecessarySimpa false
set_option maxRecDepth 8000

theorem skip_t {a b k : Bool} (h : (a || decide ¬ b = k) = true) : a = true ∨ (b == k) = false := by revert h; cases a <;> cases b <;> cases k <;> simp
theorem skip_f {a b k : Bool} (h : (a || decide ¬ b = k) = false) : ¬ (a = true ∨ (b == k) = false) := by revert h; cases a <;> cases b <;> cases k <;> simp
theorem pt_t {a b k cor : Bool} {P Q : Prop} [Decidable P] [Decidable Q] (h : (a || decide ¬ b = k || !cor && decide ¬ P && decide ¬ Q) = true) : (cor = false ∧ ¬ P ∧ ¬ Q) ∨ (a = true ∨ (b == k) = false) := by
  revert h
  by_cases hp : P <;> by_cases hq : Q <;> cases a <;> cases b <;> cases k <;> cases cor <;> simp [hp, hq]
theorem pt_f {a b k cor : Bool} {P Q : Prop} [Decidable P] [Decidable Q] (h : (a || decide ¬ b = k || !cor && decide ¬ P && decide ¬ Q) = false) : ¬ (cor = false ∧ ¬ P ∧ ¬ Q) ∧ ¬ (a = true ∨ (b == k) = false) := by
  revert h
  by_cases hp : P <;> by_cases hq : Q <;> cases a <;> cases b <;> cases k <;> cases cor <;> simp [hp, hq]
set_option maxHeartbeats 8000000 in
theorem regions_ok (w h : Nat) (hw1 : 1 ≤ w) (hw : w ≤ 1000) (hh1 : 1 ≤ h) (hh : h ≤ 1000) (p : List Bool) (hp : p.length = w * h) (ink cor : Bool) :
    FnOk Tryd.prog 49 [.agg [.int .i64 w, .int .i64 h, .ro (.bools p)], .bool ink, .bool cor] (.own 0) [(0, .row 53 (.objs 1 ((pieces ⟨p, w, h, ink, cor⟩).map gAv)))] := by
  have hn : w * h ≤ 1000 * 1000 := Nat.mul_le_mul hw hh
  have hst : StepOk (Pg2.ok ⟨p, w, h, ink, cor⟩) (w * h) (pix ⟨p, w, h, ink, cor⟩) := pix_step ⟨p, w, h, ink, cor⟩
  have hRl : (pieces ⟨p, w, h, ink, cor⟩).length ≤ w * h := pieces_len ⟨p, w, h, ink, cor⟩
  have hpt : ∀ c0 s x y v u, RInv (Pg2.ok ⟨p, w, h, ink, cor⟩) (w * h) c0 s → (0 ≤ u ∧ u < (w : Int)) → (0 ≤ v ∧ v < (h : Int)) → RInv (Pg2.ok ⟨p, w, h, ink, cor⟩) (w * h) c0 (RS.pt ⟨p, w, h, ink, cor⟩ x y v s u) ∧ RLe s (RS.pt ⟨p, w, h, ink, cor⟩ x y v s u) :=
    fun c0 s x y v u hs hu hv => pt_inv (g := ⟨p, w, h, ink, cor⟩) hs hu hv
  generalize hg : (⟨p, w, h, ink, cor⟩ : Pg2) = g at *
  generalize hR : pieces g = R at *
  refine FnOk.of_vc Tryd.func49 rfl (by decide) (by simp [Tryd.f49]) [.tmp 6] rfl fun w0 T0 _ => ?_
  simp only [Tryd.f49, argEnv]
  (repeat' first | with_reducible (first | refine Asm.intro fun _ => ?_ | refine Chk.g ?_ | refine AnyI.i64 fun _ _ => ?_ | refine LetW.g ?_ | refine LetW.h ?_ | refine Ite.t fun _ => ?_ | refine Ite.f fun _ => ?_ | refine Ite.decide (fun _ => ?_) fun _ => ?_ | refine Ite.bool (fun _ => ?_) fun _ => ?_ | refine And.intro ?_ ?_) | omega | simp (maxSteps := 1000000) only [go_sem, reduceCtorEq, Nat.reduceLT, Nat.reduceLeDiff, reduceIte, ↓reduceIte, Nat.reduceEqDiff, Nat.reduceAdd, Nat.reduceMul, Nat.reduceSub, Int.reduceLE, Int.reduceLT, Int.reduceNeg, Int.reduceToNat, hp])
  refine VcLoop.intro (fun x : Nat × List Bool × List (List Int) => ⟨137, [(24, .int .i64 (x.1 : Nat)), (23, .int .i64 (w * h : Nat)), (8, .own 2), (7, .own 1), (3, .ptr 0 0), (1, .bool ink), (2, .bool cor)], [(0, .box 24 [.int .i64 w, .int .i64 h, .ro (.bools p)]), (1, .row 4 (.bools x.2.1)), (2, .row 53 (.objs 1 (x.2.2.map gAv)))], 3⟩) (fun x => x.1 ≤ w * h ∧ SInv g.ok (w * h) x.1 x.2.1 ∧ x.2.2 ++ regs g.ok (pix g) (w * h) (w * h - x.1) x.1 x.2.1 = R) (fun x => w * h - x.1) (0, List.replicate (w * h) false, []) ?_ ⟨Nat.zero_le _, SInv.zero _ _, ?_⟩ fun x hx => ?_
  · refine Ent.auto0 rfl ?_ ?_ <;> simp only [go_sem, reduceCtorEq, reduceIte, Nat.reduceEqDiff, Nat.reduceLT, Nat.reduceLeDiff, Int.natCast_succ, zrow, List.map_nil, Int.toNat_natCast]
  · subst hg
    dsimp only
    rw [Nat.sub_zero, List.nil_append]
    exact hR
  obtain ⟨i, seen, D⟩ := x
  obtain ⟨hi, hS, hD⟩ := hx
  dsimp only at hi hS hD ⊢
  have hsl := hS.len
  by_cases hlt : i < w * h
  · obtain ⟨m, hm⟩ : ∃ m, w * h - i = m + 1 := ⟨w * h - i - 1, by omega⟩
    have hm' : w * h - (i + 1) = m := by omega
    have hok : g.ok i = (p.getD i false == ink) := by subst hg; rfl
    rw [hm] at hD
    simp only [regs] at hD
    (repeat' first | with_reducible (first | refine Asm.intro fun _ => ?_ | refine Chk.g ?_ | refine AnyI.i64 fun _ _ => ?_ | refine LetW.g ?_ | refine LetW.h ?_ | refine Ite.t fun _ => ?_ | refine Ite.f fun _ => ?_ | refine Ite.decide (fun _ => ?_) fun _ => ?_ | refine Ite.bool (fun _ => ?_) fun _ => ?_ | refine And.intro ?_ ?_) | omega | simp (maxSteps := 1000000) only [go_sem, reduceCtorEq, Nat.reduceLT, Nat.reduceLeDiff, reduceIte, ↓reduceIte, Nat.reduceEqDiff, Nat.reduceAdd, Nat.reduceMul, Nat.reduceSub, Int.reduceLE, Int.reduceLT, Int.reduceNeg, Int.reduceToNat, Int.toNat_natCast, hsl, hp])
    refine Chk.g ?_ (fun h => ⟨h, by omega⟩)
    refine Ite.bool (fun hc => ?_) (fun hc => ?_)
    · have hs : seen.getD i false = true ∨ g.ok i = false := by rw [hok]; exact skip_t hc
      rw [if_pos hs] at hD
      (repeat' first | with_reducible (first | refine Asm.intro fun _ => ?_ | refine Chk.g ?_ | refine AnyI.i64 fun _ _ => ?_ | refine LetW.g ?_ | refine LetW.h ?_ | refine Ite.t fun _ => ?_ | refine Ite.f fun _ => ?_ | refine Ite.decide (fun _ => ?_) fun _ => ?_ | refine Ite.bool (fun _ => ?_) fun _ => ?_ | refine And.intro ?_ ?_) | omega | simp (maxSteps := 1000000) only [go_sem, reduceCtorEq, Nat.reduceLT, Nat.reduceLeDiff, reduceIte, ↓reduceIte, Nat.reduceEqDiff, Nat.reduceAdd, Nat.reduceMul, Nat.reduceSub, Int.reduceLE, Int.reduceLT, Int.reduceNeg, Int.reduceToNat])
      refine ⟨(i + 1, seen, D), Ent.auto0 rfl ?_ ?_, ⟨by omega, hS.skip hs, by dsimp only; rw [hm']; exact hD⟩, by dsimp only; omega⟩ <;> simp only [go_sem, reduceCtorEq, reduceIte, Nat.reduceEqDiff, Nat.reduceLT, Nat.reduceLeDiff, Int.natCast_succ]
    · have hs : ¬ (seen.getD i false = true ∨ g.ok i = false) := by rw [hok]; exact skip_f hc
      rw [if_neg hs] at hD
      have hI := hS.start hlt hs
      obtain ⟨hS2, hO2, _⟩ := hS.region hst hlt hs (w * h)
      generalize hF : bfs (pix g) (w * h) 0 ⟨seen.set i true, [(i : Int)]⟩ = F at *
      generalize seen.count true = c0 at *
      (repeat' first | with_reducible (first | refine Asm.intro fun _ => ?_ | refine Chk.g ?_ | refine AnyI.i64 fun _ _ => ?_ | refine LetW.g ?_ | refine LetW.h ?_ | refine Ite.t fun _ => ?_ | refine Ite.f fun _ => ?_ | refine Ite.decide (fun _ => ?_) fun _ => ?_ | refine Ite.bool (fun _ => ?_) fun _ => ?_ | refine And.intro ?_ ?_) | omega | simp (maxSteps := 1000000) only [go_sem, reduceCtorEq, Nat.reduceLT, Nat.reduceLeDiff, reduceIte, ↓reduceIte, Nat.reduceEqDiff, Nat.reduceAdd, Nat.reduceMul, Nat.reduceSub, Int.reduceLE, Int.reduceLT, Int.reduceNeg, Int.reduceToNat, Int.toNat_natCast, hsl, hp])
      refine VcLoop.intro (fun x : Nat × RS => ⟨137, [(11, .int .i64 (x.1 : Nat)), (10, .own 3), (24, .int .i64 (i : Nat)), (23, .int .i64 (w * h : Nat)), (8, .own 2), (7, .own 1), (3, .ptr 0 0), (1, .bool ink), (2, .bool cor)], [(0, .box 24 [.int .i64 w, .int .i64 h, .ro (.bools p)]), (1, .row 4 (.bools x.2.seen)), (2, .row 53 (.objs 1 (D.map gAv))), (3, .row 3 (.ints .i64 x.2.l))], 4⟩) (fun x => x.1 ≤ x.2.l.length ∧ RInv g.ok (w * h) c0 x.2 ∧ bfs (pix g) (w * h - x.1) x.1 x.2 = F) (fun x => w * h - x.1) (0, ⟨seen.set i true, [(i : Int)]⟩) ?_ ⟨Nat.zero_le _, hI, hF⟩ fun x hx => ?_
      · refine Ent.auto0 rfl ?_ ?_ <;> simp only [go_sem, reduceCtorEq, reduceIte, Nat.reduceEqDiff, Nat.reduceLT, Nat.reduceLeDiff, Int.natCast_succ]
      obtain ⟨k, s⟩ := x
      obtain ⟨hk, hI, hF⟩ := hx
      dsimp only at hk hI hF ⊢
      have hll := hI.le
      have hDl : D.length ≤ w * h := by
        rw [← hD, List.length_append] at hRl
        omega
      by_cases hlk : k < s.l.length
      · obtain ⟨hb1, hb2⟩ := hI.bd _ (getD_mem hlk)
        obtain ⟨m2, hm2⟩ : ∃ m2, w * h - k = m2 + 1 := ⟨w * h - k - 1, by omega⟩
        have hm2' : w * h - (k + 1) = m2 := by omega
        rw [hm2, bfs_step _ hlk] at hF
        obtain ⟨c, hc⟩ : ∃ c : Nat, s.l.getD k 0 = c := ⟨(s.l.getD k 0).toNat, by omega⟩
        rw [hc] at hF hb2
        obtain ⟨⟨_, hx2⟩, _, hy2⟩ := xy_bd (g := g) (c := c) (by omega) (by subst hg; exact hb2)
        have hgw : g.w = w := by subst hg; rfl
        have hgh : g.h = h := by subst hg; rfl
        rw [hgw] at hx2 hy2
        rw [hgh] at hy2
        have ex : (c : Int) % (w : Int) = ((c % w : Nat) : Int) := rfl
        have ey : (c : Int) / (w : Int) = ((c / w : Nat) : Int) := rfl
        rw [ex] at hx2
        rw [ey] at hy2
        generalize hQ : pix g s (c : Int) = Q at *
        unfold pix at hQ
        rw [hgw, hgh, ex, ey] at hQ
        generalize hx0 : c % w = x at *
        generalize hy0 : c / w = y at *
        (repeat' first | with_reducible (first | refine Asm.intro fun _ => ?_ | refine Chk.g ?_ | refine AnyI.i64 fun _ _ => ?_ | refine LetW.g ?_ | refine LetW.h ?_ | refine Ite.t fun _ => ?_ | refine Ite.f fun _ => ?_ | refine Ite.decide (fun _ => ?_) fun _ => ?_ | refine Ite.bool (fun _ => ?_) fun _ => ?_ | refine And.intro ?_ ?_) | omega | simp (maxSteps := 1000000) only [go_sem, reduceCtorEq, Nat.reduceLT, Nat.reduceLeDiff, reduceIte, ↓reduceIte, Nat.reduceEqDiff, Nat.reduceAdd, Nat.reduceMul, Nat.reduceSub, Int.reduceLE, Int.reduceLT, Int.reduceNeg, Int.reduceToNat, Int.toNat_natCast])
        refine VcDraw.lex [] [] (by kernel_rfl) (by kernel_rfl) ?_
        (repeat' first | with_reducible (first | refine Asm.intro fun _ => ?_ | refine Chk.g ?_ | refine AnyI.i64 fun _ _ => ?_ | refine LetW.g ?_ | refine LetW.h ?_ | refine Ite.t fun _ => ?_ | refine Ite.f fun _ => ?_ | refine Ite.decide (fun _ => ?_) fun _ => ?_ | refine Ite.bool (fun _ => ?_) fun _ => ?_ | refine And.intro ?_ ?_) | omega | simp (maxSteps := 1000000) only [go_sem, reduceCtorEq, Nat.reduceLT, Nat.reduceLeDiff, reduceIte, ↓reduceIte, Nat.reduceEqDiff, Nat.reduceAdd, Nat.reduceMul, Nat.reduceSub, Int.reduceLE, Int.reduceLT, Int.reduceNeg, Int.reduceToNat, Int.toNat_natCast, hc, up_tmod, up_tdiv, minmax, hx0, hy0])
        have ha1 : lo3 (y : Int) = max ((y : Int) - 1) 0 := rfl
        have ha2 : hi3 (y : Int) h = min ((y : Int) + 1) ((h : Int) - 1) := rfl
        have ha3 : lo3 (x : Int) = max ((x : Int) - 1) 0 := rfl
        have ha4 : hi3 (x : Int) w = min ((x : Int) + 1) ((w : Int) - 1) := rfl
        refine VcLoop.intro (fun z : Int × RS => ⟨137, [(14, .int .i64 z.1), (13, .int .i64 (y : Nat)), (12, .int .i64 (x : Nat)), (11, .int .i64 (k : Nat)), (10, .own 3), (24, .int .i64 (i : Nat)), (23, .int .i64 (w * h : Nat)), (8, .own 2), (7, .own 1), (3, .ptr 0 0), (1, .bool ink), (2, .bool cor)], [(0, .box 24 [.int .i64 w, .int .i64 h, .ro (.bools p)]), (1, .row 4 (.bools z.2.seen)), (2, .row 53 (.objs 1 (D.map gAv))), (3, .row 3 (.ints .i64 z.2.l))], 4⟩) (fun z => lo3 y ≤ z.1 ∧ z.1 ≤ hi3 y h + 1 ∧ RInv g.ok (w * h) c0 z.2 ∧ k < z.2.l.length ∧ (rng z.1 (hi3 y h + 1 - z.1).toNat).foldl (RS.row g x y (rng3 x w)) z.2 = Q) (fun z => (hi3 y h + 1 - z.1).toNat) (lo3 y, s) ?_ ⟨by dsimp only; omega, by dsimp only; omega, hI, hlk, hQ⟩ fun z hz => ?_
        · refine Ent.auto0 rfl ?_ ?_ <;> simp only [go_sem, reduceCtorEq, reduceIte, Nat.reduceEqDiff, Nat.reduceLT, Nat.reduceLeDiff, Int.natCast_succ, ha1]
        obtain ⟨v, t⟩ := z
        obtain ⟨hv1, hv2, hIt, hkt, hrest⟩ := hz
        dsimp only at hv1 hv2 hIt hkt hrest ⊢
        have hlt2 := hIt.le
        by_cases hv : v ≤ hi3 y h
        · obtain ⟨m3, hm3⟩ : ∃ m3, (hi3 y h + 1 - v).toNat = m3 + 1 := ⟨(hi3 y h + 1 - v).toNat - 1, by omega⟩
          have hm3' : (hi3 y h + 1 - (v + 1)).toNat = m3 := by omega
          rw [hm3] at hrest
          simp only [rng, List.foldl_cons] at hrest
          have hv0 : 0 ≤ v ∧ v < (h : Int) := by omega
          have hvw0 : 0 ≤ v * (w : Int) := Int.mul_nonneg hv0.1 (by omega)
          have hvw1 : v * (w : Int) ≤ 1000 * 1000 := Int.mul_le_mul (by omega) (by omega) (by omega) (by omega)
          obtain ⟨hI3, hL3⟩ := row_inv (g := g) (s := t) (c0 := c0) (x := x) (y := y) (v := v) (us := rng3 x w) (by rw [hgw, hgh]; exact hIt) (fun u hu => by rw [hgw]; exact rng3_mem hu) (by rw [hgh]; exact hv0)
          rw [hgw, hgh] at hI3
          have hl3 := hL3.len
          generalize hQ2 : RS.row g x y (rng3 x w) t v = Q2 at *
          unfold RS.row at hQ2
          (repeat' first | with_reducible (first | refine Asm.intro fun _ => ?_ | refine Chk.g ?_ | refine AnyI.i64 fun _ _ => ?_ | refine LetW.g ?_ | refine LetW.h ?_ | refine Ite.t fun _ => ?_ | refine Ite.f fun _ => ?_ | refine Ite.decide (fun _ => ?_) fun _ => ?_ | refine Ite.bool (fun _ => ?_) fun _ => ?_ | refine And.intro ?_ ?_) | omega | simp (maxSteps := 1000000) only [go_sem, reduceCtorEq, Nat.reduceLT, Nat.reduceLeDiff, reduceIte, ↓reduceIte, Nat.reduceEqDiff, Nat.reduceAdd, Nat.reduceMul, Nat.reduceSub, Int.reduceLE, Int.reduceLT, Int.reduceNeg, Int.reduceToNat, Int.toNat_natCast, minmax])
          refine VcLoop.intro (fun z : Int × RS => ⟨137, [(15, .int .i64 z.1), (14, .int .i64 v), (13, .int .i64 (y : Nat)), (12, .int .i64 (x : Nat)), (11, .int .i64 (k : Nat)), (10, .own 3), (24, .int .i64 (i : Nat)), (23, .int .i64 (w * h : Nat)), (8, .own 2), (7, .own 1), (3, .ptr 0 0), (1, .bool ink), (2, .bool cor)], [(0, .box 24 [.int .i64 w, .int .i64 h, .ro (.bools p)]), (1, .row 4 (.bools z.2.seen)), (2, .row 53 (.objs 1 (D.map gAv))), (3, .row 3 (.ints .i64 z.2.l))], 4⟩) (fun z => lo3 x ≤ z.1 ∧ z.1 ≤ hi3 x w + 1 ∧ RInv g.ok (w * h) c0 z.2 ∧ (rng z.1 (hi3 x w + 1 - z.1).toNat).foldl (RS.pt g x y v) z.2 = Q2) (fun z => (hi3 x w + 1 - z.1).toNat) (lo3 x, t) ?_ ⟨by dsimp only; omega, by dsimp only; omega, hIt, hQ2⟩ fun z hz => ?_
          · refine Ent.auto0 rfl ?_ ?_ <;> simp only [go_sem, reduceCtorEq, reduceIte, Nat.reduceEqDiff, Nat.reduceLT, Nat.reduceLeDiff, Int.natCast_succ, ha3]
          clear hlt2
          obtain ⟨u, t⟩ := z
          obtain ⟨hu1, hu2, hIu, hrest2⟩ := hz
          dsimp only at hu1 hu2 hIu hrest2 ⊢
          have hlu := hIu.le
          have hsu := hIu.len
          by_cases hu : u ≤ hi3 x w
          · obtain ⟨m4, hm4⟩ : ∃ m4, (hi3 x w + 1 - u).toNat = m4 + 1 := ⟨(hi3 x w + 1 - u).toNat - 1, by omega⟩
            have hm4' : (hi3 x w + 1 - (u + 1)).toNat = m4 := by omega
            rw [hm4] at hrest2
            simp only [rng, List.foldl_cons] at hrest2
            have hu0 : 0 ≤ u ∧ u < (w : Int) := by omega
            obtain ⟨hc1, hc2, hc3⟩ := cell_lt hu0 hv0
            have hI4 := (hpt c0 t x y v u hIu hu0 hv0).1
            obtain ⟨q, hq⟩ : ∃ q : Nat, v * (w : Int) + u = q := ⟨(v * (w : Int) + u).toNat, by omega⟩
            have hqn : q < w * h := by omega
            have hRS : RS.pt g x y v t u = if cor = false ∧ u ≠ x ∧ v ≠ y then t else t.vis g.ok q := by
              unfold RS.pt
              rw [hgw, hq, Int.toNat_natCast]
              subst hg
              rfl
            have hokq : g.ok q = (p.getD q false == ink) := by subst hg; rfl
            rw [hRS] at hI4 hrest2
            unfold RS.vis at hI4 hrest2
            rw [hokq] at hI4 hrest2
            (repeat' first | with_reducible (first | refine Asm.intro fun _ => ?_ | refine Chk.g ?_ | refine AnyI.i64 fun _ _ => ?_ | refine LetW.g ?_ | refine LetW.h ?_ | refine Ite.t fun _ => ?_ | refine Ite.f fun _ => ?_ | refine Ite.decide (fun _ => ?_) fun _ => ?_ | refine Ite.bool (fun _ => ?_) fun _ => ?_ | refine And.intro ?_ ?_) | omega | simp (maxSteps := 1000000) only [go_sem, reduceCtorEq, Nat.reduceLT, Nat.reduceLeDiff, reduceIte, ↓reduceIte, Nat.reduceEqDiff, Nat.reduceAdd, Nat.reduceMul, Nat.reduceSub, Int.reduceLE, Int.reduceLT, Int.reduceNeg, Int.reduceToNat, Int.toNat_natCast, minmax, hq, hp])
            refine Chk.g (Chk.g (Chk.g (Ite.bool (fun hc => ?_) (fun hc => ?_)) (fun h => ⟨h, fun h2 => ⟨h, h2⟩⟩)) (fun h => ⟨h, fun h2 => ⟨h, h2⟩⟩)) (fun h => ⟨h, by omega⟩)
            · have e : (if cor = false ∧ u ≠ x ∧ v ≠ y then t else if t.seen.getD q false = true ∨ (p.getD q false == ink) = false then t else ⟨t.seen.set q true, t.l ++ [(q : Int)]⟩) = t := by
                rcases pt_t hc with h1 | h1
                · exact if_pos h1
                · rw [if_pos h1, ite_self]
              rw [e] at hI4 hrest2
              (repeat' first | with_reducible (first | refine Asm.intro fun _ => ?_ | refine Chk.g ?_ | refine AnyI.i64 fun _ _ => ?_ | refine LetW.g ?_ | refine LetW.h ?_ | refine Ite.t fun _ => ?_ | refine Ite.f fun _ => ?_ | refine Ite.decide (fun _ => ?_) fun _ => ?_ | refine Ite.bool (fun _ => ?_) fun _ => ?_ | refine And.intro ?_ ?_) | omega | simp (maxSteps := 1000000) only [go_sem, reduceCtorEq, Nat.reduceLT, Nat.reduceLeDiff, reduceIte, ↓reduceIte, Nat.reduceEqDiff, Nat.reduceAdd, Nat.reduceMul, Nat.reduceSub, Int.reduceLE, Int.reduceLT, Int.reduceNeg, Int.reduceToNat, Int.toNat_natCast, minmax, hq, hp])
              refine ⟨(u + 1, t), Ent.auto0 rfl ?_ ?_, ⟨by dsimp only; omega, by dsimp only; omega, hI4, by dsimp only; rw [hm4']; exact hrest2⟩, by dsimp only; omega⟩ <;> simp only [go_sem, reduceCtorEq, reduceIte, Nat.reduceEqDiff, Nat.reduceLT, Nat.reduceLeDiff, Int.natCast_succ]
            · obtain ⟨h1, h2⟩ := pt_f hc
              rw [if_neg h1, if_neg h2] at hI4 hrest2
              (repeat' first | with_reducible (first | refine Asm.intro fun _ => ?_ | refine Chk.g ?_ | refine AnyI.i64 fun _ _ => ?_ | refine LetW.g ?_ | refine LetW.h ?_ | refine Ite.t fun _ => ?_ | refine Ite.f fun _ => ?_ | refine Ite.decide (fun _ => ?_) fun _ => ?_ | refine Ite.bool (fun _ => ?_) fun _ => ?_ | refine And.intro ?_ ?_) | omega | simp (maxSteps := 1000000) only [go_sem, reduceCtorEq, Nat.reduceLT, Nat.reduceLeDiff, reduceIte, ↓reduceIte, Nat.reduceEqDiff, Nat.reduceAdd, Nat.reduceMul, Nat.reduceSub, Int.reduceLE, Int.reduceLT, Int.reduceNeg, Int.reduceToNat, Int.toNat_natCast, minmax, hq, hp, hsu])
              refine ⟨(u + 1, ⟨t.seen.set q true, t.l ++ [(q : Int)]⟩), Ent.auto0 rfl ?_ ?_, ⟨by dsimp only; omega, by dsimp only; omega, hI4, by dsimp only; rw [hm4']; exact hrest2⟩, by dsimp only; omega⟩ <;> simp only [go_sem, reduceCtorEq, reduceIte, Nat.reduceEqDiff, Nat.reduceLT, Nat.reduceLeDiff, Int.natCast_succ]
          · have eu : u = hi3 x w + 1 := by omega
            subst eu
            rw [show (hi3 (x : Int) (w : Int) + 1 - (hi3 (x : Int) (w : Int) + 1)).toNat = 0 by omega] at hrest2
            have e : t = Q2 := hrest2
            subst e
            (repeat' first | with_reducible (first | refine Asm.intro fun _ => ?_ | refine Chk.g ?_ | refine AnyI.i64 fun _ _ => ?_ | refine LetW.g ?_ | refine LetW.h ?_ | refine Ite.t fun _ => ?_ | refine Ite.f fun _ => ?_ | refine Ite.decide (fun _ => ?_) fun _ => ?_ | refine Ite.bool (fun _ => ?_) fun _ => ?_ | refine And.intro ?_ ?_) | omega | simp (maxSteps := 1000000) only [go_sem, reduceCtorEq, Nat.reduceLT, Nat.reduceLeDiff, reduceIte, ↓reduceIte, Nat.reduceEqDiff, Nat.reduceAdd, Nat.reduceMul, Nat.reduceSub, Int.reduceLE, Int.reduceLT, Int.reduceNeg, Int.reduceToNat, Int.toNat_natCast, minmax])
            refine ⟨(v + 1, t), Ent.auto0 rfl ?_ ?_, ⟨by dsimp only; omega, by dsimp only; omega, hI3, by dsimp only; omega, by dsimp only; rw [hm3']; exact hrest⟩, by dsimp only; omega⟩ <;> simp only [go_sem, reduceCtorEq, reduceIte, Nat.reduceEqDiff, Nat.reduceLT, Nat.reduceLeDiff, Int.natCast_succ]
        · have ev : v = hi3 y h + 1 := by omega
          subst ev
          rw [show (hi3 (y : Int) (h : Int) + 1 - (hi3 (y : Int) (h : Int) + 1)).toNat = 0 by omega] at hrest
          have e : t = Q := hrest
          subst e
          (repeat' first | with_reducible (first | refine Asm.intro fun _ => ?_ | refine Chk.g ?_ | refine AnyI.i64 fun _ _ => ?_ | refine LetW.g ?_ | refine LetW.h ?_ | refine Ite.t fun _ => ?_ | refine Ite.f fun _ => ?_ | refine Ite.decide (fun _ => ?_) fun _ => ?_ | refine Ite.bool (fun _ => ?_) fun _ => ?_ | refine And.intro ?_ ?_) | omega | simp (maxSteps := 1000000) only [go_sem, reduceCtorEq, Nat.reduceLT, Nat.reduceLeDiff, reduceIte, ↓reduceIte, Nat.reduceEqDiff, Nat.reduceAdd, Nat.reduceMul, Nat.reduceSub, Int.reduceLE, Int.reduceLT, Int.reduceNeg, Int.reduceToNat, Int.toNat_natCast, minmax])
          refine ⟨(k + 1, t), Ent.auto0 rfl ?_ ?_, ⟨by dsimp only; omega, hIt, by dsimp only; rw [hm2']; exact hF⟩, by dsimp only; omega⟩ <;> simp only [go_sem, reduceCtorEq, reduceIte, Nat.reduceEqDiff, Nat.reduceLT, Nat.reduceLeDiff, Int.natCast_succ]
      · have e : F = s := by rw [← hF, bfs_end _ _ _ _ hlk]
        subst e
        (repeat' first | with_reducible (first | refine Asm.intro fun _ => ?_ | refine Chk.g ?_ | refine AnyI.i64 fun _ _ => ?_ | refine LetW.g ?_ | refine LetW.h ?_ | refine Ite.t fun _ => ?_ | refine Ite.f fun _ => ?_ | refine Ite.decide (fun _ => ?_) fun _ => ?_ | refine Ite.bool (fun _ => ?_) fun _ => ?_ | refine And.intro ?_ ?_) | omega | simp (maxSteps := 1000000) only [go_sem, reduceCtorEq, Nat.reduceLT, Nat.reduceLeDiff, reduceIte, ↓reduceIte, Nat.reduceEqDiff, Nat.reduceAdd, Nat.reduceMul, Nat.reduceSub, Int.reduceLE, Int.reduceLT, Int.reduceNeg, Int.reduceToNat])
        refine ⟨(i + 1, F.seen, D ++ [F.l]), Ent.auto0 rfl ?_ ?_, ⟨by omega, hS2, by dsimp only; rw [hm', List.append_assoc]; exact hD⟩, by dsimp only; omega⟩ <;> simp only [go_sem, reduceCtorEq, reduceIte, Nat.reduceEqDiff, Nat.reduceLT, Nat.reduceLeDiff, Int.natCast_succ, List.map_append, gAv]
  · have e : i = w * h := by omega
    subst e
    rw [Nat.sub_self] at hD
    simp only [regs, List.append_nil] at hD
    subst hD
    (repeat' first | with_reducible (first | refine Asm.intro fun _ => ?_ | refine Chk.g ?_ | refine AnyI.i64 fun _ _ => ?_ | refine LetW.g ?_ | refine LetW.h ?_ | refine Ite.t fun _ => ?_ | refine Ite.f fun _ => ?_ | refine Ite.decide (fun _ => ?_) fun _ => ?_ | refine Ite.bool (fun _ => ?_) fun _ => ?_ | refine And.intro ?_ ?_) | omega | simp (maxSteps := 1000000) only [go_sem, reduceCtorEq, Nat.reduceLT, Nat.reduceLeDiff, reduceIte, ↓reduceIte, Nat.reduceEqDiff, Nat.reduceAdd, Nat.reduceMul, Nat.reduceSub, Int.reduceLE, Int.reduceLT, Int.reduceNeg, Int.reduceToNat])
    refine Ret.auto 1 ?_ rfl ?_ <;> simp only [go_sem, reduceCtorEq, reduceIte, Nat.reduceEqDiff, Nat.reduceLT, Nat.reduceLeDiff, Int.natCast_succ, Post]
end Go.Fv.M

/- Pixels of regions that are chosen change their colour, in plain words. -/
namespace Go.Fv.M
open Go
set_option linter.unusedSimpArgs false
set_option linter.unusedVariables false
set_option maxRecDepth 8000

def chg (v : Bool) (p : List Bool) (l : List Int) : List Bool := l.foldl (fun p i => p.set i.toNat v) p
theorem chg_snoc (v : Bool) (p : List Bool) (l : List Int) (i : Int) : chg v p (l ++ [i]) = (chg v p l).set i.toNat v := by simp [chg]
theorem chg_len (v : Bool) : ∀ (l : List Int) (p : List Bool), (chg v p l).length = p.length
  | [], p => rfl
  | i :: l, p => by
    show (chg v (p.set i.toNat v) l).length = _
    rw [chg_len v l, List.length_set]
theorem chg_get (v : Bool) : ∀ (l : List Int) (p : List Bool), (∀ i, i ∈ l → 0 ≤ i) → ∀ j : Nat, j < p.length → (chg v p l).getD j false = if (j : Int) ∈ l then v else p.getD j false
  | [], p, _, j, _ => by simp [chg]
  | i :: l, p, h, j, hj => by
    show (chg v (p.set i.toNat v) l).getD j false = _
    rw [chg_get v l _ (fun x hx => h x (List.mem_cons_of_mem _ hx)) j (by rw [List.length_set]; exact hj)]
    have h0 := h i (List.mem_cons_self)
    by_cases e : (j : Int) ∈ l
    · rw [if_pos e, if_pos (List.mem_cons_of_mem _ e)]
    · rw [if_neg e]
      by_cases e2 : (j : Int) = i
      · subst e2
        rw [if_pos (List.mem_cons_self), Int.toNat_natCast]
        simp [List.getD_eq_getElem?_getD, hj]
      · rw [if_neg (by rw [List.mem_cons]; rintro (h | h); exact e2 h; exact e h)]
        have hne : i.toNat ≠ j := by omega
        rw [List.getD_eq_getElem?_getD, List.getElem?_set_ne hne, ← List.getD_eq_getElem?_getD]
theorem chg_mem (v : Bool) {l l' : List Int} (h : ∀ x, x ∈ l ↔ x ∈ l') (h0 : ∀ i, i ∈ l → 0 ≤ i) (p : List Bool) : chg v p l = chg v p l' := by
  refine eq_of_bools (by rw [chg_len, chg_len]) fun j => ?_
  by_cases hj : j < p.length
  · rw [chg_get v l p h0 j hj, chg_get v l' p (fun i hi => h0 i ((h i).2 hi)) j hj]
    simp only [h]
  · rw [List.getD_eq_getElem?_getD, List.getD_eq_getElem?_getD, List.getElem?_eq_none (by rw [chg_len]; omega), List.getElem?_eq_none (by rw [chg_len]; omega)]
structure CS where
  p : List Bool
  n : Nat
def CS.step (v : Bool) (sel : List Int → Bool) (s : CS) (l : List Int) : CS := if sel l = true then ⟨chg v s.p l, s.n + 1⟩ else s
def chgAll (v : Bool) (sel : List Int → Bool) (p : List Bool) (R : List (List Int)) : CS := R.foldl (CS.step v sel) ⟨p, 0⟩
theorem chgAll_snoc (v : Bool) (sel : List Int → Bool) (p : List Bool) (R : List (List Int)) (l : List Int) : chgAll v sel p (R ++ [l]) = CS.step v sel (chgAll v sel p R) l := by simp [chgAll]
theorem chgAll_len (v : Bool) (sel : List Int → Bool) (p : List Bool) (R : List (List Int)) : (chgAll v sel p R).p.length = p.length ∧ (chgAll v sel p R).n ≤ R.length := by
  unfold chgAll
  have key : ∀ (R : List (List Int)) (s : CS), (R.foldl (CS.step v sel) s).p.length = s.p.length ∧ (R.foldl (CS.step v sel) s).n ≤ s.n + R.length := by
    intro R
    induction R with
    | nil => intro s; exact ⟨rfl, Nat.le_refl _⟩
    | cons l R ih =>
      intro s
      obtain ⟨h1, h2⟩ := ih (CS.step v sel s l)
      have h3 : (CS.step v sel s l).p.length = s.p.length ∧ (CS.step v sel s l).n ≤ s.n + 1 := by
        unfold CS.step
        split
        · exact ⟨chg_len _ _ _, Nat.le_refl _⟩
        · exact ⟨rfl, Nat.le_succ _⟩
      refine ⟨h1.trans h3.1, ?_⟩
      rw [List.foldl_cons, List.length_cons]
      omega
  have := key R ⟨p, 0⟩
  exact ⟨this.1, by have := this.2; simpa using this⟩
theorem fold_congr' {α β : Type} {f f' : α → β → α} : ∀ (l : List β) (s : α), (∀ s x, x ∈ l → f s x = f' s x) → l.foldl f s = l.foldl f' s
  | [], s, _ => rfl
  | x :: l, s, h => by
    rw [List.foldl_cons, List.foldl_cons, h s x (List.mem_cons_self)]
    exact fold_congr' l _ fun s y hy => h s y (List.mem_cons_of_mem _ hy)
theorem chgAll_sort (v : Bool) {sel told : List Int → Bool} (p : List Bool) {R : List (List Int)} (h0 : ∀ l, l ∈ R → ∀ i, i ∈ l → 0 ≤ i) (h : ∀ l, l ∈ R → told (sortI l) = sel l) : chgAll v told p (R.map sortI) = chgAll v sel p R := by
  unfold chgAll
  rw [List.foldl_map]
  refine fold_congr' R _ fun s l hl => ?_
  unfold CS.step
  rw [h l hl, chg_mem v (fun x => sortI_mem l x) (fun i hi => h0 l hl i ((sortI_mem l i).1 hi))]

/-! ### Which are chosen -/
def brdB (w h : Nat) (b : Bx) : Bool := decide (b.x = 0 ∨ b.y = 0 ∨ b.x + b.w = w ∨ b.y + b.h = h)
def nearB (w h : Nat) (most : Int) (b : Bx) : Bool := decide (b.x + b.w - 1 ≤ most ∨ b.y + b.h - 1 ≤ most ∨ (w : Int) - 1 - b.x ≤ most ∨ (h : Int) - 1 - b.y ≤ most)
def speckB (most : Int) (l : List Int) : Bool := decide ((l.length : Int) ≤ most)
def holeB (w h : Nat) (most : Int) (l : List Int) : Bool := decide ((l.length : Int) ≤ most) && !brdB w h (boxOf w h l)
def borderB (w h : Nat) (most : Int) (l : List Int) : Bool := brdB w h (boxOf w h l) && nearB w h most (boxOf w h l)
def awayL (w h : Nat) (k : Int) : List Int := [k % w, k / w, (w : Int) - 1 - k % w, (h : Int) - 1 - k / w]
def awayM (w h : Nat) (k : Int) : Int := min (min (min (k % w) (k / w)) ((w : Int) - 1 - k % w)) ((h : Int) - 1 - k / w)
def atBrd (w h : Nat) (l : List Int) : Bool := l.any fun k => decide (awayM w h k = 0)
def farB (w h : Nat) (most : Int) (l : List Int) (side : Nat) : Bool := l.any fun k => decide (most < (awayL w h k).getD side 0)
def sidesB (w h : Nat) (most : Int) (l : List Int) : Bool := !farB w h most l 0 || (!farB w h most l 1 || (!farB w h most l 2 || !farB w h most l 3))
theorem brd_eq {w h : Nat} {l : List Int} (hn : l ≠ []) (hb : InPg w h l) : atBrd w h l = brdB w h (boxOf w h l) := by
  obtain ⟨c, t, rfl⟩ : ∃ c t, l = c :: t := by cases l with | nil => exact absurd rfl hn | cons c t => exact ⟨c, t, rfl⟩
  have hbd := fun i hi => xy_bd' (hb i hi).1 (hb i hi).2
  generalize c :: t = l at *
  have hc : ∃ c, c ∈ l := by cases l with | nil => exact absurd rfl hn | cons c t => exact ⟨c, List.mem_cons_self⟩
  obtain ⟨c, hc⟩ := hc
  have hbc := hbd c hc
  have a1 := le_mnF (fun i => i % (w : Int)) l w
  have a2 := le_mnF (fun i => i / (w : Int)) l h
  have a3 := mxF_le (fun i => i % (w : Int)) l (-1)
  have a4 := mxF_le (fun i => i / (w : Int)) l (-1)
  rw [Bool.eq_iff_iff]
  unfold atBrd brdB boxOf
  simp only [List.any_eq_true, decide_eq_true_eq]
  change (∀ m, m ≤ leftP w l ↔ _) at a1
  change (∀ m, m ≤ topP w h l ↔ _) at a2
  change (∀ m, rightP w l ≤ m ↔ _) at a3
  change (∀ m, botP w l ≤ m ↔ _) at a4
  have l0 : 0 ≤ leftP w l := (a1 0).2 ⟨by omega, fun i hi => (hbd i hi).1.1⟩
  have t0 : 0 ≤ topP w h l := (a2 0).2 ⟨by omega, fun i hi => (hbd i hi).2.1⟩
  have r0 : rightP w l ≤ w - 1 := (a3 _).2 ⟨by omega, fun i hi => by have := (hbd i hi).1.2; (try dsimp only); omega⟩
  have b0 : botP w l ≤ h - 1 := (a4 _).2 ⟨by omega, fun i hi => by have := (hbd i hi).2.2; (try dsimp only); omega⟩
  have l1 := ((a1 _).1 (Int.le_refl _)).2
  have t1 := ((a2 _).1 (Int.le_refl _)).2
  have r1 := ((a3 _).1 (Int.le_refl _)).2
  have b1 := ((a4 _).1 (Int.le_refl _)).2
  constructor
  · rintro ⟨k, hk, he⟩
    have := hbd k hk
    have := l1 k hk
    have := t1 k hk
    have := r1 k hk
    have := b1 k hk
    unfold awayM at he
    try dsimp only at *
    omega
  · intro he
    refine Classical.byContradiction fun hno => ?_
    have hz : ∀ k, k ∈ l → awayM w h k ≠ 0 := fun k hk e => hno ⟨k, hk, e⟩
    have f1 : (1 : Int) ≤ leftP w l := (a1 1).2 ⟨by omega, fun i hi => by have := hz i hi; have := hbd i hi; unfold awayM at *; (try dsimp only); omega⟩
    have f2 : (1 : Int) ≤ topP w h l := (a2 1).2 ⟨by omega, fun i hi => by have := hz i hi; have := hbd i hi; unfold awayM at *; (try dsimp only); omega⟩
    have f3 : rightP w l ≤ w - 2 := (a3 _).2 ⟨by have := hz c hc; unfold awayM at *; omega, fun i hi => by have := hz i hi; have := hbd i hi; unfold awayM at *; (try dsimp only); omega⟩
    have f4 : botP w l ≤ h - 2 := (a4 _).2 ⟨by have := hz c hc; unfold awayM at *; omega, fun i hi => by have := hz i hi; have := hbd i hi; unfold awayM at *; (try dsimp only); omega⟩
    omega
theorem not_any (l : List Int) (f : Int → Int) (most : Int) : (!l.any fun k => decide (most < f k)) = true ↔ ∀ k, k ∈ l → f k ≤ most := by
  simp only [Bool.not_eq_true', ← Bool.not_eq_true, List.any_eq_true, decide_eq_true_eq, not_exists, not_and]
  constructor
  · intro h k hk
    have := h k hk
    omega
  · intro h k hk
    have := h k hk
    omega
theorem near_eq {w h : Nat} {l : List Int} (hn : l ≠ []) (hb : InPg w h l) {most : Int} (hm : 0 ≤ most) : sidesB w h most l = nearB w h most (boxOf w h l) := by
  have hbd := fun i hi => xy_bd' (hb i hi).1 (hb i hi).2
  have hc : ∃ c, c ∈ l := by cases l with | nil => exact absurd rfl hn | cons c t => exact ⟨c, List.mem_cons_self⟩
  obtain ⟨c, hc⟩ := hc
  have hbc := hbd c hc
  have a1 := le_mnF (fun i => i % (w : Int)) l w
  have a2 := le_mnF (fun i => i / (w : Int)) l h
  have a3 := mxF_le (fun i => i % (w : Int)) l (-1)
  have a4 := mxF_le (fun i => i / (w : Int)) l (-1)
  change (∀ m, m ≤ leftP w l ↔ _) at a1
  change (∀ m, m ≤ topP w h l ↔ _) at a2
  change (∀ m, rightP w l ≤ m ↔ _) at a3
  change (∀ m, botP w l ≤ m ↔ _) at a4
  rw [Bool.eq_iff_iff]
  unfold sidesB nearB boxOf farB
  simp only [Bool.or_eq_true, not_any, decide_eq_true_eq]
  have e0 : (∀ k, k ∈ l → (awayL w h k).getD 0 0 ≤ most) ↔ rightP w l ≤ most := by
    rw [a3]
    exact ⟨fun q => ⟨by omega, q⟩, fun q => q.2⟩
  have e1 : (∀ k, k ∈ l → (awayL w h k).getD 1 0 ≤ most) ↔ botP w l ≤ most := by
    rw [a4]
    exact ⟨fun q => ⟨by omega, q⟩, fun q => q.2⟩
  have e2 : (∀ k, k ∈ l → (awayL w h k).getD 2 0 ≤ most) ↔ (w : Int) - 1 - most ≤ leftP w l := by
    rw [a1]
    constructor
    · intro q
      refine ⟨by omega, fun i hi => ?_⟩
      have : (w : Int) - 1 - i % w ≤ most := q i hi
      (try dsimp only); omega
    · rintro ⟨_, q⟩ k hk
      have := q k hk
      show (w : Int) - 1 - k % w ≤ most
      try dsimp only at this
      omega
  have e3 : (∀ k, k ∈ l → (awayL w h k).getD 3 0 ≤ most) ↔ (h : Int) - 1 - most ≤ topP w h l := by
    rw [a2]
    constructor
    · intro q
      refine ⟨by omega, fun i hi => ?_⟩
      have : (h : Int) - 1 - i / w ≤ most := q i hi
      (try dsimp only); omega
    · rintro ⟨_, q⟩ k hk
      have := q k hk
      show (h : Int) - 1 - k / w ≤ most
      try dsimp only at this
      omega
  rw [e0, e1, e2, e3]
  omega
theorem any_mem {l l' : List Int} (h : ∀ x, x ∈ l ↔ x ∈ l') (q : Int → Bool) : l.any q = l'.any q := by
  rw [Bool.eq_iff_iff]
  simp only [List.any_eq_true, h]
theorem hole_told {w h : Nat} {l : List Int} (hn : l ≠ []) (hb : InPg w h l) (most : Int) : (decide (((sortI l).length : Int) ≤ most) && !atBrd w h (sortI l)) = holeB w h most l := by
  unfold holeB
  rw [sortI_len, ← brd_eq hn hb]
  unfold atBrd
  rw [any_mem (sortI_mem l)]
theorem border_told {w h : Nat} {l : List Int} (hn : l ≠ []) (hb : InPg w h l) {most : Int} (hm : 0 ≤ most) : (atBrd w h (sortI l) && sidesB w h most (sortI l)) = borderB w h most l := by
  unfold borderB
  rw [← brd_eq hn hb, ← near_eq hn hb hm]
  unfold atBrd sidesB farB
  simp only [any_mem (sortI_mem l)]
end Go.Fv.M

namespace Go.Fv.M
set_option linter.unusedSimpArgs false
set_option linter.unusedVariables false

theorem set_range {α : Type} {n i : Nat} (q : Nat → α) (d : α) (h : i < n) : ((List.range i).map q ++ List.replicate (n - i) d).set i (q i) = (List.range (i + 1)).map q ++ List.replicate (n - (i + 1)) d := by
  have e : n - i = (n - (i + 1)) + 1 := by omega
  rw [e, List.replicate_succ, List.set_append_right _ _ (by simp), List.range_succ, List.map_append]
  simp
def sumTo (f : Nat → Int) : Nat → Int
  | 0 => 0
  | n + 1 => sumTo f n + f n
def tab (v : Nat → Int) (w x y : Nat) : Int := sumTo (fun j => sumTo (fun i => v (j * w + i)) x) y
end Go.Fv.M

namespace Go.Fv.M
open Go Go.Proofs
set_option linter.unusedSimpArgs false
set_option linter.unusedVariables false
set_option maxRecDepth 8000

theorem grayErr_ok {w h : Nat} (hw1 : 1 ≤ w) (hw : w ≤ 1000) (hh1 : 1 ≤ h) (hh : h ≤ 1000) {n : Nat} (hn : n = w * h) : grayErr w h n = 0 := by
  have hm : w * h ≤ 1000 * 1000 := Nat.mul_le_mul hw hh
  unfold grayErr
  rw [sizeErr_of (by omega) (by omega) (by omega) (by omega) (by rw [up_mul]; omega), hn, up_mul]
  simp
set_option maxHeartbeats 1000000 in
theorem bits_ok (w h : Nat) (hw : w ≤ 4000) (hh : h ≤ 4000) (f : Nat) (caps : List AV) [CapsOk caps] (q : Nat → Bool) (hq : ∀ i : Nat, i < w * h → FnFr Tryd.prog f ([.int .i64 i] ++ caps) (.bool (q i)) []) :
    FnOk Tryd.prog 97 [.int .i64 w, .int .i64 h, .fn f caps] (.agg [.int .i64 w, .int .i64 h, .own 0]) [(0, .row 4 (.bools ((List.range (w * h)).map q)))] := by
  have hwh : w * h ≤ 4000 * 4000 := Nat.mul_le_mul hw hh
  have hc : ((w : Int) * h) = ((w * h : Nat) : Int) := (Int.natCast_mul w h).symm
  generalize hn : w * h = n at hwh hc hq ⊢
  refine FnOk.of_vc Tryd.func97 rfl (by decide) (by simp [Tryd.f97]) [.cell 6 24] rfl fun w0 T0 _ => ?_
  simp only [Tryd.f97, argEnv]
  simp (maxSteps := 1000000) only [go_sem, reduceCtorEq, Nat.reduceLT, Nat.reduceLeDiff, reduceIte, ↓reduceIte, Nat.reduceEqDiff, Nat.reduceAdd, Nat.reduceMul, Nat.reduceSub, Int.reduceLE, Int.reduceLT, Int.reduceNeg, Int.reduceToNat, hc]
  (repeat' first | (with_reducible refine Asm.intro fun _ => ?_) | ((with_reducible refine Chk.intro ?_ ?_); (· first | omega | (with_reducible refine Chk.intro ?_ ?_ <;> omega) | (simp; done) | (simp; omega))) | ((with_reducible refine LetW.i64 ?_ ?_ ?_); (· omega); (· omega)) | ((with_reducible refine Ite.decide (fun _ => ?_) (fun _ => ?_)) <;> first | (exfalso; omega) | simp (maxSteps := 1000000) only [go_sem, reduceCtorEq, Nat.reduceLT, Nat.reduceLeDiff, reduceIte, ↓reduceIte, Nat.reduceEqDiff, Nat.reduceAdd, Nat.reduceMul, Nat.reduceSub, Int.reduceLE, Int.reduceLT, Int.reduceNeg, Int.reduceToNat]) | ((with_reducible refine Ite.bool (fun _ => ?_) (fun _ => ?_)) <;> simp (maxSteps := 1000000) only [go_sem, reduceCtorEq, Nat.reduceLT, Nat.reduceLeDiff, reduceIte, ↓reduceIte, Nat.reduceEqDiff, Nat.reduceAdd, Nat.reduceMul, Nat.reduceSub, Int.reduceLE, Int.reduceLT, Int.reduceNeg, Int.reduceToNat]) | (with_reducible refine And.intro ?_ ?_))
  refine VcLoop.intro (fun i : Nat => ⟨31, [(19, .int .i64 i), (18, .int .i64 n), (7, .ptr 2 0), (6, .ptr 0 0), (2, .fn f caps)], [(2, .box 24 [.int .i64 w, .int .i64 h, .own 1]), (0, .box 24 [.int .i64 0, .int .i64 0, .nilS]), (1, .row 4 (.bools ((List.range i).map q ++ List.replicate (n - i) false)))], 3⟩) (fun i => i ≤ n) (fun i => n - i) 0 ?_ (Nat.zero_le _) fun i hi => ?_
  · refine Ent.auto0 rfl ?_ ?_ <;> simp only [go_sem, reduceCtorEq, reduceIte, Nat.reduceEqDiff, Nat.reduceLT, Nat.reduceLeDiff, Int.natCast_succ, zrow, List.range_zero, List.map_nil, Nat.sub_zero, Int.toNat_natCast]
  simp (maxSteps := 1000000) only [go_sem, reduceCtorEq, Nat.reduceLT, Nat.reduceLeDiff, reduceIte, ↓reduceIte, Nat.reduceEqDiff, Nat.reduceAdd, Nat.reduceMul, Nat.reduceSub, Int.reduceLE, Int.reduceLT, Int.reduceNeg, Int.reduceToNat]
  (repeat' first | (with_reducible refine Asm.intro fun _ => ?_) | ((with_reducible refine Chk.intro ?_ ?_); (· first | omega | (with_reducible refine Chk.intro ?_ ?_ <;> omega) | (simp; done) | (simp; omega))) | ((with_reducible refine LetW.i64 ?_ ?_ ?_); (· omega); (· omega)) | ((with_reducible refine Ite.decide (fun _ => ?_) (fun _ => ?_)) <;> first | (exfalso; omega) | simp (maxSteps := 1000000) only [go_sem, reduceCtorEq, Nat.reduceLT, Nat.reduceLeDiff, reduceIte, ↓reduceIte, Nat.reduceEqDiff, Nat.reduceAdd, Nat.reduceMul, Nat.reduceSub, Int.reduceLE, Int.reduceLT, Int.reduceNeg, Int.reduceToNat]) | ((with_reducible refine Ite.bool (fun _ => ?_) (fun _ => ?_)) <;> simp (maxSteps := 1000000) only [go_sem, reduceCtorEq, Nat.reduceLT, Nat.reduceLeDiff, reduceIte, ↓reduceIte, Nat.reduceEqDiff, Nat.reduceAdd, Nat.reduceMul, Nat.reduceSub, Int.reduceLE, Int.reduceLT, Int.reduceNeg, Int.reduceToNat]) | (with_reducible refine And.intro ?_ ?_))
  · refine VcDraw.lex [7] [] (by kernel_rfl) (by kernel_rfl) ?_
    simp (maxSteps := 1000000) only [go_sem, reduceCtorEq, Nat.reduceLT, Nat.reduceLeDiff, reduceIte, ↓reduceIte, Nat.reduceEqDiff, Nat.reduceAdd, Nat.reduceMul, Nat.reduceSub, Int.reduceLE, Int.reduceLT, Int.reduceNeg, Int.reduceToNat]
    (repeat' first | (with_reducible refine Asm.intro fun _ => ?_) | ((with_reducible refine Chk.intro ?_ ?_); (· first | omega | (with_reducible refine Chk.intro ?_ ?_ <;> omega) | (simp; done) | (simp; omega))) | ((with_reducible refine LetW.i64 ?_ ?_ ?_); (· omega); (· omega)) | ((with_reducible refine Ite.decide (fun _ => ?_) (fun _ => ?_)) <;> first | (exfalso; omega) | simp (maxSteps := 1000000) only [go_sem, reduceCtorEq, Nat.reduceLT, Nat.reduceLeDiff, reduceIte, ↓reduceIte, Nat.reduceEqDiff, Nat.reduceAdd, Nat.reduceMul, Nat.reduceSub, Int.reduceLE, Int.reduceLT, Int.reduceNeg, Int.reduceToNat]) | ((with_reducible refine Ite.bool (fun _ => ?_) (fun _ => ?_)) <;> simp (maxSteps := 1000000) only [go_sem, reduceCtorEq, Nat.reduceLT, Nat.reduceLeDiff, reduceIte, ↓reduceIte, Nat.reduceEqDiff, Nat.reduceAdd, Nat.reduceMul, Nat.reduceSub, Int.reduceLE, Int.reduceLT, Int.reduceNeg, Int.reduceToNat]) | (with_reducible refine And.intro ?_ ?_))
    refine QV.intro (.bool (q i)) ?_ ?_
    · simp (maxSteps := 1000000) only [go_sem, reduceCtorEq, Nat.reduceLT, Nat.reduceLeDiff, reduceIte, ↓reduceIte, Nat.reduceEqDiff, Nat.reduceAdd, Nat.reduceMul, Nat.reduceSub, Int.reduceLE, Int.reduceLT, Int.reduceNeg, Int.reduceToNat]
      refine VcCall.fr (args' := [.int .i64 i] ++ caps) (hq i (by omega)) (by simp [argOkL, allOk, argOkN, allOk_caps]) 0 rfl (by simp [rowsB]) ?_
      simp (maxSteps := 1000000) only [go_sem, reduceCtorEq, Nat.reduceLT, Nat.reduceLeDiff, reduceIte, ↓reduceIte, Nat.reduceEqDiff, Nat.reduceAdd, Nat.reduceMul, Nat.reduceSub, Int.reduceLE, Int.reduceLT, Int.reduceNeg, Int.reduceToNat]
    · have hs := set_range (n := n) q false (show i < n by omega)
      simp (maxSteps := 1000000) only [go_sem, reduceCtorEq, Nat.reduceLT, Nat.reduceLeDiff, reduceIte, ↓reduceIte, Nat.reduceEqDiff, Nat.reduceAdd, Nat.reduceMul, Nat.reduceSub, Int.reduceLE, Int.reduceLT, Int.reduceNeg, Int.reduceToNat, List.length_map, List.length_range, hs]
      (repeat' first | (with_reducible refine Asm.intro fun _ => ?_) | ((with_reducible refine Chk.intro ?_ ?_); (· first | omega | (with_reducible refine Chk.intro ?_ ?_ <;> omega) | (simp; done) | (simp; omega))) | ((with_reducible refine LetW.i64 ?_ ?_ ?_); (· omega); (· omega)) | ((with_reducible refine Ite.decide (fun _ => ?_) (fun _ => ?_)) <;> first | (exfalso; omega) | simp (maxSteps := 1000000) only [go_sem, reduceCtorEq, Nat.reduceLT, Nat.reduceLeDiff, reduceIte, ↓reduceIte, Nat.reduceEqDiff, Nat.reduceAdd, Nat.reduceMul, Nat.reduceSub, Int.reduceLE, Int.reduceLT, Int.reduceNeg, Int.reduceToNat]) | ((with_reducible refine Ite.bool (fun _ => ?_) (fun _ => ?_)) <;> simp (maxSteps := 1000000) only [go_sem, reduceCtorEq, Nat.reduceLT, Nat.reduceLeDiff, reduceIte, ↓reduceIte, Nat.reduceEqDiff, Nat.reduceAdd, Nat.reduceMul, Nat.reduceSub, Int.reduceLE, Int.reduceLT, Int.reduceNeg, Int.reduceToNat]) | (with_reducible refine And.intro ?_ ?_))
      refine ⟨i + 1, Ent.auto0 rfl ?_ ?_, by omega, by omega⟩ <;> simp only [go_sem, reduceCtorEq, reduceIte, Nat.reduceEqDiff, Nat.reduceLT, Nat.reduceLeDiff, Int.natCast_succ]
      all_goals first | rfl | rw [List.range_succ]
  · have e : i = n := by omega
    subst e
    refine Ret.auto 1 ?_ rfl ?_ <;> simp only [go_sem, reduceCtorEq, reduceIte, Nat.reduceEqDiff, Nat.reduceLT, Nat.reduceLeDiff, Int.natCast_succ, Post, List.drop_zero, Nat.sub_self, List.replicate_zero, List.append_nil]
    all_goals simp (maxSteps := 1000000) only [go_sem, reduceCtorEq, Nat.reduceLT, Nat.reduceLeDiff, reduceIte, ↓reduceIte, Nat.reduceEqDiff, Nat.reduceAdd, Nat.reduceMul, Nat.reduceSub, Int.reduceLE, Int.reduceLT, Int.reduceNeg, Int.reduceToNat]
end Go.Fv.M
