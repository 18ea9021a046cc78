/-
  A part of the proof of the claim: walks over the program's functions and the plain laws that these need. No condition of its own.
-/
import Derived.Test.YtingcghleidhmaaGreatDoorQLinesMatchCardPart8
import Derived.Test.YtingcghleidhmaaGreatDoorQLinesMatchCardPart1
import Derived.Test.YtingcghleidhmaaGreatDoorQLinesMatchCardPart4
import Derived.Test.YtingcghleidhmaaGreatDoorQLinesMatchCardPart7
import Derived.Test.YtingcghleidhmaaGreatDoorFvPart9
/- The reference's parts: the walk. -/
namespace Go.Fv.Q
open Go Go.Proofs
set_option linter.unusedSimpArgs false
set_option linter.unusedVariables false
set_option linter.unnecessarySimpa false
set_option maxRecDepth 8000

theorem part_t {a b k : Bool} (h : (a || decide ¬ b = k) = true) : a = true ∨ (b == k) = false := by revert h; cases a <;> cases b <;> cases k <;> simp
theorem part_f {a b k : Bool} (h : (a || decide ¬ b = k) = false) : ¬ (a = true ∨ (b == k) = false) := by revert h; cases a <;> cases b <;> cases k <;> simp
theorem mark_t {a b k : Bool} (h : (!a && decide (b = k)) = true) : ¬ (a = true ∨ (b == k) = false) := by revert h; cases a <;> cases b <;> cases k <;> simp
theorem mark_f {a b k : Bool} (h : (!a && decide (b = k)) = false) : a = true ∨ (b == k) = false := by revert h; cases a <;> cases b <;> cases k <;> simp
set_option maxHeartbeats 8000000 in
theorem parts_ok (w h : Nat) (hw1 : 1 ≤ w) (hw : w ≤ 1000) (hh1 : 1 ≤ h) (hh : h ≤ 1000) (p : List Bool) (hp : p.length = w * h) (ink : Bool) :
    FnOk Tryz.prog 74 [.agg [.int .i64 w, .int .i64 h, .ro (.bools p)], .bool ink] (.own 0) [(0, .row 64 (.objs 1 (((pieces ⟨p, w, h, ink, ink⟩).map sortI).map gAv)))] := by
  have hn : w * h ≤ 1000 * 1000 := Nat.mul_le_mul hw hh
  have hst : StepOk (Pg2.ok ⟨p, w, h, ink, ink⟩) (w * h) (pix ⟨p, w, h, ink, ink⟩) := pix_step ⟨p, w, h, ink, ink⟩
  have hRl : (pieces ⟨p, w, h, ink, ink⟩).length ≤ w * h := pieces_len ⟨p, w, h, ink, ink⟩
  have hpt : ∀ c0 s x y v u, RInv (Pg2.ok ⟨p, w, h, ink, ink⟩) (w * h) c0 s → RInv (Pg2.ok ⟨p, w, h, ink, ink⟩) (w * h) c0 (pt9 ⟨p, w, h, ink, ink⟩ x y v s u) ∧ RLe s (pt9 ⟨p, w, h, ink, ink⟩ x y v s u) :=
    fun c0 s x y v u hs => by
      unfold pt9
      split
      · rename_i ho
        exact pt_inv (g := ⟨p, w, h, ink, ink⟩) hs ⟨ho.1, ho.2.2.1⟩ ⟨ho.2.1, ho.2.2.2⟩
      · exact ⟨hs, RLe.refl s⟩
  have hrw : ∀ c0 s x y v, RInv (Pg2.ok ⟨p, w, h, ink, ink⟩) (w * h) c0 s → RInv (Pg2.ok ⟨p, w, h, ink, ink⟩) (w * h) c0 (row9 ⟨p, w, h, ink, ink⟩ x y s v) ∧ RLe s (row9 ⟨p, w, h, ink, ink⟩ x y s v) :=
    fun c0 s x y v hs => fold_inv (P := RInv (Pg2.ok ⟨p, w, h, ink, ink⟩) (w * h) c0) (R := RLe) RLe.refl (fun _ _ _ h h' => h.trans h') _ s hs fun s u hs _ => hpt c0 s x y v u hs
  generalize hg : (⟨p, w, h, ink, ink⟩ : Pg2) = g at *
  generalize hR : pieces g = R at *
  refine FnOk.of_vc Tryz.func74 rfl (by decide) (by simp [Tryz.f74]) [.tmp 4] rfl fun w0 T0 _ => ?_
  simp only [Tryz.f74, argEnv]
  (repeat' first | with_reducible (first | refine Asm.intro fun _ => ?_ | refine Chk.g ?_ | refine AnyI.i64 fun _ _ => ?_ | refine LetW.g ?_ | refine LetW.h ?_ | refine Ite.t fun _ => ?_ | refine Ite.f fun _ => ?_ | refine Ite.decide (fun _ => ?_) fun _ => ?_ | refine Ite.bool (fun _ => ?_) fun _ => ?_ | refine And.intro ?_ ?_) | omega | simp (maxSteps := 1000000) only [go_sem, reduceCtorEq, Nat.reduceLT, Nat.reduceLeDiff, reduceIte, ↓reduceIte, Nat.reduceEqDiff, Nat.reduceAdd, Nat.reduceMul, Nat.reduceSub, Int.reduceLE, Int.reduceLT, Int.reduceNeg, Int.reduceToNat, hp])
  refine VcLoop.intro (fun x : Nat × List Bool × List (List Int) => ⟨144, [(24, .int .i64 (x.1 : Nat)), (23, .int .i64 (w * h : Nat)), (6, .own 2), (5, .own 1), (2, .ptr 0 0), (1, .bool ink)], [(0, .box 24 [.int .i64 w, .int .i64 h, .ro (.bools p)]), (1, .row 4 (.bools x.2.1)), (2, .row 64 (.objs 1 ((x.2.2.map sortI).map gAv)))], 3⟩) (fun x => x.1 ≤ w * h ∧ SInv g.ok (w * h) x.1 x.2.1 ∧ x.2.2 ++ regs g.ok (pix g) (w * h) (w * h - x.1) x.1 x.2.1 = R) (fun x => w * h - x.1) (0, List.replicate (w * h) false, []) ?_ ⟨Nat.zero_le _, SInv.zero _ _, ?_⟩ fun x hx => ?_
  · refine Ent.auto0 rfl ?_ ?_ <;> simp only [go_sem, reduceCtorEq, reduceIte, Nat.reduceEqDiff, Nat.reduceLT, Nat.reduceLeDiff, Int.natCast_succ, zrow, List.map_nil, Int.toNat_natCast]
  · subst hg
    dsimp only
    rw [Nat.sub_zero, List.nil_append]
    exact hR
  obtain ⟨i, seen, D⟩ := x
  obtain ⟨hi, hS, hD⟩ := hx
  dsimp only at hi hS hD ⊢
  have hsl := hS.len
  by_cases hlt : i < w * h
  · obtain ⟨m, hm⟩ : ∃ m, w * h - i = m + 1 := ⟨w * h - i - 1, by omega⟩
    have hm' : w * h - (i + 1) = m := by omega
    have hok : g.ok i = (p.getD i false == ink) := by subst hg; rfl
    rw [hm] at hD
    simp only [regs] at hD
    (repeat' first | with_reducible (first | refine Asm.intro fun _ => ?_ | refine Chk.g ?_ | refine AnyI.i64 fun _ _ => ?_ | refine LetW.g ?_ | refine LetW.h ?_ | refine Ite.t fun _ => ?_ | refine Ite.f fun _ => ?_ | refine Ite.decide (fun _ => ?_) fun _ => ?_ | refine Ite.bool (fun _ => ?_) fun _ => ?_ | refine And.intro ?_ ?_) | omega | simp (maxSteps := 1000000) only [go_sem, reduceCtorEq, Nat.reduceLT, Nat.reduceLeDiff, reduceIte, ↓reduceIte, Nat.reduceEqDiff, Nat.reduceAdd, Nat.reduceMul, Nat.reduceSub, Int.reduceLE, Int.reduceLT, Int.reduceNeg, Int.reduceToNat, Int.toNat_natCast, hsl, hp])
    refine Chk.g ?_ (fun h => ⟨h, by omega⟩)
    refine Ite.bool (fun hc => ?_) (fun hc => ?_)
    · have hs : seen.getD i false = true ∨ g.ok i = false := by rw [hok]; exact part_t hc
      rw [if_pos hs] at hD
      (repeat' first | with_reducible (first | refine Asm.intro fun _ => ?_ | refine Chk.g ?_ | refine AnyI.i64 fun _ _ => ?_ | refine LetW.g ?_ | refine LetW.h ?_ | refine Ite.t fun _ => ?_ | refine Ite.f fun _ => ?_ | refine Ite.decide (fun _ => ?_) fun _ => ?_ | refine Ite.bool (fun _ => ?_) fun _ => ?_ | refine And.intro ?_ ?_) | omega | simp (maxSteps := 1000000) only [go_sem, reduceCtorEq, Nat.reduceLT, Nat.reduceLeDiff, reduceIte, ↓reduceIte, Nat.reduceEqDiff, Nat.reduceAdd, Nat.reduceMul, Nat.reduceSub, Int.reduceLE, Int.reduceLT, Int.reduceNeg, Int.reduceToNat])
      refine ⟨(i + 1, seen, D), Ent.auto0 rfl ?_ ?_, ⟨by omega, hS.skip hs, by dsimp only; rw [hm']; exact hD⟩, by dsimp only; omega⟩ <;> simp only [go_sem, reduceCtorEq, reduceIte, Nat.reduceEqDiff, Nat.reduceLT, Nat.reduceLeDiff, Int.natCast_succ]
    · have hs : ¬ (seen.getD i false = true ∨ g.ok i = false) := by rw [hok]; exact part_f hc
      rw [if_neg hs] at hD
      have hI := hS.start hlt hs
      obtain ⟨hS2, hO2, _⟩ := hS.region hst hlt hs (w * h)
      generalize hF : bfs (pix g) (w * h) 0 ⟨seen.set i true, [(i : Int)]⟩ = F at *
      generalize seen.count true = c0 at *
      (repeat' first | with_reducible (first | refine Asm.intro fun _ => ?_ | refine Chk.g ?_ | refine AnyI.i64 fun _ _ => ?_ | refine LetW.g ?_ | refine LetW.h ?_ | refine Ite.t fun _ => ?_ | refine Ite.f fun _ => ?_ | refine Ite.decide (fun _ => ?_) fun _ => ?_ | refine Ite.bool (fun _ => ?_) fun _ => ?_ | refine And.intro ?_ ?_) | omega | simp (maxSteps := 1000000) only [go_sem, reduceCtorEq, Nat.reduceLT, Nat.reduceLeDiff, reduceIte, ↓reduceIte, Nat.reduceEqDiff, Nat.reduceAdd, Nat.reduceMul, Nat.reduceSub, Int.reduceLE, Int.reduceLT, Int.reduceNeg, Int.reduceToNat, Int.toNat_natCast, hsl, hp])
      refine VcLoop.intro (fun x : Nat × RS => ⟨144, [(9, .int .i64 (x.1 : Nat)), (8, .own 3), (24, .int .i64 (i : Nat)), (23, .int .i64 (w * h : Nat)), (6, .own 2), (5, .own 1), (2, .ptr 0 0), (1, .bool ink)], [(0, .box 24 [.int .i64 w, .int .i64 h, .ro (.bools p)]), (1, .row 4 (.bools x.2.seen)), (2, .row 64 (.objs 1 ((D.map sortI).map gAv))), (3, .row 3 (.ints .i64 x.2.l))], 4⟩) (fun x => x.1 ≤ x.2.l.length ∧ RInv g.ok (w * h) c0 x.2 ∧ bfs (pix g) (w * h - x.1) x.1 x.2 = F) (fun x => w * h - x.1) (0, ⟨seen.set i true, [(i : Int)]⟩) ?_ ⟨Nat.zero_le _, hI, hF⟩ fun x hx => ?_
      · refine Ent.auto0 rfl ?_ ?_ <;> simp only [go_sem, reduceCtorEq, reduceIte, Nat.reduceEqDiff, Nat.reduceLT, Nat.reduceLeDiff, Int.natCast_succ]
      obtain ⟨k, s⟩ := x
      obtain ⟨hk, hI, hF⟩ := hx
      dsimp only at hk hI hF ⊢
      have hll := hI.le
      have hDl : D.length ≤ w * h := by
        rw [← hD, List.length_append] at hRl
        omega
      by_cases hlk : k < s.l.length
      · obtain ⟨hb1, hb2⟩ := hI.bd _ (getD_mem hlk)
        obtain ⟨m2, hm2⟩ : ∃ m2, w * h - k = m2 + 1 := ⟨w * h - k - 1, by omega⟩
        have hm2' : w * h - (k + 1) = m2 := by omega
        rw [hm2, bfs_step _ hlk] at hF
        obtain ⟨c, hc⟩ : ∃ c : Nat, s.l.getD k 0 = c := ⟨(s.l.getD k 0).toNat, by omega⟩
        rw [hc] at hF hb2
        have hgw : g.w = w := by subst hg; rfl
        have hgh : g.h = h := by subst hg; rfl
        rw [← pix9_eq g s (c := (c : Int)) (by omega) (by rw [hgw, hgh]; exact hb2)] at hF
        obtain ⟨⟨_, hx2⟩, _, hy2⟩ := xy_bd (g := g) (c := c) (by omega) (by subst hg; exact hb2)
        rw [hgw] at hx2 hy2
        rw [hgh] at hy2
        have ex : (c : Int) % (w : Int) = ((c % w : Nat) : Int) := rfl
        have ey : (c : Int) / (w : Int) = ((c / w : Nat) : Int) := rfl
        rw [ex] at hx2
        rw [ey] at hy2
        generalize hQ : pix9 g s (c : Int) = Q at *
        unfold pix9 at hQ
        rw [hgw, ex, ey] at hQ
        generalize hx0 : c % w = x at *
        generalize hy0 : c / w = y at *
        (repeat' first | with_reducible (first | refine Asm.intro fun _ => ?_ | refine Chk.g ?_ | refine AnyI.i64 fun _ _ => ?_ | refine LetW.g ?_ | refine LetW.h ?_ | refine Ite.t fun _ => ?_ | refine Ite.f fun _ => ?_ | refine Ite.decide (fun _ => ?_) fun _ => ?_ | refine Ite.bool (fun _ => ?_) fun _ => ?_ | refine And.intro ?_ ?_) | omega | simp (maxSteps := 1000000) only [go_sem, reduceCtorEq, Nat.reduceLT, Nat.reduceLeDiff, reduceIte, ↓reduceIte, Nat.reduceEqDiff, Nat.reduceAdd, Nat.reduceMul, Nat.reduceSub, Int.reduceLE, Int.reduceLT, Int.reduceNeg, Int.reduceToNat, Int.toNat_natCast])
        refine VcDraw.lex [] [] (by kernel_rfl) (by kernel_rfl) ?_
        (repeat' first | with_reducible (first | refine Asm.intro fun _ => ?_ | refine Chk.g ?_ | refine AnyI.i64 fun _ _ => ?_ | refine LetW.g ?_ | refine LetW.h ?_ | refine Ite.t fun _ => ?_ | refine Ite.f fun _ => ?_ | refine Ite.decide (fun _ => ?_) fun _ => ?_ | refine Ite.bool (fun _ => ?_) fun _ => ?_ | refine And.intro ?_ ?_) | omega | simp (maxSteps := 1000000) only [go_sem, reduceCtorEq, Nat.reduceLT, Nat.reduceLeDiff, reduceIte, ↓reduceIte, Nat.reduceEqDiff, Nat.reduceAdd, Nat.reduceMul, Nat.reduceSub, Int.reduceLE, Int.reduceLT, Int.reduceNeg, Int.reduceToNat, Int.toNat_natCast, hc, up_tmod, up_tdiv, minmax, hx0, hy0])
        refine VcLoop.intro (fun z : Int × RS => ⟨144, [(12, .int .i64 z.1), (11, .int .i64 (y : Nat)), (10, .int .i64 (x : Nat)), (9, .int .i64 (k : Nat)), (8, .own 3), (24, .int .i64 (i : Nat)), (23, .int .i64 (w * h : Nat)), (6, .own 2), (5, .own 1), (2, .ptr 0 0), (1, .bool ink)], [(0, .box 24 [.int .i64 w, .int .i64 h, .ro (.bools p)]), (1, .row 4 (.bools z.2.seen)), (2, .row 64 (.objs 1 ((D.map sortI).map gAv))), (3, .row 3 (.ints .i64 z.2.l))], 4⟩) (fun z => -1 ≤ z.1 ∧ z.1 ≤ 2 ∧ RInv g.ok (w * h) c0 z.2 ∧ k < z.2.l.length ∧ (rng (y + z.1) (2 - z.1).toNat).foldl (row9 g x y) z.2 = Q) (fun z => (2 - z.1).toNat) (-1, s) ?_ ⟨by dsimp only; omega, by dsimp only; omega, hI, hlk, by have h1 := hQ; rw [Int.sub_eq_add_neg] at h1; exact h1⟩ fun z hz => ?_
        · refine Ent.auto0 rfl ?_ ?_ <;> simp only [go_sem, reduceCtorEq, reduceIte, Nat.reduceEqDiff, Nat.reduceLT, Nat.reduceLeDiff, Int.natCast_succ]
        obtain ⟨dy, t⟩ := z
        obtain ⟨hv1, hv2, hIt, hkt, hrest⟩ := hz
        dsimp only at hv1 hv2 hIt hkt hrest ⊢
        have hlt2 := hIt.le
        by_cases hv : dy ≤ 1
        · obtain ⟨m3, hm3⟩ : ∃ m3, (2 - dy).toNat = m3 + 1 := ⟨(2 - dy).toNat - 1, by omega⟩
          have hm3' : (2 - (dy + 1)).toNat = m3 := by omega
          rw [hm3] at hrest
          simp only [rng, List.foldl_cons] at hrest
          obtain ⟨hI3, hL3⟩ := hrw c0 t x y (y + dy) hIt
          have hl3 := hL3.len
          generalize hQ2 : row9 g x y t (y + dy) = Q2 at *
          unfold row9 at hQ2
          (repeat' first | with_reducible (first | refine Asm.intro fun _ => ?_ | refine Chk.g ?_ | refine AnyI.i64 fun _ _ => ?_ | refine LetW.g ?_ | refine LetW.h ?_ | refine Ite.t fun _ => ?_ | refine Ite.f fun _ => ?_ | refine Ite.decide (fun _ => ?_) fun _ => ?_ | refine Ite.bool (fun _ => ?_) fun _ => ?_ | refine And.intro ?_ ?_) | omega | simp (maxSteps := 1000000) only [go_sem, reduceCtorEq, Nat.reduceLT, Nat.reduceLeDiff, reduceIte, ↓reduceIte, Nat.reduceEqDiff, Nat.reduceAdd, Nat.reduceMul, Nat.reduceSub, Int.reduceLE, Int.reduceLT, Int.reduceNeg, Int.reduceToNat, Int.toNat_natCast, minmax])
          refine VcLoop.intro (fun z : Int × RS => ⟨144, [(13, .int .i64 z.1), (12, .int .i64 dy), (11, .int .i64 (y : Nat)), (10, .int .i64 (x : Nat)), (9, .int .i64 (k : Nat)), (8, .own 3), (24, .int .i64 (i : Nat)), (23, .int .i64 (w * h : Nat)), (6, .own 2), (5, .own 1), (2, .ptr 0 0), (1, .bool ink)], [(0, .box 24 [.int .i64 w, .int .i64 h, .ro (.bools p)]), (1, .row 4 (.bools z.2.seen)), (2, .row 64 (.objs 1 ((D.map sortI).map gAv))), (3, .row 3 (.ints .i64 z.2.l))], 4⟩) (fun z => -1 ≤ z.1 ∧ z.1 ≤ 2 ∧ RInv g.ok (w * h) c0 z.2 ∧ (rng (x + z.1) (2 - z.1).toNat).foldl (pt9 g x y (y + dy)) z.2 = Q2) (fun z => (2 - z.1).toNat) (-1, t) ?_ ⟨by dsimp only; omega, by dsimp only; omega, hIt, by have h1 := hQ2; rw [Int.sub_eq_add_neg] at h1; exact h1⟩ fun z hz => ?_
          · refine Ent.auto0 rfl ?_ ?_ <;> simp only [go_sem, reduceCtorEq, reduceIte, Nat.reduceEqDiff, Nat.reduceLT, Nat.reduceLeDiff, Int.natCast_succ]
          clear hlt2
          obtain ⟨dx, t⟩ := z
          obtain ⟨hu1, hu2, hIu, hrest2⟩ := hz
          dsimp only at hu1 hu2 hIu hrest2 ⊢
          have hlu := hIu.le
          have hsu := hIu.len
          by_cases hu : dx ≤ 1
          · obtain ⟨m4, hm4⟩ : ∃ m4, (2 - dx).toNat = m4 + 1 := ⟨(2 - dx).toNat - 1, by omega⟩
            have hm4' : (2 - (dx + 1)).toNat = m4 := by omega
            rw [hm4] at hrest2
            simp only [rng, List.foldl_cons] at hrest2
            have hI4 := (hpt c0 t x y (y + dy) (x + dx) hIu).1
            have eu : (x : Int) + dx + 1 = x + (dx + 1) := by omega
            rw [eu] at hrest2
            have hRS : pt9 g x y (y + dy) t (x + dx) = if 0 ≤ (x : Int) + dx ∧ 0 ≤ (y : Int) + dy ∧ (x : Int) + dx < w ∧ (y : Int) + dy < h then (if ink = false ∧ (x : Int) + dx ≠ x ∧ (y : Int) + dy ≠ y then t else t.vis g.ok (((y : Int) + dy) * w + (x + dx)).toNat) else t := by
              unfold pt9 okAt RS.pt
              subst hg
              rfl
            rw [hRS] at hI4 hrest2
            (repeat' first | with_reducible (first | refine Asm.intro fun _ => ?_ | refine Chk.g ?_ | refine AnyI.i64 fun _ _ => ?_ | refine LetW.g ?_ | refine LetW.h ?_ | refine Ite.t fun _ => ?_ | refine Ite.f fun _ => ?_ | refine Ite.decide (fun _ => ?_) fun _ => ?_ | refine Ite.bool (fun _ => ?_) fun _ => ?_ | refine And.intro ?_ ?_) | omega | simp (maxSteps := 1000000) only [go_sem, reduceCtorEq, Nat.reduceLT, Nat.reduceLeDiff, reduceIte, ↓reduceIte, Nat.reduceEqDiff, Nat.reduceAdd, Nat.reduceMul, Nat.reduceSub, Int.reduceLE, Int.reduceLT, Int.reduceNeg, Int.reduceToNat, Int.toNat_natCast, minmax, hp])
            refine Chk.g (Chk.g (Ite.bool (fun hc => ?_) (fun hc => ?_)) (fun h => ⟨h, fun h2 => ⟨h, h2⟩⟩)) (fun h => ⟨h, fun h2 => ⟨h, h2⟩⟩)
            · have e : (if 0 ≤ (x : Int) + dx ∧ 0 ≤ (y : Int) + dy ∧ (x : Int) + dx < w ∧ (y : Int) + dy < h then (if ink = false ∧ (x : Int) + dx ≠ x ∧ (y : Int) + dy ≠ y then t else t.vis g.ok (((y : Int) + dy) * w + (x + dx)).toNat) else t) = t := by
                simp only [Bool.or_eq_true, decide_eq_true_eq, Bool.and_eq_true, Bool.not_eq_true'] at hc
                rcases hc with h1 | ⟨⟨h1, h2⟩, h3⟩
                · rw [if_neg (by omega)]
                · rw [if_pos (show ink = false ∧ (x : Int) + dx ≠ x ∧ (y : Int) + dy ≠ y from ⟨h1, by omega, by omega⟩), ite_self]
              rw [e] at hI4 hrest2
              (repeat' first | with_reducible (first | refine Asm.intro fun _ => ?_ | refine Chk.g ?_ | refine AnyI.i64 fun _ _ => ?_ | refine LetW.g ?_ | refine LetW.h ?_ | refine Ite.t fun _ => ?_ | refine Ite.f fun _ => ?_ | refine Ite.decide (fun _ => ?_) fun _ => ?_ | refine Ite.bool (fun _ => ?_) fun _ => ?_ | refine And.intro ?_ ?_) | omega | simp (maxSteps := 1000000) only [go_sem, reduceCtorEq, Nat.reduceLT, Nat.reduceLeDiff, reduceIte, ↓reduceIte, Nat.reduceEqDiff, Nat.reduceAdd, Nat.reduceMul, Nat.reduceSub, Int.reduceLE, Int.reduceLT, Int.reduceNeg, Int.reduceToNat, Int.toNat_natCast, minmax, hp])
              refine ⟨(dx + 1, t), Ent.auto0 rfl ?_ ?_, ⟨by dsimp only; omega, by dsimp only; omega, hI4, by dsimp only; rw [hm4']; exact hrest2⟩, by dsimp only; omega⟩ <;> simp only [go_sem, reduceCtorEq, reduceIte, Nat.reduceEqDiff, Nat.reduceLT, Nat.reduceLeDiff, Int.natCast_succ]
            · simp only [Bool.or_eq_false_iff, decide_eq_false_iff_not] at hc
              obtain ⟨h1, h2⟩ := hc
              have hu0 : 0 ≤ (x : Int) + dx ∧ (x : Int) + dx < w := by omega
              have hv0 : 0 ≤ (y : Int) + dy ∧ (y : Int) + dy < h := by omega
              rw [if_pos (show 0 ≤ (x : Int) + dx ∧ 0 ≤ (y : Int) + dy ∧ (x : Int) + dx < w ∧ (y : Int) + dy < h by omega), if_neg (by
                rintro ⟨k1, k2, k3⟩
                rw [k1, decide_eq_true (show ¬ dx = 0 by omega), decide_eq_true (show ¬ dy = 0 by omega)] at h2
                cases h2)] at hI4 hrest2
              obtain ⟨hc1, hc2, hc3⟩ := cell_lt hu0 hv0
              have hvw0 : 0 ≤ ((y : Int) + dy) * (w : Int) := Int.mul_nonneg hv0.1 (by omega)
              obtain ⟨q, hq⟩ : ∃ q : Nat, ((y : Int) + dy) * (w : Int) + (x + dx) = q := ⟨(((y : Int) + dy) * (w : Int) + (x + dx)).toNat, by omega⟩
              rw [hq, Int.toNat_natCast] at hI4 hrest2
              have hqn : q < w * h := by omega
              have hokq : g.ok q = (p.getD q false == ink) := by subst hg; rfl
              unfold RS.vis at hI4 hrest2
              rw [hokq] at hI4 hrest2
              (repeat' first | with_reducible (first | refine Asm.intro fun _ => ?_ | refine Chk.g ?_ | refine AnyI.i64 fun _ _ => ?_ | refine LetW.g ?_ | refine LetW.h ?_ | refine Ite.t fun _ => ?_ | refine Ite.f fun _ => ?_ | refine Ite.decide (fun _ => ?_) fun _ => ?_ | refine Ite.bool (fun _ => ?_) fun _ => ?_ | refine And.intro ?_ ?_) | omega | simp (maxSteps := 1000000) only [go_sem, reduceCtorEq, Nat.reduceLT, Nat.reduceLeDiff, reduceIte, ↓reduceIte, Nat.reduceEqDiff, Nat.reduceAdd, Nat.reduceMul, Nat.reduceSub, Int.reduceLE, Int.reduceLT, Int.reduceNeg, Int.reduceToNat, Int.toNat_natCast, minmax, hp, hq])
              refine Chk.g (Ite.bool (fun hc => ?_) (fun hc => ?_)) (fun h => ⟨h, by omega⟩)
              · rw [if_neg (mark_t hc)] at hI4 hrest2
                (repeat' first | with_reducible (first | refine Asm.intro fun _ => ?_ | refine Chk.g ?_ | refine AnyI.i64 fun _ _ => ?_ | refine LetW.g ?_ | refine LetW.h ?_ | refine Ite.t fun _ => ?_ | refine Ite.f fun _ => ?_ | refine Ite.decide (fun _ => ?_) fun _ => ?_ | refine Ite.bool (fun _ => ?_) fun _ => ?_ | refine And.intro ?_ ?_) | omega | simp (maxSteps := 1000000) only [go_sem, reduceCtorEq, Nat.reduceLT, Nat.reduceLeDiff, reduceIte, ↓reduceIte, Nat.reduceEqDiff, Nat.reduceAdd, Nat.reduceMul, Nat.reduceSub, Int.reduceLE, Int.reduceLT, Int.reduceNeg, Int.reduceToNat, Int.toNat_natCast, minmax, hp, hq, hsu])
                refine ⟨(dx + 1, ⟨t.seen.set q true, t.l ++ [(q : Int)]⟩), Ent.auto0 rfl ?_ ?_, ⟨by dsimp only; omega, by dsimp only; omega, hI4, by dsimp only; rw [hm4']; exact hrest2⟩, by dsimp only; omega⟩ <;> simp only [go_sem, reduceCtorEq, reduceIte, Nat.reduceEqDiff, Nat.reduceLT, Nat.reduceLeDiff, Int.natCast_succ]
              · rw [if_pos (mark_f hc)] at hI4 hrest2
                (repeat' first | with_reducible (first | refine Asm.intro fun _ => ?_ | refine Chk.g ?_ | refine AnyI.i64 fun _ _ => ?_ | refine LetW.g ?_ | refine LetW.h ?_ | refine Ite.t fun _ => ?_ | refine Ite.f fun _ => ?_ | refine Ite.decide (fun _ => ?_) fun _ => ?_ | refine Ite.bool (fun _ => ?_) fun _ => ?_ | refine And.intro ?_ ?_) | omega | simp (maxSteps := 1000000) only [go_sem, reduceCtorEq, Nat.reduceLT, Nat.reduceLeDiff, reduceIte, ↓reduceIte, Nat.reduceEqDiff, Nat.reduceAdd, Nat.reduceMul, Nat.reduceSub, Int.reduceLE, Int.reduceLT, Int.reduceNeg, Int.reduceToNat, Int.toNat_natCast, minmax, hp, hq])
                refine ⟨(dx + 1, t), Ent.auto0 rfl ?_ ?_, ⟨by dsimp only; omega, by dsimp only; omega, hI4, by dsimp only; rw [hm4']; exact hrest2⟩, by dsimp only; omega⟩ <;> simp only [go_sem, reduceCtorEq, reduceIte, Nat.reduceEqDiff, Nat.reduceLT, Nat.reduceLeDiff, Int.natCast_succ]
          · have eu : dx = 2 := by omega
            subst eu
            have e : t = Q2 := hrest2
            subst e
            (repeat' first | with_reducible (first | refine Asm.intro fun _ => ?_ | refine Chk.g ?_ | refine AnyI.i64 fun _ _ => ?_ | refine LetW.g ?_ | refine LetW.h ?_ | refine Ite.t fun _ => ?_ | refine Ite.f fun _ => ?_ | refine Ite.decide (fun _ => ?_) fun _ => ?_ | refine Ite.bool (fun _ => ?_) fun _ => ?_ | refine And.intro ?_ ?_) | omega | simp (maxSteps := 1000000) only [go_sem, reduceCtorEq, Nat.reduceLT, Nat.reduceLeDiff, reduceIte, ↓reduceIte, Nat.reduceEqDiff, Nat.reduceAdd, Nat.reduceMul, Nat.reduceSub, Int.reduceLE, Int.reduceLT, Int.reduceNeg, Int.reduceToNat, Int.toNat_natCast, minmax])
            have ed : (y : Int) + dy + 1 = y + (dy + 1) := by omega
            rw [ed] at hrest
            refine ⟨(dy + 1, t), Ent.auto0 rfl ?_ ?_, ⟨by dsimp only; omega, by dsimp only; omega, hI3, by dsimp only; omega, by dsimp only; rw [hm3']; exact hrest⟩, by dsimp only; omega⟩ <;> simp only [go_sem, reduceCtorEq, reduceIte, Nat.reduceEqDiff, Nat.reduceLT, Nat.reduceLeDiff, Int.natCast_succ]
        · have ev : dy = 2 := by omega
          subst ev
          have e : t = Q := hrest
          subst e
          (repeat' first | with_reducible (first | refine Asm.intro fun _ => ?_ | refine Chk.g ?_ | refine AnyI.i64 fun _ _ => ?_ | refine LetW.g ?_ | refine LetW.h ?_ | refine Ite.t fun _ => ?_ | refine Ite.f fun _ => ?_ | refine Ite.decide (fun _ => ?_) fun _ => ?_ | refine Ite.bool (fun _ => ?_) fun _ => ?_ | refine And.intro ?_ ?_) | omega | simp (maxSteps := 1000000) only [go_sem, reduceCtorEq, Nat.reduceLT, Nat.reduceLeDiff, reduceIte, ↓reduceIte, Nat.reduceEqDiff, Nat.reduceAdd, Nat.reduceMul, Nat.reduceSub, Int.reduceLE, Int.reduceLT, Int.reduceNeg, Int.reduceToNat, Int.toNat_natCast, minmax])
          refine ⟨(k + 1, t), Ent.auto0 rfl ?_ ?_, ⟨by dsimp only; omega, hIt, by dsimp only; rw [hm2']; exact hF⟩, by dsimp only; omega⟩ <;> simp only [go_sem, reduceCtorEq, reduceIte, Nat.reduceEqDiff, Nat.reduceLT, Nat.reduceLeDiff, Int.natCast_succ]
      · have e : F = s := by rw [← hF, bfs_end _ _ _ _ hlk]
        subst e
        have kS := sortR_ok F.l (by omega)
        have hsl2 := sortI_len F.l
        (repeat' first | with_reducible (first | refine Asm.intro fun _ => ?_ | refine Chk.g ?_ | refine AnyI.i64 fun _ _ => ?_ | refine LetW.g ?_ | refine LetW.h ?_ | refine Ite.t fun _ => ?_ | refine Ite.f fun _ => ?_ | refine Ite.decide (fun _ => ?_) fun _ => ?_ | refine Ite.bool (fun _ => ?_) fun _ => ?_ | refine And.intro ?_ ?_) | omega | simp (maxSteps := 1000000) only [go_sem, reduceCtorEq, Nat.reduceLT, Nat.reduceLeDiff, reduceIte, ↓reduceIte, Nat.reduceEqDiff, Nat.reduceAdd, Nat.reduceMul, Nat.reduceSub, Int.reduceLE, Int.reduceLT, Int.reduceNeg, Int.reduceToNat])
        refine VcCall.io [3] kS (by decide) (by simp [renL, ren, ioN]) rfl (by simp [subOk, ioN, lk, Item.ren, Item.below, ren, renL, belowL, Fv.below, renR, belowR]) cov1 1 (by decide) rfl (by simp [rowsB, Item.below, Fv.below, belowL, belowR]) ?_
        (repeat' first | with_reducible (first | refine Asm.intro fun _ => ?_ | refine Chk.g ?_ | refine AnyI.i64 fun _ _ => ?_ | refine LetW.g ?_ | refine LetW.h ?_ | refine Ite.t fun _ => ?_ | refine Ite.f fun _ => ?_ | refine Ite.decide (fun _ => ?_) fun _ => ?_ | refine Ite.bool (fun _ => ?_) fun _ => ?_ | refine And.intro ?_ ?_) | omega | simp (maxSteps := 1000000) only [go_sem, reduceCtorEq, Nat.reduceLT, Nat.reduceLeDiff, reduceIte, ↓reduceIte, Nat.reduceEqDiff, Nat.reduceAdd, Nat.reduceMul, Nat.reduceSub, Int.reduceLE, Int.reduceLT, Int.reduceNeg, Int.reduceToNat, S.ioS, ioRows, ioN, delL, Item.ren, ren, renL, renR, List.map_nil, List.length_cons, List.length_nil, List.getElem?_cons_zero, List.getElem?_nil, List.cons_append, List.nil_append, Nat.reduceAdd, Nat.sub_self, Nat.add_zero, List.filter])
        refine ⟨(i + 1, F.seen, D ++ [F.l]), Ent.auto0 rfl ?_ ?_, ⟨by omega, hS2, by dsimp only; rw [hm', List.append_assoc]; exact hD⟩, by dsimp only; omega⟩ <;> simp only [go_sem, reduceCtorEq, reduceIte, Nat.reduceEqDiff, Nat.reduceLT, Nat.reduceLeDiff, Int.natCast_succ, List.map_append, gAv]
  · have e : i = w * h := by omega
    subst e
    rw [Nat.sub_self] at hD
    simp only [regs, List.append_nil] at hD
    subst hD
    (repeat' first | with_reducible (first | refine Asm.intro fun _ => ?_ | refine Chk.g ?_ | refine AnyI.i64 fun _ _ => ?_ | refine LetW.g ?_ | refine LetW.h ?_ | refine Ite.t fun _ => ?_ | refine Ite.f fun _ => ?_ | refine Ite.decide (fun _ => ?_) fun _ => ?_ | refine Ite.bool (fun _ => ?_) fun _ => ?_ | refine And.intro ?_ ?_) | omega | simp (maxSteps := 1000000) only [go_sem, reduceCtorEq, Nat.reduceLT, Nat.reduceLeDiff, reduceIte, ↓reduceIte, Nat.reduceEqDiff, Nat.reduceAdd, Nat.reduceMul, Nat.reduceSub, Int.reduceLE, Int.reduceLT, Int.reduceNeg, Int.reduceToNat])
    refine Ret.auto 1 ?_ rfl ?_ <;> simp only [go_sem, reduceCtorEq, reduceIte, Nat.reduceEqDiff, Nat.reduceLT, Nat.reduceLeDiff, Int.natCast_succ, Post]
end Go.Fv.Q

/- The reference's Hull: the walk. -/
namespace Go.Fv.Q
open Go Go.Proofs
set_option linter.unusedSimpArgs false
set_option linter.unusedVariables false
set_option linter.unnecessarySimpa false
set_option maxRecDepth 8000

def BxB (b : Bx) : Prop := -1000000000 ≤ b.x ∧ b.x ≤ 1000000000 ∧ -1000000000 ≤ b.y ∧ b.y ≤ 1000000000 ∧ -1000000000 ≤ b.x + b.w ∧ b.x + b.w ≤ 1000000000 ∧ -1000000000 ≤ b.y + b.h ∧ b.y + b.h ≤ 1000000000
theorem hull2_bd {a b : Bx} (ha : BxB a) (hb : BxB b) : BxB (hull2 a b) := by
  unfold BxB hull2 at *
  dsimp only
  omega
theorem hullF_bd : ∀ (l : List Bx) (a : Bx), BxB a → (∀ b, b ∈ l → BxB b) → BxB (l.foldl hull2 a)
  | [], a, ha, _ => ha
  | b :: l, a, ha, h => hullF_bd l (hull2 a b) (hull2_bd ha (h b List.mem_cons_self)) fun c hc => h c (List.mem_cons_of_mem _ hc)
theorem bx_take {l : List Bx} {k : Nat} (h : k < l.length) : l.take (k + 1) = l.take k ++ [l.getD k Bx.zero] := by
  rw [List.take_succ_eq_append_getElem h, getD_lt h]
theorem bx_mem {l : List Bx} {k : Nat} (h : k < l.length) : l.getD k Bx.zero ∈ l := by rw [getD_lt h]; exact List.getElem_mem h
set_option maxHeartbeats 4000000 in
theorem refHull_ok (l : List Bx) (h0 : 0 < l.length) (hb : ∀ b, b ∈ l → BxB b) :
    FnOk Tryz.prog 109 [.ro (bxs l)] (.agg (hullL l).av) [] := by
  have hB : ∀ k, BxB ((l.take k).foldl hull2 (l.getD 0 Bx.zero)) := fun k => hullF_bd _ _ (hb _ (bx_mem h0)) fun b hm => hb b (List.mem_of_mem_take hm)
  have he0 := bx_elem l h0
  refine FnOk.of_vc Tryz.func109 rfl (by decide) (by simp [Tryz.f109]) [.cell 2 26] rfl fun w0 T0 _ => ?_
  simp only [Tryz.f109, argEnv]
  (repeat' first | with_reducible (first | refine Asm.intro fun _ => ?_ | refine Chk.g ?_ | refine AnyI.i64 fun _ _ => ?_ | refine LetW.g ?_ | refine LetW.h ?_ | refine Ite.t fun _ => ?_ | refine Ite.f fun _ => ?_ | refine Ite.decide (fun _ => ?_) fun _ => ?_ | refine Ite.bool (fun _ => ?_) fun _ => ?_ | refine And.intro ?_ ?_) | omega | simp (maxSteps := 1000000) only [go_sem, reduceCtorEq, Nat.reduceLT, Nat.reduceLeDiff, reduceIte, ↓reduceIte, Nat.reduceEqDiff, Nat.reduceAdd, Nat.reduceMul, Nat.reduceSub, Int.reduceLE, Int.reduceLT, Int.reduceNeg, Int.reduceToNat, List.length_map, elemA, he0, Int.toNat_zero])
  refine VcLoop.intro (fun k : Nat => ⟨58, [(13, .int .i64 k), (12, .int .i64 l.length), (11, .ro (bxs l)), (3, .ptr 1 0), (2, .ptr 0 0)], [(0, .box 26 [.int .i64 0, .int .i64 0, .int .i64 0, .int .i64 0]), (1, .box 26 ((l.take k).foldl hull2 (l.getD 0 Bx.zero)).av)], 2⟩) (fun k => k ≤ l.length) (fun k => l.length - k) 0 ?_ (Nat.zero_le _) fun k hk => ?_
  · refine Ent.auto0 rfl ?_ ?_ <;> simp only [go_sem, reduceCtorEq, reduceIte, Nat.reduceEqDiff, Nat.reduceLT, Nat.reduceLeDiff, Int.natCast_succ, List.take_zero, List.foldl_nil, Bx.av]
  have hBk := hB k
  by_cases hlt : k < l.length
  · have he := bx_elem l hlt
    have hbk := hb _ (bx_mem hlt)
    have hts : (l.take (k + 1)).foldl hull2 (l.getD 0 Bx.zero) = hull2 ((l.take k).foldl hull2 (l.getD 0 Bx.zero)) (l.getD k Bx.zero) := by
      rw [bx_take hlt, List.foldl_append]; rfl
    generalize (l.take k).foldl hull2 (l.getD 0 Bx.zero) = A at *
    generalize l.getD k Bx.zero = B at *
    unfold BxB at hBk hbk
    unfold Bx.av
    (repeat' first | with_reducible (first | refine Asm.intro fun _ => ?_ | refine Chk.g ?_ | refine AnyI.i64 fun _ _ => ?_ | refine LetW.g ?_ | refine LetW.h ?_ | refine Ite.t fun _ => ?_ | refine Ite.f fun _ => ?_ | refine Ite.decide (fun _ => ?_) fun _ => ?_ | refine Ite.bool (fun _ => ?_) fun _ => ?_ | refine And.intro ?_ ?_) | omega | simp (maxSteps := 1000000) only [go_sem, reduceCtorEq, Nat.reduceLT, Nat.reduceLeDiff, reduceIte, ↓reduceIte, Nat.reduceEqDiff, Nat.reduceAdd, Nat.reduceMul, Nat.reduceSub, Int.reduceLE, Int.reduceLT, Int.reduceNeg, Int.reduceToNat, List.length_map, elemA, he, Int.toNat_natCast])
    refine VcDraw.lex [] [] (by kernel_rfl) (by kernel_rfl) ?_
    (repeat' first | with_reducible (first | refine Asm.intro fun _ => ?_ | refine Chk.g ?_ | refine AnyI.i64 fun _ _ => ?_ | refine LetW.g ?_ | refine LetW.h ?_ | refine Ite.t fun _ => ?_ | refine Ite.f fun _ => ?_ | refine Ite.decide (fun _ => ?_) fun _ => ?_ | refine Ite.bool (fun _ => ?_) fun _ => ?_ | refine And.intro ?_ ?_) | omega | simp (maxSteps := 1000000) only [go_sem, reduceCtorEq, Nat.reduceLT, Nat.reduceLeDiff, reduceIte, ↓reduceIte, Nat.reduceEqDiff, Nat.reduceAdd, Nat.reduceMul, Nat.reduceSub, Int.reduceLE, Int.reduceLT, Int.reduceNeg, Int.reduceToNat, minmax])
    refine ⟨k + 1, Ent.auto0 rfl ?_ ?_, by omega, by omega⟩ <;> simp only [go_sem, reduceCtorEq, reduceIte, Nat.reduceEqDiff, Nat.reduceLT, Nat.reduceLeDiff, Int.natCast_succ, hts, hull2]
  · have e : k = l.length := by omega
    subst e
    rw [List.take_length]
    have eh : l.foldl hull2 (l.getD 0 Bx.zero) = hullL l := rfl
    rw [eh]
    generalize hullL l = A at *
    unfold Bx.av
    (repeat' first | with_reducible (first | refine Asm.intro fun _ => ?_ | refine Chk.g ?_ | refine AnyI.i64 fun _ _ => ?_ | refine LetW.g ?_ | refine LetW.h ?_ | refine Ite.t fun _ => ?_ | refine Ite.f fun _ => ?_ | refine Ite.decide (fun _ => ?_) fun _ => ?_ | refine Ite.bool (fun _ => ?_) fun _ => ?_ | refine And.intro ?_ ?_) | omega | simp (maxSteps := 1000000) only [go_sem, reduceCtorEq, Nat.reduceLT, Nat.reduceLeDiff, reduceIte, ↓reduceIte, Nat.reduceEqDiff, Nat.reduceAdd, Nat.reduceMul, Nat.reduceSub, Int.reduceLE, Int.reduceLT, Int.reduceNeg, Int.reduceToNat])
    refine Ret.auto 0 ?_ rfl ?_ <;> simp only [go_sem, reduceCtorEq, reduceIte, Nat.reduceEqDiff, Nat.reduceLT, Nat.reduceLeDiff, Int.natCast_succ, Post, List.drop_zero]
end Go.Fv.Q

/- Pieces and the reference's: the walk. -/
namespace Go.Fv.Q
open Go Go.Proofs
set_option linter.unusedSimpArgs false
set_option linter.unusedVariables false
set_option linter.unnecessarySimpa false
set_option maxRecDepth 8000

theorem px_bd {w h : Nat} (hw : w ≤ 4000) (hh : h ≤ 4000) {l : List Int} (hb : InPg w h l) : ∀ b, b ∈ l.map (pxB w) → BxB b := by
  intro b hm
  obtain ⟨i, hi, rfl⟩ := List.mem_map.1 hm
  have := xy_bd' (hb i hi).1 (hb i hi).2
  unfold BxB pxB
  dsimp only
  omega
set_option maxHeartbeats 4000000 in
theorem refBoxOf_ok (w h : Nat) (hw : w ≤ 4000) (hh : h ≤ 4000) (p : List Bool) (l : List Int) (hb : InPg w h l) (h0 : 0 < l.length) (hl : l.length ≤ 1000000) :
    FnOk Tryz.prog 75 [.agg [.int .i64 w, .int .i64 h, .ro (.bools p)], .ro (.ints .i64 l)] (.agg (hullL (l.map (pxB w))).av) [] := by
  have kh := refHull_ok (l.map (pxB w)) (by rw [List.length_map]; exact h0) (px_bd hw hh hb)
  generalize hullL (l.map (pxB w)) = A at *
  refine FnOk.of_vc Tryz.func75 rfl (by decide) (by simp [Tryz.f75]) [.cell 4 26] rfl fun w0 T0 _ => ?_
  simp only [Tryz.f75, argEnv]
  (repeat' first | with_reducible (first | refine Asm.intro fun _ => ?_ | refine Chk.g ?_ | refine AnyI.i64 fun _ _ => ?_ | refine LetW.g ?_ | refine LetW.h ?_ | refine Ite.t fun _ => ?_ | refine Ite.f fun _ => ?_ | refine Ite.decide (fun _ => ?_) fun _ => ?_ | refine Ite.bool (fun _ => ?_) fun _ => ?_ | refine And.intro ?_ ?_) | omega | simp (maxSteps := 1000000) only [go_sem, reduceCtorEq, Nat.reduceLT, Nat.reduceLeDiff, reduceIte, ↓reduceIte, Nat.reduceEqDiff, Nat.reduceAdd, Nat.reduceMul, Nat.reduceSub, Int.reduceLE, Int.reduceLT, Int.reduceNeg, Int.reduceToNat])
  refine VcLoop.intro (fun k : Nat => ⟨29, [(10, .int .i64 k), (9, .int .i64 l.length), (8, .ro (.ints .i64 l)), (5, .own 2), (4, .ptr 1 0), (2, .ptr 0 0)], [(0, .box 24 [.int .i64 w, .int .i64 h, .ro (.bools p)]), (1, .box 26 [.int .i64 0, .int .i64 0, .int .i64 0, .int .i64 0]), (2, .row 26 (bxs ((l.take k).map (pxB w))))], 3⟩) (fun k => k ≤ l.length) (fun k => l.length - k) 0 ?_ (Nat.zero_le _) fun k hk => ?_
  · refine Ent.auto0 rfl ?_ ?_ <;> simp only [go_sem, reduceCtorEq, reduceIte, Nat.reduceEqDiff, Nat.reduceLT, Nat.reduceLeDiff, Int.natCast_succ, List.take_zero, List.map_nil]
  by_cases hlt : k < l.length
  · obtain ⟨b1, b2⟩ := hb _ (getD_mem hlt)
    have hts := take_snoc hlt
    have hx : (l.getD k 0).tmod w = l.getD k 0 % w := Int.tmod_eq_emod_of_nonneg b1
    have hy : (l.getD k 0).tdiv w = l.getD k 0 / w := Int.tdiv_eq_ediv_of_nonneg b1
    have hxy := xy_bd' b1 b2
    have hlen : ((l.take k).map (pxB w)).length = k := by rw [List.length_map, List.length_take]; omega
    (repeat' first | with_reducible (first | refine Asm.intro fun _ => ?_ | refine Chk.g ?_ | refine AnyI.i64 fun _ _ => ?_ | refine LetW.g ?_ | refine LetW.h ?_ | refine Ite.t fun _ => ?_ | refine Ite.f fun _ => ?_ | refine Ite.decide (fun _ => ?_) fun _ => ?_ | refine Ite.bool (fun _ => ?_) fun _ => ?_ | refine And.intro ?_ ?_) | omega | simp (maxSteps := 1000000) only [go_sem, reduceCtorEq, Nat.reduceLT, Nat.reduceLeDiff, reduceIte, ↓reduceIte, Nat.reduceEqDiff, Nat.reduceAdd, Nat.reduceMul, Nat.reduceSub, Int.reduceLE, Int.reduceLT, Int.reduceNeg, Int.reduceToNat, Int.toNat_natCast])
    refine VcDraw.lex [10, 11] [(0, [1])] (by kernel_rfl) (by kernel_rfl) ?_
    (repeat' first | with_reducible (first | refine Asm.intro fun _ => ?_ | refine Chk.g ?_ | refine AnyI.i64 fun _ _ => ?_ | refine LetW.g ?_ | refine LetW.h ?_ | refine Ite.t fun _ => ?_ | refine Ite.f fun _ => ?_ | refine Ite.decide (fun _ => ?_) fun _ => ?_ | refine Ite.bool (fun _ => ?_) fun _ => ?_ | refine And.intro ?_ ?_) | omega | simp (maxSteps := 1000000) only [go_sem, reduceCtorEq, Nat.reduceLT, Nat.reduceLeDiff, reduceIte, ↓reduceIte, Nat.reduceEqDiff, Nat.reduceAdd, Nat.reduceMul, Nat.reduceSub, Int.reduceLE, Int.reduceLT, Int.reduceNeg, Int.reduceToNat, hx, hy, hlen, List.length_map])
    refine ⟨k + 1, Ent.auto0 rfl ?_ ?_, by omega, by omega⟩ <;> simp only [go_sem, reduceCtorEq, reduceIte, Nat.reduceEqDiff, Nat.reduceLT, Nat.reduceLeDiff, Int.natCast_succ, hts, List.map_append, pxB, Bx.av]
  · have e : k = l.length := by omega
    subst e
    rw [List.take_length]
    (repeat' first | with_reducible (first | refine Asm.intro fun _ => ?_ | refine Chk.g ?_ | refine AnyI.i64 fun _ _ => ?_ | refine LetW.g ?_ | refine LetW.h ?_ | refine Ite.t fun _ => ?_ | refine Ite.f fun _ => ?_ | refine Ite.decide (fun _ => ?_) fun _ => ?_ | refine Ite.bool (fun _ => ?_) fun _ => ?_ | refine And.intro ?_ ?_) | omega | simp (maxSteps := 1000000) only [go_sem, reduceCtorEq, Nat.reduceLT, Nat.reduceLeDiff, reduceIte, ↓reduceIte, Nat.reduceEqDiff, Nat.reduceAdd, Nat.reduceMul, Nat.reduceSub, Int.reduceLE, Int.reduceLT, Int.reduceNeg, Int.reduceToNat])
    refine VcCall.fr (FnFr.of_ok (kh) rfl rfl) (by simp only [noIdR_ok, argOkL, argOk, allOk, argOkN, List.drop_zero, lk, reduceIte, reduceCtorEq, Nat.reduceEqDiff, Option.some.injEq, Item.row.injEq, Item.box.injEq, AV.ro.injEq, exists_eq_left, exists_and_left, exists_eq_left', exists_eq_right, and_assoc, and_true, true_and, List.cons.injEq, exists_eq', exists_eq]) 0 rfl (by simp [rowsB]) ?_
    unfold Bx.av
    (repeat' first | with_reducible (first | refine Asm.intro fun _ => ?_ | refine Chk.g ?_ | refine AnyI.i64 fun _ _ => ?_ | refine LetW.g ?_ | refine LetW.h ?_ | refine Ite.t fun _ => ?_ | refine Ite.f fun _ => ?_ | refine Ite.decide (fun _ => ?_) fun _ => ?_ | refine Ite.bool (fun _ => ?_) fun _ => ?_ | refine And.intro ?_ ?_) | omega | simp (maxSteps := 1000000) only [go_sem, reduceCtorEq, Nat.reduceLT, Nat.reduceLeDiff, reduceIte, ↓reduceIte, Nat.reduceEqDiff, Nat.reduceAdd, Nat.reduceMul, Nat.reduceSub, Int.reduceLE, Int.reduceLT, Int.reduceNeg, Int.reduceToNat])
    refine Ret.auto 0 ?_ rfl ?_ <;> simp only [go_sem, reduceCtorEq, reduceIte, Nat.reduceEqDiff, Nat.reduceLT, Nat.reduceLeDiff, Int.natCast_succ, Post, List.drop_zero]
set_option maxHeartbeats 8000000 in
theorem refPieces_ok (w h : Nat) (hw1 : 1 ≤ w) (hw : w ≤ 1000) (hh1 : 1 ≤ h) (hh : h ≤ 1000) (p : List Bool) (hp : p.length = w * h) :
    FnOk Tryz.prog 44 [.agg [.int .i64 w, .int .i64 h, .ro (.bools p)]] (.own 0) [(0, .row 89 (pcR (((pieces ⟨p, w, h, true, true⟩).map sortI).map (pcOf2 w))))] := by
  have k2 := parts_ok w h hw1 hw hh1 hh p hp true
  have hn : w * h ≤ 1000 * 1000 := Nat.mul_le_mul hw hh
  have hin : ∀ l, l ∈ (pieces ⟨p, w, h, true, true⟩).map sortI → InPg w h l ∧ l.length ≤ w * h ∧ 0 < l.length := fun l hl => by
    obtain ⟨r, hr, rfl⟩ := List.mem_map.1 hl
    obtain ⟨j, hj, ho⟩ := pieces_ok _ r hr
    obtain ⟨t, ht⟩ := ho.hd
    refine ⟨fun i hi => ?_, by rw [sortI_len]; exact ho.le, by rw [sortI_len, ht]; simp⟩
    have := ho.bd i ((sortI_mem r i).1 hi)
    dsimp only at this; omega
  have hRl : ((pieces ⟨p, w, h, true, true⟩).map sortI).length ≤ w * h := by rw [List.length_map]; exact pieces_len _
  generalize (pieces ⟨p, w, h, true, true⟩).map sortI = R at *
  refine FnOk.of_vc Tryz.func44 rfl (by decide) (by simp [Tryz.f44]) [.tmp 2] rfl fun w0 T0 _ => ?_
  simp only [Tryz.f44, argEnv]
  (repeat' first | with_reducible (first | refine Asm.intro fun _ => ?_ | refine Chk.g ?_ | refine AnyI.i64 fun _ _ => ?_ | refine LetW.g ?_ | refine LetW.h ?_ | refine Ite.t fun _ => ?_ | refine Ite.f fun _ => ?_ | refine Ite.decide (fun _ => ?_) fun _ => ?_ | refine Ite.bool (fun _ => ?_) fun _ => ?_ | refine And.intro ?_ ?_) | omega | simp (maxSteps := 1000000) only [go_sem, reduceCtorEq, Nat.reduceLT, Nat.reduceLeDiff, reduceIte, ↓reduceIte, Nat.reduceEqDiff, Nat.reduceAdd, Nat.reduceMul, Nat.reduceSub, Int.reduceLE, Int.reduceLT, Int.reduceNeg, Int.reduceToNat])
  refine VcCall.ros (.ro (.objs 1 (R.map gAv))) k2 (by simp only [noIdR_ok, argOkL, argOk, allOk, argOkN, List.drop_zero, lk, reduceIte, reduceCtorEq, Nat.reduceEqDiff, Option.some.injEq, Item.row.injEq, Item.box.injEq, AV.ro.injEq, exists_eq_left, exists_and_left, exists_eq_left', exists_eq_right, and_assoc, and_true, true_and, List.cons.injEq, exists_eq', exists_eq]) (by simp [outOk, argOk, argOkN, lk, noIdR_ok]) rfl ?_
  (repeat' first | with_reducible (first | refine Asm.intro fun _ => ?_ | refine Chk.g ?_ | refine AnyI.i64 fun _ _ => ?_ | refine LetW.g ?_ | refine LetW.h ?_ | refine Ite.t fun _ => ?_ | refine Ite.f fun _ => ?_ | refine Ite.decide (fun _ => ?_) fun _ => ?_ | refine Ite.bool (fun _ => ?_) fun _ => ?_ | refine And.intro ?_ ?_) | omega | simp (maxSteps := 1000000) only [go_sem, reduceCtorEq, Nat.reduceLT, Nat.reduceLeDiff, reduceIte, ↓reduceIte, Nat.reduceEqDiff, Nat.reduceAdd, Nat.reduceMul, Nat.reduceSub, Int.reduceLE, Int.reduceLT, Int.reduceNeg, Int.reduceToNat])
  refine VcLoop.intro (fun k : Nat => ⟨37, [(9, .int .i64 k), (8, .int .i64 R.length), (7, .ro (.objs 1 (R.map gAv))), (3, .own 1), (1, .ptr 0 0)], [(0, .box 24 [.int .i64 w, .int .i64 h, .ro (.bools p)]), (1, .row 89 (pcR ((R.take k).map (pcOf2 w))))], 2⟩) (fun k => k ≤ R.length) (fun k => R.length - k) 0 ?_ (Nat.zero_le _) fun k hk => ?_
  · refine Ent.auto0 rfl ?_ ?_ <;> simp only [go_sem, reduceCtorEq, reduceIte, Nat.reduceEqDiff, Nat.reduceLT, Nat.reduceLeDiff, Int.natCast_succ, List.take_zero, List.map_nil]
  by_cases hlt : k < R.length
  · have hel := g_elem R hlt
    have hts : R.take (k + 1) = R.take k ++ [R.getD k []] := by rw [List.take_succ_eq_append_getElem hlt, getD_lt hlt]
    obtain ⟨hb, hll, hl0⟩ := hin (R.getD k []) (by rw [getD_lt hlt]; exact List.getElem_mem hlt)
    have hlen : ((R.take k).map (pcOf2 w)).length = k := by rw [List.length_map, List.length_take]; omega
    generalize R.getD k [] = l at *
    have kb := refBoxOf_ok w h (by omega) (by omega) p l hb hl0 (by omega)
    obtain ⟨b1, b2⟩ := hb _ (getD_mem hl0)
    have hx : (l.getD 0 0).tmod w = l.getD 0 0 % w := Int.tmod_eq_emod_of_nonneg b1
    have hy : (l.getD 0 0).tdiv w = l.getD 0 0 / w := Int.tdiv_eq_ediv_of_nonneg b1
    have hxy := xy_bd' b1 b2
    have hpc : (pcOf2 w l).av = [.int .i64 (hullL (l.map (pxB w))).x, .int .i64 (hullL (l.map (pxB w))).y, .int .i64 (hullL (l.map (pxB w))).w, .int .i64 (hullL (l.map (pxB w))).h, .int .i64 l.length, .int .i64 (l.getD 0 0 % w), .int .i64 (l.getD 0 0 / w)] := rfl
    generalize hullL (l.map (pxB w)) = b at *
    unfold Bx.av at kb
    (repeat' first | with_reducible (first | refine Asm.intro fun _ => ?_ | refine Chk.g ?_ | refine AnyI.i64 fun _ _ => ?_ | refine LetW.g ?_ | refine LetW.h ?_ | refine Ite.t fun _ => ?_ | refine Ite.f fun _ => ?_ | refine Ite.decide (fun _ => ?_) fun _ => ?_ | refine Ite.bool (fun _ => ?_) fun _ => ?_ | refine And.intro ?_ ?_) | omega | simp (maxSteps := 1000000) only [go_sem, reduceCtorEq, Nat.reduceLT, Nat.reduceLeDiff, reduceIte, ↓reduceIte, Nat.reduceEqDiff, Nat.reduceAdd, Nat.reduceMul, Nat.reduceSub, Int.reduceLE, Int.reduceLT, Int.reduceNeg, Int.reduceToNat, elemA, hel])
    refine VcDraw.lex [20, 21] [(0, [1])] (by kernel_rfl) (by kernel_rfl) ?_
    (repeat' first | with_reducible (first | refine Asm.intro fun _ => ?_ | refine Chk.g ?_ | refine AnyI.i64 fun _ _ => ?_ | refine LetW.g ?_ | refine LetW.h ?_ | refine Ite.t fun _ => ?_ | refine Ite.f fun _ => ?_ | refine Ite.decide (fun _ => ?_) fun _ => ?_ | refine Ite.bool (fun _ => ?_) fun _ => ?_ | refine And.intro ?_ ?_) | omega | simp (maxSteps := 1000000) only [go_sem, reduceCtorEq, Nat.reduceLT, Nat.reduceLeDiff, reduceIte, ↓reduceIte, Nat.reduceEqDiff, Nat.reduceAdd, Nat.reduceMul, Nat.reduceSub, Int.reduceLE, Int.reduceLT, Int.reduceNeg, Int.reduceToNat])
    (refine QV.intro (.agg [.int .i64 b.x, .int .i64 b.y, .int .i64 b.w, .int .i64 b.h]) ?_ ?_; focus ((repeat' first | with_reducible (first | refine Asm.intro fun _ => ?_ | refine Chk.g ?_ | refine AnyI.i64 fun _ _ => ?_ | refine LetW.g ?_ | refine LetW.h ?_ | refine Ite.t fun _ => ?_ | refine Ite.f fun _ => ?_ | refine Ite.decide (fun _ => ?_) fun _ => ?_ | refine Ite.bool (fun _ => ?_) fun _ => ?_ | refine And.intro ?_ ?_) | omega | simp (maxSteps := 1000000) only [go_sem, reduceCtorEq, Nat.reduceLT, Nat.reduceLeDiff, reduceIte, ↓reduceIte, Nat.reduceEqDiff, Nat.reduceAdd, Nat.reduceMul, Nat.reduceSub, Int.reduceLE, Int.reduceLT, Int.reduceNeg, Int.reduceToNat]); refine VcCall.fr (FnFr.of_ok (kb) rfl rfl) (by simp only [noIdR_ok, argOkL, argOk, allOk, argOkN, List.drop_zero, lk, reduceIte, reduceCtorEq, Nat.reduceEqDiff, Option.some.injEq, Item.row.injEq, Item.box.injEq, AV.ro.injEq, exists_eq_left, exists_and_left, exists_eq_left', exists_eq_right, and_assoc, and_true, true_and, List.cons.injEq, exists_eq', exists_eq]) 0 rfl (by simp [rowsB]) ?_; (repeat' first | with_reducible (first | refine Asm.intro fun _ => ?_ | refine Chk.g ?_ | refine AnyI.i64 fun _ _ => ?_ | refine LetW.g ?_ | refine LetW.h ?_ | refine Ite.t fun _ => ?_ | refine Ite.f fun _ => ?_ | refine Ite.decide (fun _ => ?_) fun _ => ?_ | refine Ite.bool (fun _ => ?_) fun _ => ?_ | refine And.intro ?_ ?_) | omega | simp (maxSteps := 1000000) only [go_sem, reduceCtorEq, Nat.reduceLT, Nat.reduceLeDiff, reduceIte, ↓reduceIte, Nat.reduceEqDiff, Nat.reduceAdd, Nat.reduceMul, Nat.reduceSub, Int.reduceLE, Int.reduceLT, Int.reduceNeg, Int.reduceToNat])))
    (repeat' first | with_reducible (first | refine Asm.intro fun _ => ?_ | refine Chk.g ?_ | refine AnyI.i64 fun _ _ => ?_ | refine LetW.g ?_ | refine LetW.h ?_ | refine Ite.t fun _ => ?_ | refine Ite.f fun _ => ?_ | refine Ite.decide (fun _ => ?_) fun _ => ?_ | refine Ite.bool (fun _ => ?_) fun _ => ?_ | refine And.intro ?_ ?_) | omega | simp (maxSteps := 1000000) only [go_sem, reduceCtorEq, Nat.reduceLT, Nat.reduceLeDiff, reduceIte, ↓reduceIte, Nat.reduceEqDiff, Nat.reduceAdd, Nat.reduceMul, Nat.reduceSub, Int.reduceLE, Int.reduceLT, Int.reduceNeg, Int.reduceToNat, Int.toNat_zero, hx, hy, hlen, List.length_map])
    refine ⟨k + 1, Ent.auto0 rfl ?_ ?_, by omega, by omega⟩ <;> simp only [go_sem, reduceCtorEq, reduceIte, Nat.reduceEqDiff, Nat.reduceLT, Nat.reduceLeDiff, Int.natCast_succ, hts, List.map_append, hpc]
  · have e : k = R.length := by omega
    subst e
    rw [List.take_length]
    (repeat' first | with_reducible (first | refine Asm.intro fun _ => ?_ | refine Chk.g ?_ | refine AnyI.i64 fun _ _ => ?_ | refine LetW.g ?_ | refine LetW.h ?_ | refine Ite.t fun _ => ?_ | refine Ite.f fun _ => ?_ | refine Ite.decide (fun _ => ?_) fun _ => ?_ | refine Ite.bool (fun _ => ?_) fun _ => ?_ | refine And.intro ?_ ?_) | omega | simp (maxSteps := 1000000) only [go_sem, reduceCtorEq, Nat.reduceLT, Nat.reduceLeDiff, reduceIte, ↓reduceIte, Nat.reduceEqDiff, Nat.reduceAdd, Nat.reduceMul, Nat.reduceSub, Int.reduceLE, Int.reduceLT, Int.reduceNeg, Int.reduceToNat])
    refine Ret.auto 1 ?_ rfl ?_ <;> simp only [go_sem, reduceCtorEq, reduceIte, Nat.reduceEqDiff, Nat.reduceLT, Nat.reduceLeDiff, Int.natCast_succ, Post]
end Go.Fv.Q
