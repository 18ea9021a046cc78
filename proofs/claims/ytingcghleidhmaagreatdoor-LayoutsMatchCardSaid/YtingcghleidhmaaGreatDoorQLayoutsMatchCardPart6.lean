/-
  A part of the proof of the claim: walks over the program's functions and the plain laws that these need. No condition of its own.
-/
import Derived.Test.YtingcghleidhmaaGreatDoorQLayoutsMatchCardPart4
import Derived.Test.YtingcghleidhmaaGreatDoorQLayoutsMatchCardPart5
import Derived.Test.YtingcghleidhmaaGreatDoorQLayoutsMatchCardPart1
import Derived.Test.YtingcghleidhmaaGreatDoorFvPart9
/- Regions: the walk. -/
namespace Go.Fv.Q
open Go Go.Proofs
set_option linter.unusedSimpArgs false
set_option linter.unusedVariables false
set_option linter.unnecessarySimpa false
set_option maxRecDepth 8000

theorem skip_t {a b k : Bool} (h : (a || decide ¬ b = k) = true) : a = true ∨ (b == k) = false := by revert h; cases a <;> cases b <;> cases k <;> simp
theorem skip_f {a b k : Bool} (h : (a || decide ¬ b = k) = false) : ¬ (a = true ∨ (b == k) = false) := by revert h; cases a <;> cases b <;> cases k <;> simp
theorem pt_t {a b k cor : Bool} {P Q : Prop} [Decidable P] [Decidable Q] (h : (a || decide ¬ b = k || !cor && decide ¬ P && decide ¬ Q) = true) : (cor = false ∧ ¬ P ∧ ¬ Q) ∨ (a = true ∨ (b == k) = false) := by
  revert h
  by_cases hp : P <;> by_cases hq : Q <;> cases a <;> cases b <;> cases k <;> cases cor <;> simp [hp, hq]
theorem pt_f {a b k cor : Bool} {P Q : Prop} [Decidable P] [Decidable Q] (h : (a || decide ¬ b = k || !cor && decide ¬ P && decide ¬ Q) = false) : ¬ (cor = false ∧ ¬ P ∧ ¬ Q) ∧ ¬ (a = true ∨ (b == k) = false) := by
  revert h
  by_cases hp : P <;> by_cases hq : Q <;> cases a <;> cases b <;> cases k <;> cases cor <;> simp [hp, hq]
set_option maxHeartbeats 8000000 in
theorem regions_ok (w h : Nat) (hw1 : 1 ≤ w) (hw : w ≤ 1000) (hh1 : 1 ≤ h) (hh : h ≤ 1000) (p : List Bool) (hp : p.length = w * h) (ink cor : Bool) :
    FnOk Tryz.prog 40 [.agg [.int .i64 w, .int .i64 h, .ro (.bools p)], .bool ink, .bool cor] (.own 0) [(0, .row 64 (.objs 1 ((pieces ⟨p, w, h, ink, cor⟩).map gAv)))] := by
  have hn : w * h ≤ 1000 * 1000 := Nat.mul_le_mul hw hh
  have hst : StepOk (Pg2.ok ⟨p, w, h, ink, cor⟩) (w * h) (pix ⟨p, w, h, ink, cor⟩) := pix_step ⟨p, w, h, ink, cor⟩
  have hRl : (pieces ⟨p, w, h, ink, cor⟩).length ≤ w * h := pieces_len ⟨p, w, h, ink, cor⟩
  have hpt : ∀ c0 s x y v u, RInv (Pg2.ok ⟨p, w, h, ink, cor⟩) (w * h) c0 s → (0 ≤ u ∧ u < (w : Int)) → (0 ≤ v ∧ v < (h : Int)) → RInv (Pg2.ok ⟨p, w, h, ink, cor⟩) (w * h) c0 (RS.pt ⟨p, w, h, ink, cor⟩ x y v s u) ∧ RLe s (RS.pt ⟨p, w, h, ink, cor⟩ x y v s u) :=
    fun c0 s x y v u hs hu hv => pt_inv (g := ⟨p, w, h, ink, cor⟩) hs hu hv
  generalize hg : (⟨p, w, h, ink, cor⟩ : Pg2) = g at *
  generalize hR : pieces g = R at *
  refine FnOk.of_vc Tryz.func40 rfl (by decide) (by simp [Tryz.f40]) [.tmp 6] rfl fun w0 T0 _ => ?_
  simp only [Tryz.f40, argEnv]
  (repeat' first | with_reducible (first | intro _ | refine rc ?_ | refine rl ?_ | refine rh ?_ | refine rt ?_ | refine rf ?_ | refine rs ?_ | refine And.intro ?_ ?_) | omega | simp (maxSteps := 1000000) only [go_sem, simprocAttr, ↓reduceIte, hp])
  refine VcLoop.intro (fun x : Nat × List Bool × List (List Int) => ⟨137, [(24, .int .i64 (x.1 : Nat)), (23, .int .i64 (w * h : Nat)), (8, .own 2), (7, .own 1), (3, .ptr 0 0), (1, .bool ink), (2, .bool cor)], [(0, .box 24 [.int .i64 w, .int .i64 h, .ro (.bools p)]), (1, .row 4 (.bools x.2.1)), (2, .row 64 (.objs 1 (x.2.2.map gAv)))], 3⟩) (fun x => x.1 ≤ w * h ∧ SInv g.ok (w * h) x.1 x.2.1 ∧ x.2.2 ++ regs g.ok (pix g) (w * h) (w * h - x.1) x.1 x.2.1 = R) (fun x => w * h - x.1) (0, List.replicate (w * h) false, []) ?_ ⟨Nat.zero_le _, SInv.zero _ _, ?_⟩ fun x hx => ?_
  · refine Ent.auto0 rfl ?_ ?_ <;> simp only [go_sem, reduceCtorEq, reduceIte, Nat.reduceEqDiff, Nat.reduceLT, Nat.reduceLeDiff, Int.natCast_succ, zrow, List.map_nil, Int.toNat_natCast]
  · subst hg
    dsimp only
    rw [Nat.sub_zero, List.nil_append]
    exact hR
  obtain ⟨i, seen, D⟩ := x
  obtain ⟨hi, hS, hD⟩ := hx
  dsimp only at hi hS hD ⊢
  have hsl := hS.len
  by_cases hlt : i < w * h
  · obtain ⟨m, hm⟩ : ∃ m, w * h - i = m + 1 := ⟨w * h - i - 1, by omega⟩
    have hm' : w * h - (i + 1) = m := by omega
    have hok : g.ok i = (p.getD i false == ink) := by subst hg; rfl
    rw [hm] at hD
    simp only [regs] at hD
    (repeat' first | with_reducible (first | intro _ | refine rc ?_ | refine rl ?_ | refine rh ?_ | refine rt ?_ | refine rf ?_ | refine rs ?_ | refine And.intro ?_ ?_) | omega | simp (maxSteps := 1000000) only [go_sem, simprocAttr, ↓reduceIte, Int.toNat_natCast, hsl, hp])
    refine Chk.g ?_ (fun h => ⟨h, by omega⟩)
    refine Ite.bool (fun hc => ?_) (fun hc => ?_)
    · have hs : seen.getD i false = true ∨ g.ok i = false := by rw [hok]; exact skip_t hc
      rw [if_pos hs] at hD
      (repeat' first | with_reducible (first | intro _ | refine rc ?_ | refine rl ?_ | refine rh ?_ | refine rt ?_ | refine rf ?_ | refine rs ?_ | refine And.intro ?_ ?_) | omega | simp (maxSteps := 1000000) only [go_sem, simprocAttr, ↓reduceIte])
      refine ⟨(i + 1, seen, D), Ent.auto0 rfl ?_ ?_, ⟨by omega, hS.skip hs, by dsimp only; rw [hm']; exact hD⟩, by dsimp only; omega⟩ <;> simp only [go_sem, reduceCtorEq, reduceIte, Nat.reduceEqDiff, Nat.reduceLT, Nat.reduceLeDiff, Int.natCast_succ]
    · have hs : ¬ (seen.getD i false = true ∨ g.ok i = false) := by rw [hok]; exact skip_f hc
      rw [if_neg hs] at hD
      have hI := hS.start hlt hs
      obtain ⟨hS2, hO2, _⟩ := hS.region hst hlt hs (w * h)
      generalize hF : bfs (pix g) (w * h) 0 ⟨seen.set i true, [(i : Int)]⟩ = F at *
      generalize seen.count true = c0 at *
      (repeat' first | with_reducible (first | intro _ | refine rc ?_ | refine rl ?_ | refine rh ?_ | refine rt ?_ | refine rf ?_ | refine rs ?_ | refine And.intro ?_ ?_) | omega | simp (maxSteps := 1000000) only [go_sem, simprocAttr, ↓reduceIte, Int.toNat_natCast, hsl, hp])
      refine VcLoop.intro (fun x : Nat × RS => ⟨137, [(11, .int .i64 (x.1 : Nat)), (10, .own 3), (24, .int .i64 (i : Nat)), (23, .int .i64 (w * h : Nat)), (8, .own 2), (7, .own 1), (3, .ptr 0 0), (1, .bool ink), (2, .bool cor)], [(0, .box 24 [.int .i64 w, .int .i64 h, .ro (.bools p)]), (1, .row 4 (.bools x.2.seen)), (2, .row 64 (.objs 1 (D.map gAv))), (3, .row 3 (.ints .i64 x.2.l))], 4⟩) (fun x => x.1 ≤ x.2.l.length ∧ RInv g.ok (w * h) c0 x.2 ∧ bfs (pix g) (w * h - x.1) x.1 x.2 = F) (fun x => w * h - x.1) (0, ⟨seen.set i true, [(i : Int)]⟩) ?_ ⟨Nat.zero_le _, hI, hF⟩ fun x hx => ?_
      · refine Ent.auto0 rfl ?_ ?_ <;> simp only [go_sem, reduceCtorEq, reduceIte, Nat.reduceEqDiff, Nat.reduceLT, Nat.reduceLeDiff, Int.natCast_succ]
      obtain ⟨k, s⟩ := x
      obtain ⟨hk, hI, hF⟩ := hx
      dsimp only at hk hI hF ⊢
      have hll := hI.le
      have hDl : D.length ≤ w * h := by
        rw [← hD, List.length_append] at hRl
        omega
      by_cases hlk : k < s.l.length
      · obtain ⟨hb1, hb2⟩ := hI.bd _ (getD_mem hlk)
        obtain ⟨m2, hm2⟩ : ∃ m2, w * h - k = m2 + 1 := ⟨w * h - k - 1, by omega⟩
        have hm2' : w * h - (k + 1) = m2 := by omega
        rw [hm2, bfs_step _ hlk] at hF
        obtain ⟨c, hc⟩ : ∃ c : Nat, s.l.getD k 0 = c := ⟨(s.l.getD k 0).toNat, by omega⟩
        rw [hc] at hF hb2
        obtain ⟨⟨_, hx2⟩, _, hy2⟩ := xy_bd (g := g) (c := c) (by omega) (by subst hg; exact hb2)
        have hgw : g.w = w := by subst hg; rfl
        have hgh : g.h = h := by subst hg; rfl
        rw [hgw] at hx2 hy2
        rw [hgh] at hy2
        have ex : (c : Int) % (w : Int) = ((c % w : Nat) : Int) := rfl
        have ey : (c : Int) / (w : Int) = ((c / w : Nat) : Int) := rfl
        rw [ex] at hx2
        rw [ey] at hy2
        generalize hQ : pix g s (c : Int) = Q at *
        unfold pix at hQ
        rw [hgw, hgh, ex, ey] at hQ
        generalize hx0 : c % w = x at *
        generalize hy0 : c / w = y at *
        (repeat' first | with_reducible (first | intro _ | refine rc ?_ | refine rl ?_ | refine rh ?_ | refine rt ?_ | refine rf ?_ | refine rs ?_ | refine And.intro ?_ ?_) | omega | simp (maxSteps := 1000000) only [go_sem, simprocAttr, ↓reduceIte, Int.toNat_natCast])
        refine VcDraw.lex [] [] (by kernel_rfl) (by kernel_rfl) ?_
        (repeat' first | with_reducible (first | intro _ | refine rc ?_ | refine rl ?_ | refine rh ?_ | refine rt ?_ | refine rf ?_ | refine rs ?_ | refine And.intro ?_ ?_) | omega | simp (maxSteps := 1000000) only [go_sem, simprocAttr, ↓reduceIte, Int.toNat_natCast, hc, up_tmod, up_tdiv, minmax, hx0, hy0])
        have ha1 : lo3 (y : Int) = max ((y : Int) - 1) 0 := rfl
        have ha2 : hi3 (y : Int) h = min ((y : Int) + 1) ((h : Int) - 1) := rfl
        have ha3 : lo3 (x : Int) = max ((x : Int) - 1) 0 := rfl
        have ha4 : hi3 (x : Int) w = min ((x : Int) + 1) ((w : Int) - 1) := rfl
        refine VcLoop.intro (fun z : Int × RS => ⟨137, [(14, .int .i64 z.1), (13, .int .i64 (y : Nat)), (12, .int .i64 (x : Nat)), (11, .int .i64 (k : Nat)), (10, .own 3), (24, .int .i64 (i : Nat)), (23, .int .i64 (w * h : Nat)), (8, .own 2), (7, .own 1), (3, .ptr 0 0), (1, .bool ink), (2, .bool cor)], [(0, .box 24 [.int .i64 w, .int .i64 h, .ro (.bools p)]), (1, .row 4 (.bools z.2.seen)), (2, .row 64 (.objs 1 (D.map gAv))), (3, .row 3 (.ints .i64 z.2.l))], 4⟩) (fun z => lo3 y ≤ z.1 ∧ z.1 ≤ hi3 y h + 1 ∧ RInv g.ok (w * h) c0 z.2 ∧ k < z.2.l.length ∧ (rng z.1 (hi3 y h + 1 - z.1).toNat).foldl (RS.row g x y (rng3 x w)) z.2 = Q) (fun z => (hi3 y h + 1 - z.1).toNat) (lo3 y, s) ?_ ⟨by dsimp only; omega, by dsimp only; omega, hI, hlk, hQ⟩ fun z hz => ?_
        · refine Ent.auto0 rfl ?_ ?_ <;> simp only [go_sem, reduceCtorEq, reduceIte, Nat.reduceEqDiff, Nat.reduceLT, Nat.reduceLeDiff, Int.natCast_succ, ha1]
        obtain ⟨v, t⟩ := z
        obtain ⟨hv1, hv2, hIt, hkt, hrest⟩ := hz
        dsimp only at hv1 hv2 hIt hkt hrest ⊢
        have hlt2 := hIt.le
        by_cases hv : v ≤ hi3 y h
        · obtain ⟨m3, hm3⟩ : ∃ m3, (hi3 y h + 1 - v).toNat = m3 + 1 := ⟨(hi3 y h + 1 - v).toNat - 1, by omega⟩
          have hm3' : (hi3 y h + 1 - (v + 1)).toNat = m3 := by omega
          rw [hm3] at hrest
          simp only [rng, List.foldl_cons] at hrest
          have hv0 : 0 ≤ v ∧ v < (h : Int) := by omega
          have hvw0 : 0 ≤ v * (w : Int) := Int.mul_nonneg hv0.1 (by omega)
          have hvw1 : v * (w : Int) ≤ 1000 * 1000 := Int.mul_le_mul (by omega) (by omega) (by omega) (by omega)
          obtain ⟨hI3, hL3⟩ := row_inv (g := g) (s := t) (c0 := c0) (x := x) (y := y) (v := v) (us := rng3 x w) (by rw [hgw, hgh]; exact hIt) (fun u hu => by rw [hgw]; exact rng3_mem hu) (by rw [hgh]; exact hv0)
          rw [hgw, hgh] at hI3
          have hl3 := hL3.len
          generalize hQ2 : RS.row g x y (rng3 x w) t v = Q2 at *
          unfold RS.row at hQ2
          (repeat' first | with_reducible (first | intro _ | refine rc ?_ | refine rl ?_ | refine rh ?_ | refine rt ?_ | refine rf ?_ | refine rs ?_ | refine And.intro ?_ ?_) | omega | simp (maxSteps := 1000000) only [go_sem, simprocAttr, ↓reduceIte, Int.toNat_natCast, minmax])
          refine VcLoop.intro (fun z : Int × RS => ⟨137, [(15, .int .i64 z.1), (14, .int .i64 v), (13, .int .i64 (y : Nat)), (12, .int .i64 (x : Nat)), (11, .int .i64 (k : Nat)), (10, .own 3), (24, .int .i64 (i : Nat)), (23, .int .i64 (w * h : Nat)), (8, .own 2), (7, .own 1), (3, .ptr 0 0), (1, .bool ink), (2, .bool cor)], [(0, .box 24 [.int .i64 w, .int .i64 h, .ro (.bools p)]), (1, .row 4 (.bools z.2.seen)), (2, .row 64 (.objs 1 (D.map gAv))), (3, .row 3 (.ints .i64 z.2.l))], 4⟩) (fun z => lo3 x ≤ z.1 ∧ z.1 ≤ hi3 x w + 1 ∧ RInv g.ok (w * h) c0 z.2 ∧ (rng z.1 (hi3 x w + 1 - z.1).toNat).foldl (RS.pt g x y v) z.2 = Q2) (fun z => (hi3 x w + 1 - z.1).toNat) (lo3 x, t) ?_ ⟨by dsimp only; omega, by dsimp only; omega, hIt, hQ2⟩ fun z hz => ?_
          · refine Ent.auto0 rfl ?_ ?_ <;> simp only [go_sem, reduceCtorEq, reduceIte, Nat.reduceEqDiff, Nat.reduceLT, Nat.reduceLeDiff, Int.natCast_succ, ha3]
          clear hlt2
          obtain ⟨u, t⟩ := z
          obtain ⟨hu1, hu2, hIu, hrest2⟩ := hz
          dsimp only at hu1 hu2 hIu hrest2 ⊢
          have hlu := hIu.le
          have hsu := hIu.len
          by_cases hu : u ≤ hi3 x w
          · obtain ⟨m4, hm4⟩ : ∃ m4, (hi3 x w + 1 - u).toNat = m4 + 1 := ⟨(hi3 x w + 1 - u).toNat - 1, by omega⟩
            have hm4' : (hi3 x w + 1 - (u + 1)).toNat = m4 := by omega
            rw [hm4] at hrest2
            simp only [rng, List.foldl_cons] at hrest2
            have hu0 : 0 ≤ u ∧ u < (w : Int) := by omega
            obtain ⟨hc1, hc2, hc3⟩ := cell_lt hu0 hv0
            have hI4 := (hpt c0 t x y v u hIu hu0 hv0).1
            obtain ⟨q, hq⟩ : ∃ q : Nat, v * (w : Int) + u = q := ⟨(v * (w : Int) + u).toNat, by omega⟩
            have hqn : q < w * h := by omega
            have hRS : RS.pt g x y v t u = if cor = false ∧ u ≠ x ∧ v ≠ y then t else t.vis g.ok q := by
              unfold RS.pt
              rw [hgw, hq, Int.toNat_natCast]
              subst hg
              rfl
            have hokq : g.ok q = (p.getD q false == ink) := by subst hg; rfl
            rw [hRS] at hI4 hrest2
            unfold RS.vis at hI4 hrest2
            rw [hokq] at hI4 hrest2
            (repeat' first | with_reducible (first | intro _ | refine rc ?_ | refine rl ?_ | refine rh ?_ | refine rt ?_ | refine rf ?_ | refine rs ?_ | refine And.intro ?_ ?_) | omega | simp (maxSteps := 1000000) only [go_sem, simprocAttr, ↓reduceIte, Int.toNat_natCast, minmax, hq, hp])
            refine Chk.g (Chk.g (Chk.g (Ite.bool (fun hc => ?_) (fun hc => ?_)) (fun h => ⟨h, fun h2 => ⟨h, h2⟩⟩)) (fun h => ⟨h, fun h2 => ⟨h, h2⟩⟩)) (fun h => ⟨h, by omega⟩)
            · have e : (if cor = false ∧ u ≠ x ∧ v ≠ y then t else if t.seen.getD q false = true ∨ (p.getD q false == ink) = false then t else ⟨t.seen.set q true, t.l ++ [(q : Int)]⟩) = t := by
                rcases pt_t hc with h1 | h1
                · exact if_pos h1
                · rw [if_pos h1, ite_self]
              rw [e] at hI4 hrest2
              (repeat' first | with_reducible (first | intro _ | refine rc ?_ | refine rl ?_ | refine rh ?_ | refine rt ?_ | refine rf ?_ | refine rs ?_ | refine And.intro ?_ ?_) | omega | simp (maxSteps := 1000000) only [go_sem, simprocAttr, ↓reduceIte, Int.toNat_natCast, minmax, hq, hp])
              refine ⟨(u + 1, t), Ent.auto0 rfl ?_ ?_, ⟨by dsimp only; omega, by dsimp only; omega, hI4, by dsimp only; rw [hm4']; exact hrest2⟩, by dsimp only; omega⟩ <;> simp only [go_sem, reduceCtorEq, reduceIte, Nat.reduceEqDiff, Nat.reduceLT, Nat.reduceLeDiff, Int.natCast_succ]
            · obtain ⟨h1, h2⟩ := pt_f hc
              rw [if_neg h1, if_neg h2] at hI4 hrest2
              (repeat' first | with_reducible (first | intro _ | refine rc ?_ | refine rl ?_ | refine rh ?_ | refine rt ?_ | refine rf ?_ | refine rs ?_ | refine And.intro ?_ ?_) | omega | simp (maxSteps := 1000000) only [go_sem, simprocAttr, ↓reduceIte, Int.toNat_natCast, minmax, hq, hp, hsu])
              refine ⟨(u + 1, ⟨t.seen.set q true, t.l ++ [(q : Int)]⟩), Ent.auto0 rfl ?_ ?_, ⟨by dsimp only; omega, by dsimp only; omega, hI4, by dsimp only; rw [hm4']; exact hrest2⟩, by dsimp only; omega⟩ <;> simp only [go_sem, reduceCtorEq, reduceIte, Nat.reduceEqDiff, Nat.reduceLT, Nat.reduceLeDiff, Int.natCast_succ]
          · have eu : u = hi3 x w + 1 := by omega
            subst eu
            rw [show (hi3 (x : Int) (w : Int) + 1 - (hi3 (x : Int) (w : Int) + 1)).toNat = 0 by omega] at hrest2
            have e : t = Q2 := hrest2
            subst e
            (repeat' first | with_reducible (first | intro _ | refine rc ?_ | refine rl ?_ | refine rh ?_ | refine rt ?_ | refine rf ?_ | refine rs ?_ | refine And.intro ?_ ?_) | omega | simp (maxSteps := 1000000) only [go_sem, simprocAttr, ↓reduceIte, Int.toNat_natCast, minmax])
            refine ⟨(v + 1, t), Ent.auto0 rfl ?_ ?_, ⟨by dsimp only; omega, by dsimp only; omega, hI3, by dsimp only; omega, by dsimp only; rw [hm3']; exact hrest⟩, by dsimp only; omega⟩ <;> simp only [go_sem, reduceCtorEq, reduceIte, Nat.reduceEqDiff, Nat.reduceLT, Nat.reduceLeDiff, Int.natCast_succ]
        · have ev : v = hi3 y h + 1 := by omega
          subst ev
          rw [show (hi3 (y : Int) (h : Int) + 1 - (hi3 (y : Int) (h : Int) + 1)).toNat = 0 by omega] at hrest
          have e : t = Q := hrest
          subst e
          (repeat' first | with_reducible (first | intro _ | refine rc ?_ | refine rl ?_ | refine rh ?_ | refine rt ?_ | refine rf ?_ | refine rs ?_ | refine And.intro ?_ ?_) | omega | simp (maxSteps := 1000000) only [go_sem, simprocAttr, ↓reduceIte, Int.toNat_natCast, minmax])
          refine ⟨(k + 1, t), Ent.auto0 rfl ?_ ?_, ⟨by dsimp only; omega, hIt, by dsimp only; rw [hm2']; exact hF⟩, by dsimp only; omega⟩ <;> simp only [go_sem, reduceCtorEq, reduceIte, Nat.reduceEqDiff, Nat.reduceLT, Nat.reduceLeDiff, Int.natCast_succ]
      · have e : F = s := by rw [← hF, bfs_end _ _ _ _ hlk]
        subst e
        (repeat' first | with_reducible (first | intro _ | refine rc ?_ | refine rl ?_ | refine rh ?_ | refine rt ?_ | refine rf ?_ | refine rs ?_ | refine And.intro ?_ ?_) | omega | simp (maxSteps := 1000000) only [go_sem, simprocAttr, ↓reduceIte])
        refine ⟨(i + 1, F.seen, D ++ [F.l]), Ent.auto0 rfl ?_ ?_, ⟨by omega, hS2, by dsimp only; rw [hm', List.append_assoc]; exact hD⟩, by dsimp only; omega⟩ <;> simp only [go_sem, reduceCtorEq, reduceIte, Nat.reduceEqDiff, Nat.reduceLT, Nat.reduceLeDiff, Int.natCast_succ, List.map_append, gAv]
  · have e : i = w * h := by omega
    subst e
    rw [Nat.sub_self] at hD
    simp only [regs, List.append_nil] at hD
    subst hD
    (repeat' first | with_reducible (first | intro _ | refine rc ?_ | refine rl ?_ | refine rh ?_ | refine rt ?_ | refine rf ?_ | refine rs ?_ | refine And.intro ?_ ?_) | omega | simp (maxSteps := 1000000) only [go_sem, simprocAttr, ↓reduceIte])
    refine Ret.auto 1 ?_ rfl ?_ <;> simp only [go_sem, reduceCtorEq, reduceIte, Nat.reduceEqDiff, Nat.reduceLT, Nat.reduceLeDiff, Int.natCast_succ, Post]
end Go.Fv.Q

namespace Go.Fv.Q
open Go Go.Proofs
set_option linter.unusedSimpArgs false
set_option linter.unusedVariables false
set_option maxRecDepth 8000

theorem grayErr_ok {w h : Nat} (hw1 : 1 ≤ w) (hw : w ≤ 1000) (hh1 : 1 ≤ h) (hh : h ≤ 1000) {n : Nat} (hn : n = w * h) : grayErr w h n = 0 := by
  have hm : w * h ≤ 1000 * 1000 := Nat.mul_le_mul hw hh
  unfold grayErr
  rw [sizeErr_of (by omega) (by omega) (by omega) (by omega) (by rw [up_mul]; omega), hn, up_mul]
  simp
set_option maxHeartbeats 1000000 in
theorem bits_ok (w h : Nat) (hw : w ≤ 4000) (hh : h ≤ 4000) (f : Nat) (caps : List AV) [CapsOk caps] (q : Nat → Bool) (hq : ∀ i : Nat, i < w * h → FnFr Tryz.prog f ([.int .i64 i] ++ caps) (.bool (q i)) []) :
    FnOk Tryz.prog 86 [.int .i64 w, .int .i64 h, .fn f caps] (.agg [.int .i64 w, .int .i64 h, .own 0]) [(0, .row 4 (.bools ((List.range (w * h)).map q)))] := by
  have hwh : w * h ≤ 4000 * 4000 := Nat.mul_le_mul hw hh
  have hc : ((w : Int) * h) = ((w * h : Nat) : Int) := (Int.natCast_mul w h).symm
  generalize hn : w * h = n at hwh hc hq ⊢
  refine FnOk.of_vc Tryz.func86 rfl (by decide) (by simp [Tryz.f86]) [.cell 6 24] rfl fun w0 T0 _ => ?_
  simp only [Tryz.f86, argEnv]
  simp (maxSteps := 1000000) only [go_sem, simprocAttr, ↓reduceIte, hc]
  (repeat' first | (with_reducible refine Asm.intro fun _ => ?_) | ((with_reducible refine Chk.intro ?_ ?_); (· first | omega | (with_reducible refine Chk.intro ?_ ?_ <;> omega) | (simp; done) | (simp; omega))) | ((with_reducible refine LetW.i64 ?_ ?_ ?_); (· omega); (· omega)) | ((with_reducible refine Ite.decide (fun _ => ?_) (fun _ => ?_)) <;> first | (exfalso; omega) | simp (maxSteps := 1000000) only [go_sem, simprocAttr, ↓reduceIte]) | ((with_reducible refine Ite.bool (fun _ => ?_) (fun _ => ?_)) <;> simp (maxSteps := 1000000) only [go_sem, simprocAttr, ↓reduceIte]) | (with_reducible refine And.intro ?_ ?_))
  refine VcLoop.intro (fun i : Nat => ⟨31, [(19, .int .i64 i), (18, .int .i64 n), (7, .ptr 2 0), (6, .ptr 0 0), (2, .fn f caps)], [(2, .box 24 [.int .i64 w, .int .i64 h, .own 1]), (0, .box 24 [.int .i64 0, .int .i64 0, .nilS]), (1, .row 4 (.bools ((List.range i).map q ++ List.replicate (n - i) false)))], 3⟩) (fun i => i ≤ n) (fun i => n - i) 0 ?_ (Nat.zero_le _) fun i hi => ?_
  · refine Ent.auto0 rfl ?_ ?_ <;> simp only [go_sem, reduceCtorEq, reduceIte, Nat.reduceEqDiff, Nat.reduceLT, Nat.reduceLeDiff, Int.natCast_succ, zrow, List.range_zero, List.map_nil, Nat.sub_zero, Int.toNat_natCast]
  simp (maxSteps := 1000000) only [go_sem, simprocAttr, ↓reduceIte]
  (repeat' first | (with_reducible refine Asm.intro fun _ => ?_) | ((with_reducible refine Chk.intro ?_ ?_); (· first | omega | (with_reducible refine Chk.intro ?_ ?_ <;> omega) | (simp; done) | (simp; omega))) | ((with_reducible refine LetW.i64 ?_ ?_ ?_); (· omega); (· omega)) | ((with_reducible refine Ite.decide (fun _ => ?_) (fun _ => ?_)) <;> first | (exfalso; omega) | simp (maxSteps := 1000000) only [go_sem, simprocAttr, ↓reduceIte]) | ((with_reducible refine Ite.bool (fun _ => ?_) (fun _ => ?_)) <;> simp (maxSteps := 1000000) only [go_sem, simprocAttr, ↓reduceIte]) | (with_reducible refine And.intro ?_ ?_))
  · refine VcDraw.lex [7] [] (by kernel_rfl) (by kernel_rfl) ?_
    simp (maxSteps := 1000000) only [go_sem, simprocAttr, ↓reduceIte]
    (repeat' first | (with_reducible refine Asm.intro fun _ => ?_) | ((with_reducible refine Chk.intro ?_ ?_); (· first | omega | (with_reducible refine Chk.intro ?_ ?_ <;> omega) | (simp; done) | (simp; omega))) | ((with_reducible refine LetW.i64 ?_ ?_ ?_); (· omega); (· omega)) | ((with_reducible refine Ite.decide (fun _ => ?_) (fun _ => ?_)) <;> first | (exfalso; omega) | simp (maxSteps := 1000000) only [go_sem, simprocAttr, ↓reduceIte]) | ((with_reducible refine Ite.bool (fun _ => ?_) (fun _ => ?_)) <;> simp (maxSteps := 1000000) only [go_sem, simprocAttr, ↓reduceIte]) | (with_reducible refine And.intro ?_ ?_))
    refine QV.intro (.bool (q i)) ?_ ?_
    · simp (maxSteps := 1000000) only [go_sem, simprocAttr, ↓reduceIte]
      refine VcCall.fr (args' := [.int .i64 i] ++ caps) (hq i (by omega)) (by simp [argOkL, allOk, argOkN, allOk_caps]) 0 rfl (by simp [rowsB]) ?_
      simp (maxSteps := 1000000) only [go_sem, simprocAttr, ↓reduceIte]
    · have hs := set_range (n := n) q false (show i < n by omega)
      simp (maxSteps := 1000000) only [go_sem, simprocAttr, ↓reduceIte, List.length_map, List.length_range, hs]
      (repeat' first | (with_reducible refine Asm.intro fun _ => ?_) | ((with_reducible refine Chk.intro ?_ ?_); (· first | omega | (with_reducible refine Chk.intro ?_ ?_ <;> omega) | (simp; done) | (simp; omega))) | ((with_reducible refine LetW.i64 ?_ ?_ ?_); (· omega); (· omega)) | ((with_reducible refine Ite.decide (fun _ => ?_) (fun _ => ?_)) <;> first | (exfalso; omega) | simp (maxSteps := 1000000) only [go_sem, simprocAttr, ↓reduceIte]) | ((with_reducible refine Ite.bool (fun _ => ?_) (fun _ => ?_)) <;> simp (maxSteps := 1000000) only [go_sem, simprocAttr, ↓reduceIte]) | (with_reducible refine And.intro ?_ ?_))
      refine ⟨i + 1, Ent.auto0 rfl ?_ ?_, by omega, by omega⟩ <;> simp only [go_sem, reduceCtorEq, reduceIte, Nat.reduceEqDiff, Nat.reduceLT, Nat.reduceLeDiff, Int.natCast_succ]
      all_goals first | rfl | rw [List.range_succ]
  · have e : i = n := by omega
    subst e
    refine Ret.auto 1 ?_ rfl ?_ <;> simp only [go_sem, reduceCtorEq, reduceIte, Nat.reduceEqDiff, Nat.reduceLT, Nat.reduceLeDiff, Int.natCast_succ, Post, List.drop_zero, Nat.sub_self, List.replicate_zero, List.append_nil]
    all_goals simp (maxSteps := 1000000) only [go_sem, simprocAttr, ↓reduceIte]
end Go.Fv.Q

/- Boxes of pixels; regions that are chosen change: the walk. -/
namespace Go.Fv.Q
open Go Go.Proofs
set_option linter.unusedSimpArgs false
set_option linter.unusedVariables false
set_option linter.unnecessarySimpa false
set_option maxRecDepth 8000

theorem take_snoc {l : List Int} {k : Nat} (h : k < l.length) : l.take (k + 1) = l.take k ++ [l.getD k 0] := by
  rw [List.take_succ_eq_append_getElem h, getD_lt h]
theorem InPg.take {w h : Nat} {l : List Int} (hb : InPg w h l) (k : Nat) : InPg w h (l.take k) := fun i hi => hb i (List.mem_of_mem_take hi)
theorem bxBounds {w h : Nat} {l : List Int} (hb : InPg w h l) : (0 ≤ leftP w l ∧ leftP w l ≤ w) ∧ (0 ≤ topP w h l ∧ topP w h l ≤ h) ∧ (-1 ≤ rightP w l ∧ rightP w l ≤ w) ∧ (-1 ≤ botP w l ∧ botP w l ≤ h) := by
  have hbd := fun i hi => xy_bd' (hb i hi).1 (hb i hi).2
  have a1 := le_mnF (fun i => i % (w : Int)) l w
  have a2 := le_mnF (fun i => i / (w : Int)) l h
  have a3 := mxF_le (fun i => i % (w : Int)) l (-1)
  have a4 := mxF_le (fun i => i / (w : Int)) l (-1)
  change (∀ m, m ≤ leftP w l ↔ _) at a1
  change (∀ m, m ≤ topP w h l ↔ _) at a2
  change (∀ m, rightP w l ≤ m ↔ _) at a3
  change (∀ m, botP w l ≤ m ↔ _) at a4
  refine ⟨⟨(a1 0).2 ⟨by omega, fun i hi => (hbd i hi).1.1⟩, ((a1 _).1 (Int.le_refl _)).1⟩, ⟨(a2 0).2 ⟨by omega, fun i hi => (hbd i hi).2.1⟩, ((a2 _).1 (Int.le_refl _)).1⟩, ⟨((a3 _).1 (Int.le_refl _)).1, (a3 _).2 ⟨by omega, fun i hi => by have := (hbd i hi).1.2; (try dsimp only); omega⟩⟩, ⟨((a4 _).1 (Int.le_refl _)).1, (a4 _).2 ⟨by omega, fun i hi => by have := (hbd i hi).2.2; (try dsimp only); omega⟩⟩⟩
set_option maxHeartbeats 4000000 in
theorem boxOf_ok (w h : Nat) (hw : w ≤ 4000) (hh : h ≤ 4000) (hw1 : 1 ≤ w) (p : List Bool) (l : List Int) (hb : InPg w h l) :
    FnOk Tryz.prog 41 [.agg [.int .i64 w, .int .i64 h, .ro (.bools p)], .ro (.ints .i64 l)] (.agg (boxOf w h l).av) [] := by
  obtain ⟨⟨g1, g2⟩, ⟨g3, g4⟩, ⟨g5, g6⟩, ⟨g7, g8⟩⟩ := bxBounds hb
  refine FnOk.of_vc Tryz.func41 rfl (by decide) (by simp [Tryz.f41]) [.cell 4 26] rfl fun w0 T0 _ => ?_
  simp only [Tryz.f41, argEnv]
  (repeat' first | with_reducible (first | intro _ | refine rc ?_ | refine rl ?_ | refine rh ?_ | refine rt ?_ | refine rf ?_ | refine rs ?_ | refine And.intro ?_ ?_) | omega | simp (maxSteps := 1000000) only [go_sem, simprocAttr, ↓reduceIte])
  refine VcDraw.lex [] [] (by kernel_rfl) (by kernel_rfl) ?_
  (repeat' first | with_reducible (first | intro _ | refine rc ?_ | refine rl ?_ | refine rh ?_ | refine rt ?_ | refine rf ?_ | refine rs ?_ | refine And.intro ?_ ?_) | omega | simp (maxSteps := 1000000) only [go_sem, simprocAttr, ↓reduceIte])
  refine VcLoop.intro (fun k : Nat => ⟨55, [(19, .int .i64 k), (18, .int .i64 l.length), (17, .ro (.ints .i64 l)), (5, .int .i64 (leftP w (l.take k))), (6, .int .i64 (topP w h (l.take k))), (7, .int .i64 (rightP w (l.take k))), (8, .int .i64 (botP w (l.take k))), (2, .ptr 0 0), (4, .ptr 1 0)], [(0, .box 24 [.int .i64 w, .int .i64 h, .ro (.bools p)]), (1, .box 26 [.int .i64 0, .int .i64 0, .int .i64 0, .int .i64 0])], 2⟩) (fun k => k ≤ l.length) (fun k => l.length - k) 0 ?_ (Nat.zero_le _) fun k hk => ?_
  · refine Ent.auto0 rfl ?_ ?_ <;> simp only [go_sem, reduceCtorEq, reduceIte, Nat.reduceEqDiff, Nat.reduceLT, Nat.reduceLeDiff, Int.natCast_succ, List.take_zero, leftP, topP, rightP, botP, mnF, mxF, List.foldl_nil]
  by_cases hlt : k < l.length
  · obtain ⟨b1, b2⟩ := hb _ (getD_mem hlt)
    have hts := take_snoc hlt
    have hx : (l.getD k 0).tmod w = l.getD k 0 % w := Int.tmod_eq_emod_of_nonneg b1
    have hy : (l.getD k 0).tdiv w = l.getD k 0 / w := Int.tdiv_eq_ediv_of_nonneg b1
    have hxy := xy_bd' b1 b2
    (repeat' first | with_reducible (first | intro _ | refine rc ?_ | refine rl ?_ | refine rh ?_ | refine rt ?_ | refine rf ?_ | refine rs ?_ | refine And.intro ?_ ?_) | omega | simp (maxSteps := 1000000) only [go_sem, simprocAttr, ↓reduceIte, Int.toNat_natCast])
    refine VcDraw.lex [] [] (by kernel_rfl) (by kernel_rfl) ?_
    (repeat' first | with_reducible (first | intro _ | refine rc ?_ | refine rl ?_ | refine rh ?_ | refine rt ?_ | refine rf ?_ | refine rs ?_ | refine And.intro ?_ ?_) | omega | simp (maxSteps := 1000000) only [go_sem, simprocAttr, ↓reduceIte, Int.toNat_natCast, hx, hy, minmax])
    refine ⟨k + 1, Ent.auto0 rfl ?_ ?_, by omega, by omega⟩ <;> simp only [go_sem, reduceCtorEq, reduceIte, Nat.reduceEqDiff, Nat.reduceLT, Nat.reduceLeDiff, Int.natCast_succ, hts, leftP, topP, rightP, botP, mnF_snoc, mxF_snoc]
  · have e : k = l.length := by omega
    subst e
    rw [List.take_length]
    (repeat' first | with_reducible (first | intro _ | refine rc ?_ | refine rl ?_ | refine rh ?_ | refine rt ?_ | refine rf ?_ | refine rs ?_ | refine And.intro ?_ ?_) | omega | simp (maxSteps := 1000000) only [go_sem, simprocAttr, ↓reduceIte])
    refine Ret.auto 0 ?_ rfl ?_ <;> simp only [go_sem, reduceCtorEq, reduceIte, Nat.reduceEqDiff, Nat.reduceLT, Nat.reduceLeDiff, Int.natCast_succ, Post, Bx.av, boxOf, List.drop_zero]
def BxBd (b : Bx) : Prop := -10000 ≤ b.x ∧ b.x ≤ 10000 ∧ -10000 ≤ b.y ∧ b.y ≤ 10000 ∧ -10000 ≤ b.w ∧ b.w ≤ 10000 ∧ -10000 ≤ b.h ∧ b.h ≤ 10000
theorem boxOf_bd {w h : Nat} (hw : w ≤ 4000) (hh : h ≤ 4000) {l : List Int} (hb : InPg w h l) : BxBd (boxOf w h l) := by
  obtain ⟨⟨g1, g2⟩, ⟨g3, g4⟩, ⟨g5, g6⟩, ⟨g7, g8⟩⟩ := bxBounds hb
  unfold BxBd boxOf
  dsimp only
  omega
theorem specks1_ok (l : List Int) (b : Bx) (most : Int) :
    FnOk Tryz.prog 56 [.ro (.ints .i64 l), .agg b.av, .cell [.int .i64 most]] (.bool (speckB most l)) [] := by
  unfold Bx.av speckB
  refine FnOk.of_vc Tryz.func56 rfl (by decide) (by simp [Tryz.f56]) [.tmp 5] rfl fun w0 T0 _ => ?_
  simp only [Tryz.f56, argEnv]
  (repeat' first | with_reducible (first | intro _ | refine rc ?_ | refine rl ?_ | refine rh ?_ | refine rt ?_ | refine rf ?_ | refine rs ?_ | refine And.intro ?_ ?_) | omega | simp (maxSteps := 1000000) only [go_sem, simprocAttr, ↓reduceIte])
  refine Ret.auto 0 ?_ rfl ?_ <;> simp only [go_sem, reduceCtorEq, reduceIte, Nat.reduceEqDiff, Nat.reduceLT, Nat.reduceLeDiff, Int.natCast_succ, Post]
theorem changed1_ok (W H : Int) (p : List Bool) (i : Nat) (hi : i < p.length) :
    FnOk Tryz.prog 87 [.int .i64 i, .cell [.int .i64 W, .int .i64 H, .ro (.bools p)]] (.bool (p.getD i false)) [] := by
  refine FnOk.of_vc Tryz.func87 rfl (by decide) (by simp [Tryz.f87]) [.tmp 3] rfl fun w0 T0 _ => ?_
  simp only [Tryz.f87, argEnv]
  (repeat' first | with_reducible (first | intro _ | refine rc ?_ | refine rl ?_ | refine rh ?_ | refine rt ?_ | refine rf ?_ | refine rs ?_ | refine And.intro ?_ ?_) | omega | simp (maxSteps := 1000000) only [go_sem, simprocAttr, ↓reduceIte])
  refine Ret.auto 0 ?_ rfl ?_ <;> simp only [go_sem, reduceCtorEq, reduceIte, Nat.reduceEqDiff, Nat.reduceLT, Nat.reduceLeDiff, Int.natCast_succ, Post, Int.toNat_natCast]
theorem copyL (p : List Bool) {n : Nat} (h : p.length = n) : (List.range n).map (fun i => p.getD i false) = p := by
  subst h
  refine List.ext_getElem (by simp) fun k h1 h2 => ?_
  simp [h2]
set_option maxHeartbeats 8000000 in
theorem changed_err (w h : Nat) (hw1 : 1 ≤ w) (hw : w ≤ 1000) (hh1 : 1 ≤ h) (hh : h ≤ 1000) (p : List Bool) (hp : p.length = w * h) (ink cor : Bool) (f : Nat) (caps : List AV) [CapsOk caps] (most : Int) (hm : most < 0 ∨ 1048576 < most) :
    FnOk Tryz.prog 55 [.agg [.int .i64 w, .int .i64 h, .ro (.bools p)], .int .i64 most, .bool ink, .bool cor, .fn f caps] (.tup [.agg [.int .i64 0, .int .i64 0, .nilS], .int .i64 0, .int .i64 3]) [] := by
  refine FnOk.of_vc Tryz.func55 rfl (by decide) (by simp [Tryz.f55]) [.cell 10 24, .tmp 11, .tmp 12] rfl fun w0 T0 _ => ?_
  simp only [Tryz.f55, argEnv]
  (repeat' first | with_reducible (first | intro _ | refine rc ?_ | refine rl ?_ | refine rh ?_ | refine rt ?_ | refine rf ?_ | refine rs ?_ | refine And.intro ?_ ?_) | omega | simp (maxSteps := 1000000) only [go_sem, simprocAttr, ↓reduceIte])
  refine VcCall.k (checkBits_ok w h p) ?_
  rw [grayErr_ok hw1 hw hh1 hh hp]
  (repeat' first | with_reducible (first | intro _ | refine rc ?_ | refine rl ?_ | refine rh ?_ | refine rt ?_ | refine rf ?_ | refine rs ?_ | refine And.intro ?_ ?_) | omega | simp (maxSteps := 1000000) only [go_sem, simprocAttr, ↓reduceIte])
  refine Ret.auto 0 ?_ ?_ ?_ <;> simp only [go_sem, reduceCtorEq, reduceIte, Nat.reduceEqDiff, Nat.reduceLT, Nat.reduceLeDiff, Int.natCast_succ, Post, List.drop_zero]
set_option maxHeartbeats 8000000 in
theorem changed_ok (w h : Nat) (hw1 : 1 ≤ w) (hw : w ≤ 1000) (hh1 : 1 ≤ h) (hh : h ≤ 1000) (p : List Bool) (hp : p.length = w * h) (ink cor : Bool) (f : Nat) (caps : List AV) [CapsOk caps] (sel : List Int → Bool) (most : Int) (hm : 0 ≤ most ∧ most ≤ 1048576)
    (hsel : ∀ l, InPg w h l → FnFr Tryz.prog f ([.ro (.ints .i64 l), .agg (boxOf w h l).av] ++ caps) (.bool (sel l)) []) :
    FnOk Tryz.prog 55 [.agg [.int .i64 w, .int .i64 h, .ro (.bools p)], .int .i64 most, .bool ink, .bool cor, .fn f caps]
      (.tup [.agg [.int .i64 w, .int .i64 h, .own 0], .int .i64 (chgAll (!ink) sel p (pieces ⟨p, w, h, ink, cor⟩)).n, .int .i64 0]) [(0, .row 4 (.bools (chgAll (!ink) sel p (pieces ⟨p, w, h, ink, cor⟩)).p))] := by
  haveI c1 : CapsOk [.cell [.int .i64 w, .int .i64 h, .ro (.bools p)]] := ⟨rfl⟩
  have k1 := bits_ok w h (by omega) (by omega) 87 [.cell [.int .i64 w, .int .i64 h, .ro (.bools p)]] (fun i => p.getD i false) (fun i hi => FnFr.of_ok (changed1_ok w h p i (by omega)) rfl rfl)
  rw [copyL p hp] at k1
  have k2 := regions_ok w h hw1 hw hh1 hh p hp ink cor
  have hn : w * h ≤ 1000 * 1000 := Nat.mul_le_mul hw hh
  have hin : ∀ l, l ∈ pieces ⟨p, w, h, ink, cor⟩ → InPg w h l ∧ l.length ≤ w * h := fun l hl => by
    obtain ⟨j, hj, ho⟩ := pieces_ok _ l hl
    exact ⟨fun i hi => by have := ho.bd i hi; dsimp only at this; omega, ho.le⟩
  have hRl : (pieces ⟨p, w, h, ink, cor⟩).length ≤ w * h := pieces_len _
  generalize pieces ⟨p, w, h, ink, cor⟩ = R at *
  refine FnOk.of_vc Tryz.func55 rfl (by decide) (by simp [Tryz.f55]) [.cell 10 24, .tmp 11, .tmp 12] rfl fun w0 T0 _ => ?_
  simp only [Tryz.f55, argEnv]
  (repeat' first | with_reducible (first | intro _ | refine rc ?_ | refine rl ?_ | refine rh ?_ | refine rt ?_ | refine rf ?_ | refine rs ?_ | refine And.intro ?_ ?_) | omega | simp (maxSteps := 1000000) only [go_sem, simprocAttr, ↓reduceIte])
  refine VcCall.k (checkBits_ok w h p) ?_
  rw [grayErr_ok hw1 hw hh1 hh hp]
  (repeat' first | with_reducible (first | intro _ | refine rc ?_ | refine rl ?_ | refine rh ?_ | refine rt ?_ | refine rf ?_ | refine rs ?_ | refine And.intro ?_ ?_) | omega | simp (maxSteps := 1000000) only [go_sem, simprocAttr, ↓reduceIte])
  refine VcCall.fr (FnFr.of_ok k1 rfl rfl) (by simp only [noIdR_ok, argOkL, argOk, allOk, argOkN, List.drop_zero, lk, reduceIte, reduceCtorEq, Nat.reduceEqDiff, Option.some.injEq, Item.row.injEq, Item.box.injEq, AV.ro.injEq, exists_eq_left, exists_and_left, exists_eq_left', exists_eq_right, and_assoc, and_true, true_and, List.cons.injEq, exists_eq', exists_eq]) 1 rfl (by simp [rowsB, Item.below, Fv.below, belowL]) ?_
  (repeat' first | with_reducible (first | intro _ | refine rc ?_ | refine rl ?_ | refine rh ?_ | refine rt ?_ | refine rf ?_ | refine rs ?_ | refine And.intro ?_ ?_) | omega | simp (maxSteps := 1000000) only [go_sem, simprocAttr, ↓reduceIte])
  refine VcCall.ros (.ro (.objs 1 (R.map gAv))) k2 (by simp only [noIdR_ok, argOkL, argOk, allOk, argOkN, List.drop_zero, lk, reduceIte, reduceCtorEq, Nat.reduceEqDiff, Option.some.injEq, Item.row.injEq, Item.box.injEq, AV.ro.injEq, exists_eq_left, exists_and_left, exists_eq_left', exists_eq_right, and_assoc, and_true, true_and, List.cons.injEq, exists_eq', exists_eq]) (by simp [outOk, argOk, argOkN, lk, noIdR_ok]) rfl ?_
  (repeat' first | with_reducible (first | intro _ | refine rc ?_ | refine rl ?_ | refine rh ?_ | refine rt ?_ | refine rf ?_ | refine rs ?_ | refine And.intro ?_ ?_) | omega | simp (maxSteps := 1000000) only [go_sem, simprocAttr, ↓reduceIte])
  refine VcLoop.intro (fun k : Nat => ⟨72, [(44, .int .i64 k), (43, .int .i64 R.length), (42, .ro (.objs 1 (R.map gAv))), (15, .int .i64 (chgAll (!ink) sel p (R.take k)).n), (14, .ptr 2 0), (10, .ptr 1 0), (5, .ptr 0 0), (4, .fn f caps), (2, .bool ink)], [(0, .box 24 [.int .i64 w, .int .i64 h, .ro (.bools p)]), (1, .box 24 [.int .i64 0, .int .i64 0, .nilS]), (2, .box 24 [.int .i64 w, .int .i64 h, .own 3]), (3, .row 4 (.bools (chgAll (!ink) sel p (R.take k)).p))], 4⟩) (fun k => k ≤ R.length) (fun k => R.length - k) 0 ?_ (Nat.zero_le _) fun k hk => ?_
  · refine Ent.auto0 rfl ?_ ?_ <;> simp only [go_sem, reduceCtorEq, reduceIte, Nat.reduceEqDiff, Nat.reduceLT, Nat.reduceLeDiff, Int.natCast_succ, List.take_zero, chgAll, List.foldl_nil]
  by_cases hlt : k < R.length
  · have hel := g_elem R hlt
    have hts : R.take (k + 1) = R.take k ++ [R.getD k []] := by rw [List.take_succ_eq_append_getElem hlt, getD_lt hlt]
    obtain ⟨hb, hll⟩ := hin (R.getD k []) (by rw [getD_lt hlt]; exact List.getElem_mem hlt)
    have hcl := chgAll_len (!ink) sel p (R.take k)
    have hcs := chgAll_snoc (!ink) sel p (R.take k) (R.getD k [])
    rw [← hts] at hcs
    rw [List.length_take] at hcl
    generalize chgAll (!ink) sel p (R.take k) = C at *
    generalize R.getD k [] = l at *
    have ks := hsel l hb
    have kb := boxOf_ok w h (by omega) (by omega) hw1 p l hb
    generalize boxOf w h l = b at *
    unfold CS.step at hcs
    obtain ⟨P, n⟩ := C
    dsimp only at hcl hcs
    (repeat' first | with_reducible (first | intro _ | refine rc ?_ | refine rl ?_ | refine rh ?_ | refine rt ?_ | refine rf ?_ | refine rs ?_ | refine And.intro ?_ ?_) | omega | simp (maxSteps := 1000000) only [go_sem, simprocAttr, ↓reduceIte, elemA, hel])
    refine VcCall.k kb ?_
    unfold Bx.av at *
    (repeat' first | with_reducible (first | intro _ | refine rc ?_ | refine rl ?_ | refine rh ?_ | refine rt ?_ | refine rf ?_ | refine rs ?_ | refine And.intro ?_ ?_) | omega | simp (maxSteps := 1000000) only [go_sem, simprocAttr, ↓reduceIte, elemA, hel])
    refine VcCall.fr (args' := [.ro (.ints .i64 l), .agg [.int .i64 b.x, .int .i64 b.y, .int .i64 b.w, .int .i64 b.h]] ++ caps) ks (by simp [argOkL, allOk, argOkN, allOk_caps]) 0 rfl (by simp [rowsB]) ?_
    generalize sel l = sl at *
    cases sl
    · rw [if_neg (by decide)] at hcs
      (repeat' first | with_reducible (first | intro _ | refine rc ?_ | refine rl ?_ | refine rh ?_ | refine rt ?_ | refine rf ?_ | refine rs ?_ | refine And.intro ?_ ?_) | omega | simp (maxSteps := 1000000) only [go_sem, simprocAttr, ↓reduceIte])
      refine ⟨k + 1, Ent.auto0 rfl ?_ ?_, by omega, by omega⟩ <;> simp only [go_sem, reduceCtorEq, reduceIte, Nat.reduceEqDiff, Nat.reduceLT, Nat.reduceLeDiff, Int.natCast_succ, hcs]
    · rw [if_pos rfl] at hcs
      (repeat' first | with_reducible (first | intro _ | refine rc ?_ | refine rl ?_ | refine rh ?_ | refine rt ?_ | refine rf ?_ | refine rs ?_ | refine And.intro ?_ ?_) | omega | simp (maxSteps := 1000000) only [go_sem, simprocAttr, ↓reduceIte])
      refine VcLoop.intro (fun m : Nat => ⟨72, [(58, .int .i64 m), (57, .int .i64 l.length), (56, .ro (.ints .i64 l)), (44, .int .i64 k), (43, .int .i64 R.length), (42, .ro (.objs 1 (R.map gAv))), (15, .int .i64 (n + 1 : Nat)), (14, .ptr 2 0), (10, .ptr 1 0), (5, .ptr 0 0), (4, .fn f caps), (2, .bool ink)], [(0, .box 24 [.int .i64 w, .int .i64 h, .ro (.bools p)]), (1, .box 24 [.int .i64 0, .int .i64 0, .nilS]), (2, .box 24 [.int .i64 w, .int .i64 h, .own 3]), (3, .row 4 (.bools (chg (!ink) P (l.take m))))], 4⟩) (fun m => m ≤ l.length) (fun m => l.length - m) 0 ?_ (Nat.zero_le _) fun m hm => ?_
      · refine Ent.auto0 rfl ?_ ?_ <;> simp only [go_sem, reduceCtorEq, reduceIte, Nat.reduceEqDiff, Nat.reduceLT, Nat.reduceLeDiff, Int.natCast_succ, List.take_zero, chg, List.foldl_nil]
      by_cases hml : m < l.length
      · obtain ⟨b1, b2⟩ := hb _ (getD_mem hml)
        have hms := take_snoc hml
        have hpl := chg_len (!ink) (l.take m) P
        have hsn := chg_snoc (!ink) P (l.take m) (l.getD m 0)
        rw [← hms] at hsn
        (repeat' first | with_reducible (first | intro _ | refine rc ?_ | refine rl ?_ | refine rh ?_ | refine rt ?_ | refine rf ?_ | refine rs ?_ | refine And.intro ?_ ?_) | omega | simp (maxSteps := 1000000) only [go_sem, simprocAttr, ↓reduceIte, Int.toNat_natCast])
        refine ⟨m + 1, Ent.auto0 rfl ?_ ?_, by omega, by omega⟩ <;> simp only [go_sem, reduceCtorEq, reduceIte, Nat.reduceEqDiff, Nat.reduceLT, Nat.reduceLeDiff, Int.natCast_succ, hsn]
      · have e : m = l.length := by omega
        subst e
        rw [List.take_length]
        (repeat' first | with_reducible (first | intro _ | refine rc ?_ | refine rl ?_ | refine rh ?_ | refine rt ?_ | refine rf ?_ | refine rs ?_ | refine And.intro ?_ ?_) | omega | simp (maxSteps := 1000000) only [go_sem, simprocAttr, ↓reduceIte])
        refine ⟨k + 1, Ent.auto0 rfl ?_ ?_, by omega, by omega⟩ <;> simp only [go_sem, reduceCtorEq, reduceIte, Nat.reduceEqDiff, Nat.reduceLT, Nat.reduceLeDiff, Int.natCast_succ, hcs]
  · have e : k = R.length := by omega
    subst e
    rw [List.take_length]
    (repeat' first | with_reducible (first | intro _ | refine rc ?_ | refine rl ?_ | refine rh ?_ | refine rt ?_ | refine rf ?_ | refine rs ?_ | refine And.intro ?_ ?_) | omega | simp (maxSteps := 1000000) only [go_sem, simprocAttr, ↓reduceIte])
    refine Ret.auto 1 ?_ rfl ?_ <;> simp only [go_sem, reduceCtorEq, reduceIte, Nat.reduceEqDiff, Nat.reduceLT, Nat.reduceLeDiff, Int.natCast_succ, Post, List.drop_zero]
end Go.Fv.Q

/- The reference's parts: the walk. -/
namespace Go.Fv.Q
open Go Go.Proofs
set_option linter.unusedSimpArgs false
set_option linter.unusedVariables false
set_option linter.unnecessarySimpa false
set_option maxRecDepth 8000

theorem part_t {a b k : Bool} (h : (a || decide ¬ b = k) = true) : a = true ∨ (b == k) = false := by revert h; cases a <;> cases b <;> cases k <;> simp
theorem part_f {a b k : Bool} (h : (a || decide ¬ b = k) = false) : ¬ (a = true ∨ (b == k) = false) := by revert h; cases a <;> cases b <;> cases k <;> simp
theorem mark_t {a b k : Bool} (h : (!a && decide (b = k)) = true) : ¬ (a = true ∨ (b == k) = false) := by revert h; cases a <;> cases b <;> cases k <;> simp
theorem mark_f {a b k : Bool} (h : (!a && decide (b = k)) = false) : a = true ∨ (b == k) = false := by revert h; cases a <;> cases b <;> cases k <;> simp
set_option maxHeartbeats 8000000 in
theorem parts_ok (w h : Nat) (hw1 : 1 ≤ w) (hw : w ≤ 1000) (hh1 : 1 ≤ h) (hh : h ≤ 1000) (p : List Bool) (hp : p.length = w * h) (ink : Bool) :
    FnOk Tryz.prog 74 [.agg [.int .i64 w, .int .i64 h, .ro (.bools p)], .bool ink] (.own 0) [(0, .row 64 (.objs 1 (((pieces ⟨p, w, h, ink, ink⟩).map sortI).map gAv)))] := by
  have hn : w * h ≤ 1000 * 1000 := Nat.mul_le_mul hw hh
  have hst : StepOk (Pg2.ok ⟨p, w, h, ink, ink⟩) (w * h) (pix ⟨p, w, h, ink, ink⟩) := pix_step ⟨p, w, h, ink, ink⟩
  have hRl : (pieces ⟨p, w, h, ink, ink⟩).length ≤ w * h := pieces_len ⟨p, w, h, ink, ink⟩
  have hpt : ∀ c0 s x y v u, RInv (Pg2.ok ⟨p, w, h, ink, ink⟩) (w * h) c0 s → RInv (Pg2.ok ⟨p, w, h, ink, ink⟩) (w * h) c0 (pt9 ⟨p, w, h, ink, ink⟩ x y v s u) ∧ RLe s (pt9 ⟨p, w, h, ink, ink⟩ x y v s u) :=
    fun c0 s x y v u hs => by
      unfold pt9
      split
      · rename_i ho
        exact pt_inv (g := ⟨p, w, h, ink, ink⟩) hs ⟨ho.1, ho.2.2.1⟩ ⟨ho.2.1, ho.2.2.2⟩
      · exact ⟨hs, RLe.refl s⟩
  have hrw : ∀ c0 s x y v, RInv (Pg2.ok ⟨p, w, h, ink, ink⟩) (w * h) c0 s → RInv (Pg2.ok ⟨p, w, h, ink, ink⟩) (w * h) c0 (row9 ⟨p, w, h, ink, ink⟩ x y s v) ∧ RLe s (row9 ⟨p, w, h, ink, ink⟩ x y s v) :=
    fun c0 s x y v hs => fold_inv (P := RInv (Pg2.ok ⟨p, w, h, ink, ink⟩) (w * h) c0) (R := RLe) RLe.refl (fun _ _ _ h h' => h.trans h') _ s hs fun s u hs _ => hpt c0 s x y v u hs
  generalize hg : (⟨p, w, h, ink, ink⟩ : Pg2) = g at *
  generalize hR : pieces g = R at *
  refine FnOk.of_vc Tryz.func74 rfl (by decide) (by simp [Tryz.f74]) [.tmp 4] rfl fun w0 T0 _ => ?_
  simp only [Tryz.f74, argEnv]
  (repeat' first | with_reducible (first | intro _ | refine rc ?_ | refine rl ?_ | refine rh ?_ | refine rt ?_ | refine rf ?_ | refine rs ?_ | refine And.intro ?_ ?_) | omega | simp (maxSteps := 1000000) only [go_sem, simprocAttr, ↓reduceIte, hp])
  refine VcLoop.intro (fun x : Nat × List Bool × List (List Int) => ⟨144, [(24, .int .i64 (x.1 : Nat)), (23, .int .i64 (w * h : Nat)), (6, .own 2), (5, .own 1), (2, .ptr 0 0), (1, .bool ink)], [(0, .box 24 [.int .i64 w, .int .i64 h, .ro (.bools p)]), (1, .row 4 (.bools x.2.1)), (2, .row 64 (.objs 1 ((x.2.2.map sortI).map gAv)))], 3⟩) (fun x => x.1 ≤ w * h ∧ SInv g.ok (w * h) x.1 x.2.1 ∧ x.2.2 ++ regs g.ok (pix g) (w * h) (w * h - x.1) x.1 x.2.1 = R) (fun x => w * h - x.1) (0, List.replicate (w * h) false, []) ?_ ⟨Nat.zero_le _, SInv.zero _ _, ?_⟩ fun x hx => ?_
  · refine Ent.auto0 rfl ?_ ?_ <;> simp only [go_sem, reduceCtorEq, reduceIte, Nat.reduceEqDiff, Nat.reduceLT, Nat.reduceLeDiff, Int.natCast_succ, zrow, List.map_nil, Int.toNat_natCast]
  · subst hg
    dsimp only
    rw [Nat.sub_zero, List.nil_append]
    exact hR
  obtain ⟨i, seen, D⟩ := x
  obtain ⟨hi, hS, hD⟩ := hx
  dsimp only at hi hS hD ⊢
  have hsl := hS.len
  by_cases hlt : i < w * h
  · obtain ⟨m, hm⟩ : ∃ m, w * h - i = m + 1 := ⟨w * h - i - 1, by omega⟩
    have hm' : w * h - (i + 1) = m := by omega
    have hok : g.ok i = (p.getD i false == ink) := by subst hg; rfl
    rw [hm] at hD
    simp only [regs] at hD
    (repeat' first | with_reducible (first | intro _ | refine rc ?_ | refine rl ?_ | refine rh ?_ | refine rt ?_ | refine rf ?_ | refine rs ?_ | refine And.intro ?_ ?_) | omega | simp (maxSteps := 1000000) only [go_sem, simprocAttr, ↓reduceIte, Int.toNat_natCast, hsl, hp])
    refine Chk.g ?_ (fun h => ⟨h, by omega⟩)
    refine Ite.bool (fun hc => ?_) (fun hc => ?_)
    · have hs : seen.getD i false = true ∨ g.ok i = false := by rw [hok]; exact part_t hc
      rw [if_pos hs] at hD
      (repeat' first | with_reducible (first | intro _ | refine rc ?_ | refine rl ?_ | refine rh ?_ | refine rt ?_ | refine rf ?_ | refine rs ?_ | refine And.intro ?_ ?_) | omega | simp (maxSteps := 1000000) only [go_sem, simprocAttr, ↓reduceIte])
      refine ⟨(i + 1, seen, D), Ent.auto0 rfl ?_ ?_, ⟨by omega, hS.skip hs, by dsimp only; rw [hm']; exact hD⟩, by dsimp only; omega⟩ <;> simp only [go_sem, reduceCtorEq, reduceIte, Nat.reduceEqDiff, Nat.reduceLT, Nat.reduceLeDiff, Int.natCast_succ]
    · have hs : ¬ (seen.getD i false = true ∨ g.ok i = false) := by rw [hok]; exact part_f hc
      rw [if_neg hs] at hD
      have hI := hS.start hlt hs
      obtain ⟨hS2, hO2, _⟩ := hS.region hst hlt hs (w * h)
      generalize hF : bfs (pix g) (w * h) 0 ⟨seen.set i true, [(i : Int)]⟩ = F at *
      generalize seen.count true = c0 at *
      (repeat' first | with_reducible (first | intro _ | refine rc ?_ | refine rl ?_ | refine rh ?_ | refine rt ?_ | refine rf ?_ | refine rs ?_ | refine And.intro ?_ ?_) | omega | simp (maxSteps := 1000000) only [go_sem, simprocAttr, ↓reduceIte, Int.toNat_natCast, hsl, hp])
      refine VcLoop.intro (fun x : Nat × RS => ⟨144, [(9, .int .i64 (x.1 : Nat)), (8, .own 3), (24, .int .i64 (i : Nat)), (23, .int .i64 (w * h : Nat)), (6, .own 2), (5, .own 1), (2, .ptr 0 0), (1, .bool ink)], [(0, .box 24 [.int .i64 w, .int .i64 h, .ro (.bools p)]), (1, .row 4 (.bools x.2.seen)), (2, .row 64 (.objs 1 ((D.map sortI).map gAv))), (3, .row 3 (.ints .i64 x.2.l))], 4⟩) (fun x => x.1 ≤ x.2.l.length ∧ RInv g.ok (w * h) c0 x.2 ∧ bfs (pix g) (w * h - x.1) x.1 x.2 = F) (fun x => w * h - x.1) (0, ⟨seen.set i true, [(i : Int)]⟩) ?_ ⟨Nat.zero_le _, hI, hF⟩ fun x hx => ?_
      · refine Ent.auto0 rfl ?_ ?_ <;> simp only [go_sem, reduceCtorEq, reduceIte, Nat.reduceEqDiff, Nat.reduceLT, Nat.reduceLeDiff, Int.natCast_succ]
      obtain ⟨k, s⟩ := x
      obtain ⟨hk, hI, hF⟩ := hx
      dsimp only at hk hI hF ⊢
      have hll := hI.le
      have hDl : D.length ≤ w * h := by
        rw [← hD, List.length_append] at hRl
        omega
      by_cases hlk : k < s.l.length
      · obtain ⟨hb1, hb2⟩ := hI.bd _ (getD_mem hlk)
        obtain ⟨m2, hm2⟩ : ∃ m2, w * h - k = m2 + 1 := ⟨w * h - k - 1, by omega⟩
        have hm2' : w * h - (k + 1) = m2 := by omega
        rw [hm2, bfs_step _ hlk] at hF
        obtain ⟨c, hc⟩ : ∃ c : Nat, s.l.getD k 0 = c := ⟨(s.l.getD k 0).toNat, by omega⟩
        rw [hc] at hF hb2
        have hgw : g.w = w := by subst hg; rfl
        have hgh : g.h = h := by subst hg; rfl
        rw [← pix9_eq g s (c := (c : Int)) (by omega) (by rw [hgw, hgh]; exact hb2)] at hF
        obtain ⟨⟨_, hx2⟩, _, hy2⟩ := xy_bd (g := g) (c := c) (by omega) (by subst hg; exact hb2)
        rw [hgw] at hx2 hy2
        rw [hgh] at hy2
        have ex : (c : Int) % (w : Int) = ((c % w : Nat) : Int) := rfl
        have ey : (c : Int) / (w : Int) = ((c / w : Nat) : Int) := rfl
        rw [ex] at hx2
        rw [ey] at hy2
        generalize hQ : pix9 g s (c : Int) = Q at *
        unfold pix9 at hQ
        rw [hgw, ex, ey] at hQ
        generalize hx0 : c % w = x at *
        generalize hy0 : c / w = y at *
        (repeat' first | with_reducible (first | intro _ | refine rc ?_ | refine rl ?_ | refine rh ?_ | refine rt ?_ | refine rf ?_ | refine rs ?_ | refine And.intro ?_ ?_) | omega | simp (maxSteps := 1000000) only [go_sem, simprocAttr, ↓reduceIte, Int.toNat_natCast])
        refine VcDraw.lex [] [] (by kernel_rfl) (by kernel_rfl) ?_
        (repeat' first | with_reducible (first | intro _ | refine rc ?_ | refine rl ?_ | refine rh ?_ | refine rt ?_ | refine rf ?_ | refine rs ?_ | refine And.intro ?_ ?_) | omega | simp (maxSteps := 1000000) only [go_sem, simprocAttr, ↓reduceIte, Int.toNat_natCast, hc, up_tmod, up_tdiv, minmax, hx0, hy0])
        refine VcLoop.intro (fun z : Int × RS => ⟨144, [(12, .int .i64 z.1), (11, .int .i64 (y : Nat)), (10, .int .i64 (x : Nat)), (9, .int .i64 (k : Nat)), (8, .own 3), (24, .int .i64 (i : Nat)), (23, .int .i64 (w * h : Nat)), (6, .own 2), (5, .own 1), (2, .ptr 0 0), (1, .bool ink)], [(0, .box 24 [.int .i64 w, .int .i64 h, .ro (.bools p)]), (1, .row 4 (.bools z.2.seen)), (2, .row 64 (.objs 1 ((D.map sortI).map gAv))), (3, .row 3 (.ints .i64 z.2.l))], 4⟩) (fun z => -1 ≤ z.1 ∧ z.1 ≤ 2 ∧ RInv g.ok (w * h) c0 z.2 ∧ k < z.2.l.length ∧ (rng (y + z.1) (2 - z.1).toNat).foldl (row9 g x y) z.2 = Q) (fun z => (2 - z.1).toNat) (-1, s) ?_ ⟨by dsimp only; omega, by dsimp only; omega, hI, hlk, by have h1 := hQ; rw [Int.sub_eq_add_neg] at h1; exact h1⟩ fun z hz => ?_
        · refine Ent.auto0 rfl ?_ ?_ <;> simp only [go_sem, reduceCtorEq, reduceIte, Nat.reduceEqDiff, Nat.reduceLT, Nat.reduceLeDiff, Int.natCast_succ]
        obtain ⟨dy, t⟩ := z
        obtain ⟨hv1, hv2, hIt, hkt, hrest⟩ := hz
        dsimp only at hv1 hv2 hIt hkt hrest ⊢
        have hlt2 := hIt.le
        by_cases hv : dy ≤ 1
        · obtain ⟨m3, hm3⟩ : ∃ m3, (2 - dy).toNat = m3 + 1 := ⟨(2 - dy).toNat - 1, by omega⟩
          have hm3' : (2 - (dy + 1)).toNat = m3 := by omega
          rw [hm3] at hrest
          simp only [rng, List.foldl_cons] at hrest
          obtain ⟨hI3, hL3⟩ := hrw c0 t x y (y + dy) hIt
          have hl3 := hL3.len
          generalize hQ2 : row9 g x y t (y + dy) = Q2 at *
          unfold row9 at hQ2
          (repeat' first | with_reducible (first | intro _ | refine rc ?_ | refine rl ?_ | refine rh ?_ | refine rt ?_ | refine rf ?_ | refine rs ?_ | refine And.intro ?_ ?_) | omega | simp (maxSteps := 1000000) only [go_sem, simprocAttr, ↓reduceIte, Int.toNat_natCast, minmax])
          refine VcLoop.intro (fun z : Int × RS => ⟨144, [(13, .int .i64 z.1), (12, .int .i64 dy), (11, .int .i64 (y : Nat)), (10, .int .i64 (x : Nat)), (9, .int .i64 (k : Nat)), (8, .own 3), (24, .int .i64 (i : Nat)), (23, .int .i64 (w * h : Nat)), (6, .own 2), (5, .own 1), (2, .ptr 0 0), (1, .bool ink)], [(0, .box 24 [.int .i64 w, .int .i64 h, .ro (.bools p)]), (1, .row 4 (.bools z.2.seen)), (2, .row 64 (.objs 1 ((D.map sortI).map gAv))), (3, .row 3 (.ints .i64 z.2.l))], 4⟩) (fun z => -1 ≤ z.1 ∧ z.1 ≤ 2 ∧ RInv g.ok (w * h) c0 z.2 ∧ (rng (x + z.1) (2 - z.1).toNat).foldl (pt9 g x y (y + dy)) z.2 = Q2) (fun z => (2 - z.1).toNat) (-1, t) ?_ ⟨by dsimp only; omega, by dsimp only; omega, hIt, by have h1 := hQ2; rw [Int.sub_eq_add_neg] at h1; exact h1⟩ fun z hz => ?_
          · refine Ent.auto0 rfl ?_ ?_ <;> simp only [go_sem, reduceCtorEq, reduceIte, Nat.reduceEqDiff, Nat.reduceLT, Nat.reduceLeDiff, Int.natCast_succ]
          clear hlt2
          obtain ⟨dx, t⟩ := z
          obtain ⟨hu1, hu2, hIu, hrest2⟩ := hz
          dsimp only at hu1 hu2 hIu hrest2 ⊢
          have hlu := hIu.le
          have hsu := hIu.len
          by_cases hu : dx ≤ 1
          · obtain ⟨m4, hm4⟩ : ∃ m4, (2 - dx).toNat = m4 + 1 := ⟨(2 - dx).toNat - 1, by omega⟩
            have hm4' : (2 - (dx + 1)).toNat = m4 := by omega
            rw [hm4] at hrest2
            simp only [rng, List.foldl_cons] at hrest2
            have hI4 := (hpt c0 t x y (y + dy) (x + dx) hIu).1
            have eu : (x : Int) + dx + 1 = x + (dx + 1) := by omega
            rw [eu] at hrest2
            have hRS : pt9 g x y (y + dy) t (x + dx) = if 0 ≤ (x : Int) + dx ∧ 0 ≤ (y : Int) + dy ∧ (x : Int) + dx < w ∧ (y : Int) + dy < h then (if ink = false ∧ (x : Int) + dx ≠ x ∧ (y : Int) + dy ≠ y then t else t.vis g.ok (((y : Int) + dy) * w + (x + dx)).toNat) else t := by
              unfold pt9 okAt RS.pt
              subst hg
              rfl
            rw [hRS] at hI4 hrest2
            (repeat' first | with_reducible (first | intro _ | refine rc ?_ | refine rl ?_ | refine rh ?_ | refine rt ?_ | refine rf ?_ | refine rs ?_ | refine And.intro ?_ ?_) | omega | simp (maxSteps := 1000000) only [go_sem, simprocAttr, ↓reduceIte, Int.toNat_natCast, minmax, hp])
            refine Chk.g (Chk.g (Ite.bool (fun hc => ?_) (fun hc => ?_)) (fun h => ⟨h, fun h2 => ⟨h, h2⟩⟩)) (fun h => ⟨h, fun h2 => ⟨h, h2⟩⟩)
            · have e : (if 0 ≤ (x : Int) + dx ∧ 0 ≤ (y : Int) + dy ∧ (x : Int) + dx < w ∧ (y : Int) + dy < h then (if ink = false ∧ (x : Int) + dx ≠ x ∧ (y : Int) + dy ≠ y then t else t.vis g.ok (((y : Int) + dy) * w + (x + dx)).toNat) else t) = t := by
                simp only [Bool.or_eq_true, decide_eq_true_eq, Bool.and_eq_true, Bool.not_eq_true'] at hc
                rcases hc with h1 | ⟨⟨h1, h2⟩, h3⟩
                · rw [if_neg (by omega)]
                · rw [if_pos (show ink = false ∧ (x : Int) + dx ≠ x ∧ (y : Int) + dy ≠ y from ⟨h1, by omega, by omega⟩), ite_self]
              rw [e] at hI4 hrest2
              (repeat' first | with_reducible (first | intro _ | refine rc ?_ | refine rl ?_ | refine rh ?_ | refine rt ?_ | refine rf ?_ | refine rs ?_ | refine And.intro ?_ ?_) | omega | simp (maxSteps := 1000000) only [go_sem, simprocAttr, ↓reduceIte, Int.toNat_natCast, minmax, hp])
              refine ⟨(dx + 1, t), Ent.auto0 rfl ?_ ?_, ⟨by dsimp only; omega, by dsimp only; omega, hI4, by dsimp only; rw [hm4']; exact hrest2⟩, by dsimp only; omega⟩ <;> simp only [go_sem, reduceCtorEq, reduceIte, Nat.reduceEqDiff, Nat.reduceLT, Nat.reduceLeDiff, Int.natCast_succ]
            · simp only [Bool.or_eq_false_iff, decide_eq_false_iff_not] at hc
              obtain ⟨h1, h2⟩ := hc
              have hu0 : 0 ≤ (x : Int) + dx ∧ (x : Int) + dx < w := by omega
              have hv0 : 0 ≤ (y : Int) + dy ∧ (y : Int) + dy < h := by omega
              rw [if_pos (show 0 ≤ (x : Int) + dx ∧ 0 ≤ (y : Int) + dy ∧ (x : Int) + dx < w ∧ (y : Int) + dy < h by omega), if_neg (by
                rintro ⟨k1, k2, k3⟩
                rw [k1, decide_eq_true (show ¬ dx = 0 by omega), decide_eq_true (show ¬ dy = 0 by omega)] at h2
                cases h2)] at hI4 hrest2
              obtain ⟨hc1, hc2, hc3⟩ := cell_lt hu0 hv0
              have hvw0 : 0 ≤ ((y : Int) + dy) * (w : Int) := Int.mul_nonneg hv0.1 (by omega)
              obtain ⟨q, hq⟩ : ∃ q : Nat, ((y : Int) + dy) * (w : Int) + (x + dx) = q := ⟨(((y : Int) + dy) * (w : Int) + (x + dx)).toNat, by omega⟩
              rw [hq, Int.toNat_natCast] at hI4 hrest2
              have hqn : q < w * h := by omega
              have hokq : g.ok q = (p.getD q false == ink) := by subst hg; rfl
              unfold RS.vis at hI4 hrest2
              rw [hokq] at hI4 hrest2
              (repeat' first | with_reducible (first | intro _ | refine rc ?_ | refine rl ?_ | refine rh ?_ | refine rt ?_ | refine rf ?_ | refine rs ?_ | refine And.intro ?_ ?_) | omega | simp (maxSteps := 1000000) only [go_sem, simprocAttr, ↓reduceIte, Int.toNat_natCast, minmax, hp, hq])
              refine Chk.g (Ite.bool (fun hc => ?_) (fun hc => ?_)) (fun h => ⟨h, by omega⟩)
              · rw [if_neg (mark_t hc)] at hI4 hrest2
                (repeat' first | with_reducible (first | intro _ | refine rc ?_ | refine rl ?_ | refine rh ?_ | refine rt ?_ | refine rf ?_ | refine rs ?_ | refine And.intro ?_ ?_) | omega | simp (maxSteps := 1000000) only [go_sem, simprocAttr, ↓reduceIte, Int.toNat_natCast, minmax, hp, hq, hsu])
                refine ⟨(dx + 1, ⟨t.seen.set q true, t.l ++ [(q : Int)]⟩), Ent.auto0 rfl ?_ ?_, ⟨by dsimp only; omega, by dsimp only; omega, hI4, by dsimp only; rw [hm4']; exact hrest2⟩, by dsimp only; omega⟩ <;> simp only [go_sem, reduceCtorEq, reduceIte, Nat.reduceEqDiff, Nat.reduceLT, Nat.reduceLeDiff, Int.natCast_succ]
              · rw [if_pos (mark_f hc)] at hI4 hrest2
                (repeat' first | with_reducible (first | intro _ | refine rc ?_ | refine rl ?_ | refine rh ?_ | refine rt ?_ | refine rf ?_ | refine rs ?_ | refine And.intro ?_ ?_) | omega | simp (maxSteps := 1000000) only [go_sem, simprocAttr, ↓reduceIte, Int.toNat_natCast, minmax, hp, hq])
                refine ⟨(dx + 1, t), Ent.auto0 rfl ?_ ?_, ⟨by dsimp only; omega, by dsimp only; omega, hI4, by dsimp only; rw [hm4']; exact hrest2⟩, by dsimp only; omega⟩ <;> simp only [go_sem, reduceCtorEq, reduceIte, Nat.reduceEqDiff, Nat.reduceLT, Nat.reduceLeDiff, Int.natCast_succ]
          · have eu : dx = 2 := by omega
            subst eu
            have e : t = Q2 := hrest2
            subst e
            (repeat' first | with_reducible (first | intro _ | refine rc ?_ | refine rl ?_ | refine rh ?_ | refine rt ?_ | refine rf ?_ | refine rs ?_ | refine And.intro ?_ ?_) | omega | simp (maxSteps := 1000000) only [go_sem, simprocAttr, ↓reduceIte, Int.toNat_natCast, minmax])
            have ed : (y : Int) + dy + 1 = y + (dy + 1) := by omega
            rw [ed] at hrest
            refine ⟨(dy + 1, t), Ent.auto0 rfl ?_ ?_, ⟨by dsimp only; omega, by dsimp only; omega, hI3, by dsimp only; omega, by dsimp only; rw [hm3']; exact hrest⟩, by dsimp only; omega⟩ <;> simp only [go_sem, reduceCtorEq, reduceIte, Nat.reduceEqDiff, Nat.reduceLT, Nat.reduceLeDiff, Int.natCast_succ]
        · have ev : dy = 2 := by omega
          subst ev
          have e : t = Q := hrest
          subst e
          (repeat' first | with_reducible (first | intro _ | refine rc ?_ | refine rl ?_ | refine rh ?_ | refine rt ?_ | refine rf ?_ | refine rs ?_ | refine And.intro ?_ ?_) | omega | simp (maxSteps := 1000000) only [go_sem, simprocAttr, ↓reduceIte, Int.toNat_natCast, minmax])
          refine ⟨(k + 1, t), Ent.auto0 rfl ?_ ?_, ⟨by dsimp only; omega, hIt, by dsimp only; rw [hm2']; exact hF⟩, by dsimp only; omega⟩ <;> simp only [go_sem, reduceCtorEq, reduceIte, Nat.reduceEqDiff, Nat.reduceLT, Nat.reduceLeDiff, Int.natCast_succ]
      · have e : F = s := by rw [← hF, bfs_end _ _ _ _ hlk]
        subst e
        have kS := sortR_ok F.l (by omega)
        have hsl2 := sortI_len F.l
        (repeat' first | with_reducible (first | intro _ | refine rc ?_ | refine rl ?_ | refine rh ?_ | refine rt ?_ | refine rf ?_ | refine rs ?_ | refine And.intro ?_ ?_) | omega | simp (maxSteps := 1000000) only [go_sem, simprocAttr, ↓reduceIte])
        refine VcCall.io [3] kS (by decide) (by simp [renL, ren, ioN]) rfl (by simp [subOk, ioN, lk, Item.ren, Item.below, ren, renL, belowL, Fv.below, renR, belowR]) cov1 1 (by decide) rfl (by simp [rowsB, Item.below, Fv.below, belowL, belowR]) ?_
        (repeat' first | with_reducible (first | intro _ | refine rc ?_ | refine rl ?_ | refine rh ?_ | refine rt ?_ | refine rf ?_ | refine rs ?_ | refine And.intro ?_ ?_) | omega | simp (maxSteps := 1000000) only [go_sem, simprocAttr, ↓reduceIte, S.ioS, ioRows, ioN, delL, Item.ren, ren, renL, renR, List.map_nil, List.length_cons, List.length_nil, List.getElem?_cons_zero, List.getElem?_nil, List.cons_append, List.nil_append, Nat.reduceAdd, Nat.sub_self, Nat.add_zero, List.filter])
        refine ⟨(i + 1, F.seen, D ++ [F.l]), Ent.auto0 rfl ?_ ?_, ⟨by omega, hS2, by dsimp only; rw [hm', List.append_assoc]; exact hD⟩, by dsimp only; omega⟩ <;> simp only [go_sem, reduceCtorEq, reduceIte, Nat.reduceEqDiff, Nat.reduceLT, Nat.reduceLeDiff, Int.natCast_succ, List.map_append, gAv]
  · have e : i = w * h := by omega
    subst e
    rw [Nat.sub_self] at hD
    simp only [regs, List.append_nil] at hD
    subst hD
    (repeat' first | with_reducible (first | intro _ | refine rc ?_ | refine rl ?_ | refine rh ?_ | refine rt ?_ | refine rf ?_ | refine rs ?_ | refine And.intro ?_ ?_) | omega | simp (maxSteps := 1000000) only [go_sem, simprocAttr, ↓reduceIte])
    refine Ret.auto 1 ?_ rfl ?_ <;> simp only [go_sem, reduceCtorEq, reduceIte, Nat.reduceEqDiff, Nat.reduceLT, Nat.reduceLeDiff, Int.natCast_succ, Post]
end Go.Fv.Q

/- The reference's Hull: the walk. -/
namespace Go.Fv.Q
open Go Go.Proofs
set_option linter.unusedSimpArgs false
set_option linter.unusedVariables false
set_option linter.unnecessarySimpa false
set_option maxRecDepth 8000

def BxB (b : Bx) : Prop := -1000000000 ≤ b.x ∧ b.x ≤ 1000000000 ∧ -1000000000 ≤ b.y ∧ b.y ≤ 1000000000 ∧ -1000000000 ≤ b.x + b.w ∧ b.x + b.w ≤ 1000000000 ∧ -1000000000 ≤ b.y + b.h ∧ b.y + b.h ≤ 1000000000
theorem hull2_bd {a b : Bx} (ha : BxB a) (hb : BxB b) : BxB (hull2 a b) := by
  unfold BxB hull2 at *
  dsimp only
  omega
theorem hullF_bd : ∀ (l : List Bx) (a : Bx), BxB a → (∀ b, b ∈ l → BxB b) → BxB (l.foldl hull2 a)
  | [], a, ha, _ => ha
  | b :: l, a, ha, h => hullF_bd l (hull2 a b) (hull2_bd ha (h b List.mem_cons_self)) fun c hc => h c (List.mem_cons_of_mem _ hc)
theorem bx_take {l : List Bx} {k : Nat} (h : k < l.length) : l.take (k + 1) = l.take k ++ [l.getD k Bx.zero] := by
  rw [List.take_succ_eq_append_getElem h, getD_lt h]
theorem bx_mem {l : List Bx} {k : Nat} (h : k < l.length) : l.getD k Bx.zero ∈ l := by rw [getD_lt h]; exact List.getElem_mem h
set_option maxHeartbeats 4000000 in
theorem refHull_ok (l : List Bx) (h0 : 0 < l.length) (hb : ∀ b, b ∈ l → BxB b) :
    FnOk Tryz.prog 109 [.ro (bxs l)] (.agg (hullL l).av) [] := by
  have hB : ∀ k, BxB ((l.take k).foldl hull2 (l.getD 0 Bx.zero)) := fun k => hullF_bd _ _ (hb _ (bx_mem h0)) fun b hm => hb b (List.mem_of_mem_take hm)
  have he0 := bx_elem l h0
  refine FnOk.of_vc Tryz.func109 rfl (by decide) (by simp [Tryz.f109]) [.cell 2 26] rfl fun w0 T0 _ => ?_
  simp only [Tryz.f109, argEnv]
  (repeat' first | with_reducible (first | intro _ | refine rc ?_ | refine rl ?_ | refine rh ?_ | refine rt ?_ | refine rf ?_ | refine rs ?_ | refine And.intro ?_ ?_) | omega | simp (maxSteps := 1000000) only [go_sem, simprocAttr, ↓reduceIte, List.length_map, elemA, he0, Int.toNat_zero])
  refine VcLoop.intro (fun k : Nat => ⟨58, [(13, .int .i64 k), (12, .int .i64 l.length), (11, .ro (bxs l)), (3, .ptr 1 0), (2, .ptr 0 0)], [(0, .box 26 [.int .i64 0, .int .i64 0, .int .i64 0, .int .i64 0]), (1, .box 26 ((l.take k).foldl hull2 (l.getD 0 Bx.zero)).av)], 2⟩) (fun k => k ≤ l.length) (fun k => l.length - k) 0 ?_ (Nat.zero_le _) fun k hk => ?_
  · refine Ent.auto0 rfl ?_ ?_ <;> simp only [go_sem, reduceCtorEq, reduceIte, Nat.reduceEqDiff, Nat.reduceLT, Nat.reduceLeDiff, Int.natCast_succ, List.take_zero, List.foldl_nil, Bx.av]
  have hBk := hB k
  by_cases hlt : k < l.length
  · have he := bx_elem l hlt
    have hbk := hb _ (bx_mem hlt)
    have hts : (l.take (k + 1)).foldl hull2 (l.getD 0 Bx.zero) = hull2 ((l.take k).foldl hull2 (l.getD 0 Bx.zero)) (l.getD k Bx.zero) := by
      rw [bx_take hlt, List.foldl_append]; rfl
    generalize (l.take k).foldl hull2 (l.getD 0 Bx.zero) = A at *
    generalize l.getD k Bx.zero = B at *
    unfold BxB at hBk hbk
    unfold Bx.av
    (repeat' first | with_reducible (first | intro _ | refine rc ?_ | refine rl ?_ | refine rh ?_ | refine rt ?_ | refine rf ?_ | refine rs ?_ | refine And.intro ?_ ?_) | omega | simp (maxSteps := 1000000) only [go_sem, simprocAttr, ↓reduceIte, List.length_map, elemA, he, Int.toNat_natCast])
    refine VcDraw.lex [] [] (by kernel_rfl) (by kernel_rfl) ?_
    (repeat' first | with_reducible (first | intro _ | refine rc ?_ | refine rl ?_ | refine rh ?_ | refine rt ?_ | refine rf ?_ | refine rs ?_ | refine And.intro ?_ ?_) | omega | simp (maxSteps := 1000000) only [go_sem, simprocAttr, ↓reduceIte, minmax])
    refine ⟨k + 1, Ent.auto0 rfl ?_ ?_, by omega, by omega⟩ <;> simp only [go_sem, reduceCtorEq, reduceIte, Nat.reduceEqDiff, Nat.reduceLT, Nat.reduceLeDiff, Int.natCast_succ, hts, hull2]
  · have e : k = l.length := by omega
    subst e
    rw [List.take_length]
    have eh : l.foldl hull2 (l.getD 0 Bx.zero) = hullL l := rfl
    rw [eh]
    generalize hullL l = A at *
    unfold Bx.av
    (repeat' first | with_reducible (first | intro _ | refine rc ?_ | refine rl ?_ | refine rh ?_ | refine rt ?_ | refine rf ?_ | refine rs ?_ | refine And.intro ?_ ?_) | omega | simp (maxSteps := 1000000) only [go_sem, simprocAttr, ↓reduceIte])
    refine Ret.auto 0 ?_ rfl ?_ <;> simp only [go_sem, reduceCtorEq, reduceIte, Nat.reduceEqDiff, Nat.reduceLT, Nat.reduceLeDiff, Int.natCast_succ, Post, List.drop_zero]
end Go.Fv.Q
