/-
  A part of the proof of the claim: walks over the program's functions and the plain laws that these need. No condition of its own.
-/
import Derived.Test.YtgjeejogiohefaaGreatDoorUTopAllInkCardPart4
import Derived.Test.YtgjeejogiohefaaGreatDoorUTopAllInkCardPart1
import Derived.Test.YtgjeejogiohefaaGreatDoorUTopAllInkCardPart3
import Derived.Test.YtgjeejogiohefaaGreatDoorFvPart9
import Derived.Test.YtgjeejogiohefaaGreatDoorUTopAllInkCardPart2
import Derived.Test.YtgjeejogiohefaaGreatDoorFvPart11
/-! Gaps out of their range: the walk. -/
namespace Go.Fv.U
open Go Go.Proofs
set_option linter.unusedSimpArgs false
set_option linter.unusedVariables false
set_option maxRecDepth 8000

def gapBad (n : Int) : Bool := decide (n < 1 ∨ 4000 < n)
theorem badGap1_ok (n : Int) : FnOk Tryz.prog 116 [.int .i64 n] (.bool (gapBad n)) [] := by
  unfold gapBad
  refine FnOk.of_vc Tryz.func116 rfl (by decide) (by simp [Tryz.f116]) [.tmp 2] rfl fun w0 T0 _ => ?_
  simp only [Tryz.f116, argEnv]
  (repeat' first | with_reducible (first | intro _ | refine rc ?_ | refine rl ?_ | refine rh ?_ | refine rt ?_ | refine rf ?_ | refine rs ?_ | refine And.intro ?_ ?_) | omega | simp (maxSteps := 1000000) only [go_sem, simprocAttr, ↓reduceIte])
  all_goals refine Ret.auto 0 ?_ rfl ?_ <;> simp only [go_sem, reduceCtorEq, reduceIte, Nat.reduceEqDiff, Nat.reduceLT, Nat.reduceLeDiff, Int.natCast_succ, Post]
theorem badGap_ok (l : List Int) (hl : l.length ≤ 1000) : FnOk Tryz.prog 55 [.ro (.ints .i64 l)] (.bool (l.any gapBad)) [] := by
  haveI c1 : CapsOk [] := ⟨rfl⟩
  have k := contFuncI_ok l 116 [] gapBad (fun x _ => FnFr.of_ok (badGap1_ok x) rfl rfl)
  refine FnOk.of_vc Tryz.func55 rfl (by decide) (by simp [Tryz.f55]) [.tmp 2] rfl fun w0 T0 _ => ?_
  simp only [Tryz.f55, argEnv]
  (repeat' first | with_reducible (first | intro _ | refine rc ?_ | refine rl ?_ | refine rh ?_ | refine rt ?_ | refine rf ?_ | refine rs ?_ | refine And.intro ?_ ?_) | omega | simp (maxSteps := 1000000) only [go_sem, simprocAttr, ↓reduceIte])
  refine VcCall.k (k) ?_
  (repeat' first | with_reducible (first | intro _ | refine rc ?_ | refine rl ?_ | refine rh ?_ | refine rt ?_ | refine rf ?_ | refine rs ?_ | refine And.intro ?_ ?_) | omega | simp (maxSteps := 1000000) only [go_sem, simprocAttr, ↓reduceIte])
  refine Ret.auto 0 ?_ rfl ?_ <;> simp only [go_sem, reduceCtorEq, reduceIte, Nat.reduceEqDiff, Nat.reduceLT, Nat.reduceLeDiff, Int.natCast_succ, Post]
end Go.Fv.U

namespace Go.Fv.U
open Go Go.Proofs
set_option linter.unusedSimpArgs false
set_option linter.unusedVariables false
set_option maxRecDepth 8000

end Go.Fv.U

/-! The arguments of Split: a box of a page and gaps. -/
namespace Go.Fv.U
open Go Go.Proofs
set_option linter.unusedSimpArgs false
set_option linter.unusedVariables false
set_option maxRecDepth 8000

/-- A box that lies in a page. -/
def BoxIn (w h X Y W H : Int) : Prop := 1 ≤ W ∧ 1 ≤ H ∧ 0 ≤ X ∧ 0 ≤ Y ∧ X + W ≤ w ∧ Y + H ≤ h
instance (w h X Y W H : Int) : Decidable (BoxIn w h X Y W H) := inferInstanceAs (Decidable (_ ∧ _))
set_option maxHeartbeats 2000000 in
theorem inPageG_ok (w h : Nat) (hw1 : 1 ≤ w) (hw : w ≤ 4000) (hh1 : 1 ≤ h) (hh : h ≤ 4000) (X Y W H : Int) :
    FnOk Tryz.prog 169 [.agg [.int .i64 X, .int .i64 Y, .int .i64 W, .int .i64 H], .int .i64 w, .int .i64 h] (.int .i64 (if BoxIn w h X Y W H then 0 else 13)) [] := by
  refine FnOk.of_vc Tryz.func169 rfl (by decide) (by simp [Tryz.f169]) [.tmp 6] rfl fun w0 T0 _ => ?_
  simp only [Tryz.f169, argEnv]
  by_cases hb : BoxIn w h X Y W H
  · rw [if_pos hb]
    unfold BoxIn at hb
    (repeat' first | with_reducible (first | intro _ | refine rc ?_ | refine rl ?_ | refine rh ?_ | refine rt ?_ | refine rf ?_ | refine rs ?_ | refine And.intro ?_ ?_) | omega | simp (maxSteps := 1000000) only [go_sem, simprocAttr, ↓reduceIte])
    all_goals refine Ret.auto 0 ?_ rfl ?_ <;> simp only [go_sem, reduceCtorEq, reduceIte, Nat.reduceEqDiff, Nat.reduceLT, Nat.reduceLeDiff, Int.natCast_succ, Post]
  · rw [if_neg hb]
    unfold BoxIn at hb
    (repeat' first | with_reducible (first | intro _ | refine rc ?_ | refine rl ?_ | refine rh ?_ | refine rt ?_ | refine rf ?_ | refine rs ?_ | refine And.intro ?_ ?_) | omega | simp (maxSteps := 1000000) only [go_sem, simprocAttr, ↓reduceIte])
    all_goals refine Ret.auto 0 ?_ rfl ?_ <;> simp only [go_sem, reduceCtorEq, reduceIte, Nat.reduceEqDiff, Nat.reduceLT, Nat.reduceLeDiff, Int.natCast_succ, Post]
set_option maxHeartbeats 1000000 in
theorem checkBothG_ok (w h : Nat) (hw1 : 1 ≤ w) (hw : w ≤ 4000) (hh1 : 1 ≤ h) (hh : h ≤ 4000) (hwh : w * h ≤ 1048576) (p : List Bool) (hp : p.length = w * h) (X Y W H : Int) :
    FnOk Tryz.prog 117 [.agg [.int .i64 w, .int .i64 h, .ro (.bools p)], .agg [.int .i64 X, .int .i64 Y, .int .i64 W, .int .i64 H]] (.int .i64 (if BoxIn w h X Y W H then 0 else 13)) [] := by
  have k1 := checkBits_ok w h p
  rw [bitsErr_ok hw1 hw hh1 hh hwh hp] at k1
  have k2 := inPageG_ok w h hw1 hw hh1 hh X Y W H
  generalize (if BoxIn w h X Y W H then (0 : Int) else 13) = e at *
  refine FnOk.of_vc Tryz.func117 rfl (by decide) (by simp [Tryz.f117]) [.tmp 4] rfl fun w0 T0 _ => ?_
  simp only [Tryz.f117, argEnv]
  (repeat' first | with_reducible (first | intro _ | refine rc ?_ | refine rl ?_ | refine rh ?_ | refine rt ?_ | refine rf ?_ | refine rs ?_ | refine And.intro ?_ ?_) | omega | simp (maxSteps := 1000000) only [go_sem, simprocAttr, ↓reduceIte])
  refine VcCall.k (k1) ?_
  (repeat' first | with_reducible (first | intro _ | refine rc ?_ | refine rl ?_ | refine rh ?_ | refine rt ?_ | refine rf ?_ | refine rs ?_ | refine And.intro ?_ ?_) | omega | simp (maxSteps := 1000000) only [go_sem, simprocAttr, ↓reduceIte])
  refine VcCall.k (k2) ?_
  (repeat' first | with_reducible (first | intro _ | refine rc ?_ | refine rl ?_ | refine rh ?_ | refine rt ?_ | refine rf ?_ | refine rs ?_ | refine And.intro ?_ ?_) | omega | simp (maxSteps := 1000000) only [go_sem, simprocAttr, ↓reduceIte])
  refine Ret.auto 0 ?_ rfl ?_ <;> simp only [go_sem, reduceCtorEq, reduceIte, Nat.reduceEqDiff, Nat.reduceLT, Nat.reduceLeDiff, Int.natCast_succ, Post]
/-- The error of a box of a page and of gaps. -/
def pgErr (w h X Y W H : Int) (g : List Int) : Int := if BoxIn w h X Y W H then (if g.any gapBad = true then 3 else 0) else 13
end Go.Fv.U

/-! Rows, Words and Gap: the walk. -/
namespace Go.Fv.U
open Go Go.Proofs
set_option linter.unusedSimpArgs false
set_option linter.unusedVariables false
set_option linter.unnecessarySimpa false
set_option maxRecDepth 8000

end Go.Fv.U

/- Rows of rows of integers, as data. -/
namespace Go.Fv.U
open Go Go.Proofs
set_option linter.unusedSimpArgs false
set_option linter.unusedVariables false
set_option maxRecDepth 8000

def gAv (g : List Int) : List AV := [.ro (.ints .i64 g)]
instance : FNoId gAv := ⟨fun _ => rfl⟩
theorem g_elem (l : List (List Int)) {i : Nat} (h : i < l.length) : (l.map gAv).getD i [] = [.ro (.ints .i64 (l.getD i []))] := by
  simp [List.getD_eq_getElem?_getD, h, gAv]
end Go.Fv.U

/- Regions: the walk. -/
namespace Go.Fv.U
open Go Go.Proofs
set_option linter.unusedSimpArgs false
set_option linter.unusedVariables false
set_option linter.unnecessarySimpa false
set_option maxRecDepth 8000

theorem skip_t {a b k : Bool} (h : (a || decide ¬ b = k) = true) : a = true ∨ (b == k) = false := by revert h; cases a <;> cases b <;> cases k <;> simp
theorem skip_f {a b k : Bool} (h : (a || decide ¬ b = k) = false) : ¬ (a = true ∨ (b == k) = false) := by revert h; cases a <;> cases b <;> cases k <;> simp
theorem pt_t {a b k cor : Bool} {P Q : Prop} [Decidable P] [Decidable Q] (h : (a || decide ¬ b = k || !cor && decide ¬ P && decide ¬ Q) = true) : (cor = false ∧ ¬ P ∧ ¬ Q) ∨ (a = true ∨ (b == k) = false) := by
  revert h
  by_cases hp : P <;> by_cases hq : Q <;> cases a <;> cases b <;> cases k <;> cases cor <;> simp [hp, hq]
theorem pt_f {a b k cor : Bool} {P Q : Prop} [Decidable P] [Decidable Q] (h : (a || decide ¬ b = k || !cor && decide ¬ P && decide ¬ Q) = false) : ¬ (cor = false ∧ ¬ P ∧ ¬ Q) ∧ ¬ (a = true ∨ (b == k) = false) := by
  revert h
  by_cases hp : P <;> by_cases hq : Q <;> cases a <;> cases b <;> cases k <;> cases cor <;> simp [hp, hq]
set_option maxHeartbeats 8000000 in
theorem regions_ok (w h : Nat) (hw1 : 1 ≤ w) (hw : w ≤ 1000) (hh1 : 1 ≤ h) (hh : h ≤ 1000) (p : List Bool) (hp : p.length = w * h) (ink cor : Bool) :
    FnOk Tryz.prog 65 [.agg [.int .i64 w, .int .i64 h, .ro (.bools p)], .bool ink, .bool cor] (.own 0) [(0, .row 81 (.objs 1 ((pieces ⟨p, w, h, ink, cor⟩).map gAv)))] := by
  have hn : w * h ≤ 1000 * 1000 := Nat.mul_le_mul hw hh
  have hst : StepOk (Pg2.ok ⟨p, w, h, ink, cor⟩) (w * h) (pix ⟨p, w, h, ink, cor⟩) := pix_step ⟨p, w, h, ink, cor⟩
  have hRl : (pieces ⟨p, w, h, ink, cor⟩).length ≤ w * h := pieces_len ⟨p, w, h, ink, cor⟩
  have hpt : ∀ c0 s x y v u, RInv (Pg2.ok ⟨p, w, h, ink, cor⟩) (w * h) c0 s → (0 ≤ u ∧ u < (w : Int)) → (0 ≤ v ∧ v < (h : Int)) → RInv (Pg2.ok ⟨p, w, h, ink, cor⟩) (w * h) c0 (RS.pt ⟨p, w, h, ink, cor⟩ x y v s u) ∧ RLe s (RS.pt ⟨p, w, h, ink, cor⟩ x y v s u) :=
    fun c0 s x y v u hs hu hv => pt_inv (g := ⟨p, w, h, ink, cor⟩) hs hu hv
  generalize hg : (⟨p, w, h, ink, cor⟩ : Pg2) = g at *
  generalize hR : pieces g = R at *
  refine FnOk.of_vc Tryz.func65 rfl (by decide) (by simp [Tryz.f65]) [.tmp 6] rfl fun w0 T0 _ => ?_
  simp only [Tryz.f65, argEnv]
  (repeat' first | with_reducible (first | intro _ | refine rc ?_ | refine rl ?_ | refine rh ?_ | refine rt ?_ | refine rf ?_ | refine rs ?_ | refine And.intro ?_ ?_) | omega | simp (maxSteps := 1000000) only [go_sem, simprocAttr, ↓reduceIte, hp])
  refine VcLoop.intro (fun x : Nat × List Bool × List (List Int) => ⟨137, [(24, .int .i64 (x.1 : Nat)), (23, .int .i64 (w * h : Nat)), (8, .own 2), (7, .own 1), (3, .ptr 0 0), (1, .bool ink), (2, .bool cor)], [(0, .box 53 [.int .i64 w, .int .i64 h, .ro (.bools p)]), (1, .row 4 (.bools x.2.1)), (2, .row 81 (.objs 1 (x.2.2.map gAv)))], 3⟩) (fun x => x.1 ≤ w * h ∧ SInv g.ok (w * h) x.1 x.2.1 ∧ x.2.2 ++ regs g.ok (pix g) (w * h) (w * h - x.1) x.1 x.2.1 = R) (fun x => w * h - x.1) (0, List.replicate (w * h) false, []) ?_ ⟨Nat.zero_le _, SInv.zero _ _, ?_⟩ fun x hx => ?_
  · refine Ent.auto0 rfl ?_ ?_ <;> simp only [go_sem, reduceCtorEq, reduceIte, Nat.reduceEqDiff, Nat.reduceLT, Nat.reduceLeDiff, Int.natCast_succ, zrow, List.map_nil, Int.toNat_natCast]
  · subst hg
    dsimp only
    rw [Nat.sub_zero, List.nil_append]
    exact hR
  obtain ⟨i, seen, D⟩ := x
  obtain ⟨hi, hS, hD⟩ := hx
  dsimp only at hi hS hD ⊢
  have hsl := hS.len
  by_cases hlt : i < w * h
  · obtain ⟨m, hm⟩ : ∃ m, w * h - i = m + 1 := ⟨w * h - i - 1, by omega⟩
    have hm' : w * h - (i + 1) = m := by omega
    have hok : g.ok i = (p.getD i false == ink) := by subst hg; rfl
    rw [hm] at hD
    simp only [regs] at hD
    (repeat' first | with_reducible (first | intro _ | refine rc ?_ | refine rl ?_ | refine rh ?_ | refine rt ?_ | refine rf ?_ | refine rs ?_ | refine And.intro ?_ ?_) | omega | simp (maxSteps := 1000000) only [go_sem, simprocAttr, ↓reduceIte, Int.toNat_natCast, hsl, hp])
    refine Chk.g ?_ (fun h => ⟨h, by omega⟩)
    refine Ite.bool (fun hc => ?_) (fun hc => ?_)
    · have hs : seen.getD i false = true ∨ g.ok i = false := by rw [hok]; exact skip_t hc
      rw [if_pos hs] at hD
      (repeat' first | with_reducible (first | intro _ | refine rc ?_ | refine rl ?_ | refine rh ?_ | refine rt ?_ | refine rf ?_ | refine rs ?_ | refine And.intro ?_ ?_) | omega | simp (maxSteps := 1000000) only [go_sem, simprocAttr, ↓reduceIte])
      refine ⟨(i + 1, seen, D), Ent.auto0 rfl ?_ ?_, ⟨by omega, hS.skip hs, by dsimp only; rw [hm']; exact hD⟩, by dsimp only; omega⟩ <;> simp only [go_sem, reduceCtorEq, reduceIte, Nat.reduceEqDiff, Nat.reduceLT, Nat.reduceLeDiff, Int.natCast_succ]
    · have hs : ¬ (seen.getD i false = true ∨ g.ok i = false) := by rw [hok]; exact skip_f hc
      rw [if_neg hs] at hD
      have hI := hS.start hlt hs
      obtain ⟨hS2, hO2, _⟩ := hS.region hst hlt hs (w * h)
      generalize hF : bfs (pix g) (w * h) 0 ⟨seen.set i true, [(i : Int)]⟩ = F at *
      generalize seen.count true = c0 at *
      (repeat' first | with_reducible (first | intro _ | refine rc ?_ | refine rl ?_ | refine rh ?_ | refine rt ?_ | refine rf ?_ | refine rs ?_ | refine And.intro ?_ ?_) | omega | simp (maxSteps := 1000000) only [go_sem, simprocAttr, ↓reduceIte, Int.toNat_natCast, hsl, hp])
      refine VcLoop.intro (fun x : Nat × RS => ⟨137, [(11, .int .i64 (x.1 : Nat)), (10, .own 3), (24, .int .i64 (i : Nat)), (23, .int .i64 (w * h : Nat)), (8, .own 2), (7, .own 1), (3, .ptr 0 0), (1, .bool ink), (2, .bool cor)], [(0, .box 53 [.int .i64 w, .int .i64 h, .ro (.bools p)]), (1, .row 4 (.bools x.2.seen)), (2, .row 81 (.objs 1 (D.map gAv))), (3, .row 3 (.ints .i64 x.2.l))], 4⟩) (fun x => x.1 ≤ x.2.l.length ∧ RInv g.ok (w * h) c0 x.2 ∧ bfs (pix g) (w * h - x.1) x.1 x.2 = F) (fun x => w * h - x.1) (0, ⟨seen.set i true, [(i : Int)]⟩) ?_ ⟨Nat.zero_le _, hI, hF⟩ fun x hx => ?_
      · refine Ent.auto0 rfl ?_ ?_ <;> simp only [go_sem, reduceCtorEq, reduceIte, Nat.reduceEqDiff, Nat.reduceLT, Nat.reduceLeDiff, Int.natCast_succ]
      obtain ⟨k, s⟩ := x
      obtain ⟨hk, hI, hF⟩ := hx
      dsimp only at hk hI hF ⊢
      have hll := hI.le
      have hDl : D.length ≤ w * h := by
        rw [← hD, List.length_append] at hRl
        omega
      by_cases hlk : k < s.l.length
      · obtain ⟨hb1, hb2⟩ := hI.bd _ (getD_mem hlk)
        obtain ⟨m2, hm2⟩ : ∃ m2, w * h - k = m2 + 1 := ⟨w * h - k - 1, by omega⟩
        have hm2' : w * h - (k + 1) = m2 := by omega
        rw [hm2, bfs_step _ hlk] at hF
        obtain ⟨c, hc⟩ : ∃ c : Nat, s.l.getD k 0 = c := ⟨(s.l.getD k 0).toNat, by omega⟩
        rw [hc] at hF hb2
        obtain ⟨⟨_, hx2⟩, _, hy2⟩ := xy_bd (g := g) (c := c) (by omega) (by subst hg; exact hb2)
        have hgw : g.w = w := by subst hg; rfl
        have hgh : g.h = h := by subst hg; rfl
        rw [hgw] at hx2 hy2
        rw [hgh] at hy2
        have ex : (c : Int) % (w : Int) = ((c % w : Nat) : Int) := rfl
        have ey : (c : Int) / (w : Int) = ((c / w : Nat) : Int) := rfl
        rw [ex] at hx2
        rw [ey] at hy2
        generalize hQ : pix g s (c : Int) = Q at *
        unfold pix at hQ
        rw [hgw, hgh, ex, ey] at hQ
        generalize hx0 : c % w = x at *
        generalize hy0 : c / w = y at *
        (repeat' first | with_reducible (first | intro _ | refine rc ?_ | refine rl ?_ | refine rh ?_ | refine rt ?_ | refine rf ?_ | refine rs ?_ | refine And.intro ?_ ?_) | omega | simp (maxSteps := 1000000) only [go_sem, simprocAttr, ↓reduceIte, Int.toNat_natCast])
        refine VcDraw.lex [] [] (by kernel_rfl) (by kernel_rfl) ?_
        (repeat' first | with_reducible (first | intro _ | refine rc ?_ | refine rl ?_ | refine rh ?_ | refine rt ?_ | refine rf ?_ | refine rs ?_ | refine And.intro ?_ ?_) | omega | simp (maxSteps := 1000000) only [go_sem, simprocAttr, ↓reduceIte, Int.toNat_natCast, hc, up_tmod, up_tdiv, minmax, hx0, hy0])
        have ha1 : lo3 (y : Int) = max ((y : Int) - 1) 0 := rfl
        have ha2 : hi3 (y : Int) h = min ((y : Int) + 1) ((h : Int) - 1) := rfl
        have ha3 : lo3 (x : Int) = max ((x : Int) - 1) 0 := rfl
        have ha4 : hi3 (x : Int) w = min ((x : Int) + 1) ((w : Int) - 1) := rfl
        refine VcLoop.intro (fun z : Int × RS => ⟨137, [(14, .int .i64 z.1), (13, .int .i64 (y : Nat)), (12, .int .i64 (x : Nat)), (11, .int .i64 (k : Nat)), (10, .own 3), (24, .int .i64 (i : Nat)), (23, .int .i64 (w * h : Nat)), (8, .own 2), (7, .own 1), (3, .ptr 0 0), (1, .bool ink), (2, .bool cor)], [(0, .box 53 [.int .i64 w, .int .i64 h, .ro (.bools p)]), (1, .row 4 (.bools z.2.seen)), (2, .row 81 (.objs 1 (D.map gAv))), (3, .row 3 (.ints .i64 z.2.l))], 4⟩) (fun z => lo3 y ≤ z.1 ∧ z.1 ≤ hi3 y h + 1 ∧ RInv g.ok (w * h) c0 z.2 ∧ k < z.2.l.length ∧ (rng z.1 (hi3 y h + 1 - z.1).toNat).foldl (RS.row g x y (rng3 x w)) z.2 = Q) (fun z => (hi3 y h + 1 - z.1).toNat) (lo3 y, s) ?_ ⟨by dsimp only; omega, by dsimp only; omega, hI, hlk, hQ⟩ fun z hz => ?_
        · refine Ent.auto0 rfl ?_ ?_ <;> simp only [go_sem, reduceCtorEq, reduceIte, Nat.reduceEqDiff, Nat.reduceLT, Nat.reduceLeDiff, Int.natCast_succ, ha1]
        obtain ⟨v, t⟩ := z
        obtain ⟨hv1, hv2, hIt, hkt, hrest⟩ := hz
        dsimp only at hv1 hv2 hIt hkt hrest ⊢
        have hlt2 := hIt.le
        by_cases hv : v ≤ hi3 y h
        · obtain ⟨m3, hm3⟩ : ∃ m3, (hi3 y h + 1 - v).toNat = m3 + 1 := ⟨(hi3 y h + 1 - v).toNat - 1, by omega⟩
          have hm3' : (hi3 y h + 1 - (v + 1)).toNat = m3 := by omega
          rw [hm3] at hrest
          simp only [rng, List.foldl_cons] at hrest
          have hv0 : 0 ≤ v ∧ v < (h : Int) := by omega
          have hvw0 : 0 ≤ v * (w : Int) := Int.mul_nonneg hv0.1 (by omega)
          have hvw1 : v * (w : Int) ≤ 1000 * 1000 := Int.mul_le_mul (by omega) (by omega) (by omega) (by omega)
          obtain ⟨hI3, hL3⟩ := row_inv (g := g) (s := t) (c0 := c0) (x := x) (y := y) (v := v) (us := rng3 x w) (by rw [hgw, hgh]; exact hIt) (fun u hu => by rw [hgw]; exact rng3_mem hu) (by rw [hgh]; exact hv0)
          rw [hgw, hgh] at hI3
          have hl3 := hL3.len
          generalize hQ2 : RS.row g x y (rng3 x w) t v = Q2 at *
          unfold RS.row at hQ2
          (repeat' first | with_reducible (first | intro _ | refine rc ?_ | refine rl ?_ | refine rh ?_ | refine rt ?_ | refine rf ?_ | refine rs ?_ | refine And.intro ?_ ?_) | omega | simp (maxSteps := 1000000) only [go_sem, simprocAttr, ↓reduceIte, Int.toNat_natCast, minmax])
          refine VcLoop.intro (fun z : Int × RS => ⟨137, [(15, .int .i64 z.1), (14, .int .i64 v), (13, .int .i64 (y : Nat)), (12, .int .i64 (x : Nat)), (11, .int .i64 (k : Nat)), (10, .own 3), (24, .int .i64 (i : Nat)), (23, .int .i64 (w * h : Nat)), (8, .own 2), (7, .own 1), (3, .ptr 0 0), (1, .bool ink), (2, .bool cor)], [(0, .box 53 [.int .i64 w, .int .i64 h, .ro (.bools p)]), (1, .row 4 (.bools z.2.seen)), (2, .row 81 (.objs 1 (D.map gAv))), (3, .row 3 (.ints .i64 z.2.l))], 4⟩) (fun z => lo3 x ≤ z.1 ∧ z.1 ≤ hi3 x w + 1 ∧ RInv g.ok (w * h) c0 z.2 ∧ (rng z.1 (hi3 x w + 1 - z.1).toNat).foldl (RS.pt g x y v) z.2 = Q2) (fun z => (hi3 x w + 1 - z.1).toNat) (lo3 x, t) ?_ ⟨by dsimp only; omega, by dsimp only; omega, hIt, hQ2⟩ fun z hz => ?_
          · refine Ent.auto0 rfl ?_ ?_ <;> simp only [go_sem, reduceCtorEq, reduceIte, Nat.reduceEqDiff, Nat.reduceLT, Nat.reduceLeDiff, Int.natCast_succ, ha3]
          clear hlt2
          obtain ⟨u, t⟩ := z
          obtain ⟨hu1, hu2, hIu, hrest2⟩ := hz
          dsimp only at hu1 hu2 hIu hrest2 ⊢
          have hlu := hIu.le
          have hsu := hIu.len
          by_cases hu : u ≤ hi3 x w
          · obtain ⟨m4, hm4⟩ : ∃ m4, (hi3 x w + 1 - u).toNat = m4 + 1 := ⟨(hi3 x w + 1 - u).toNat - 1, by omega⟩
            have hm4' : (hi3 x w + 1 - (u + 1)).toNat = m4 := by omega
            rw [hm4] at hrest2
            simp only [rng, List.foldl_cons] at hrest2
            have hu0 : 0 ≤ u ∧ u < (w : Int) := by omega
            obtain ⟨hc1, hc2, hc3⟩ := cell_lt hu0 hv0
            have hI4 := (hpt c0 t x y v u hIu hu0 hv0).1
            obtain ⟨q, hq⟩ : ∃ q : Nat, v * (w : Int) + u = q := ⟨(v * (w : Int) + u).toNat, by omega⟩
            have hqn : q < w * h := by omega
            have hRS : RS.pt g x y v t u = if cor = false ∧ u ≠ x ∧ v ≠ y then t else t.vis g.ok q := by
              unfold RS.pt
              rw [hgw, hq, Int.toNat_natCast]
              subst hg
              rfl
            have hokq : g.ok q = (p.getD q false == ink) := by subst hg; rfl
            rw [hRS] at hI4 hrest2
            unfold RS.vis at hI4 hrest2
            rw [hokq] at hI4 hrest2
            (repeat' first | with_reducible (first | intro _ | refine rc ?_ | refine rl ?_ | refine rh ?_ | refine rt ?_ | refine rf ?_ | refine rs ?_ | refine And.intro ?_ ?_) | omega | simp (maxSteps := 1000000) only [go_sem, simprocAttr, ↓reduceIte, Int.toNat_natCast, minmax, hq, hp])
            refine Chk.g (Chk.g (Chk.g (Ite.bool (fun hc => ?_) (fun hc => ?_)) (fun h => ⟨h, fun h2 => ⟨h, h2⟩⟩)) (fun h => ⟨h, fun h2 => ⟨h, h2⟩⟩)) (fun h => ⟨h, by omega⟩)
            · have e : (if cor = false ∧ u ≠ x ∧ v ≠ y then t else if t.seen.getD q false = true ∨ (p.getD q false == ink) = false then t else ⟨t.seen.set q true, t.l ++ [(q : Int)]⟩) = t := by
                rcases pt_t hc with h1 | h1
                · exact if_pos h1
                · rw [if_pos h1, ite_self]
              rw [e] at hI4 hrest2
              (repeat' first | with_reducible (first | intro _ | refine rc ?_ | refine rl ?_ | refine rh ?_ | refine rt ?_ | refine rf ?_ | refine rs ?_ | refine And.intro ?_ ?_) | omega | simp (maxSteps := 1000000) only [go_sem, simprocAttr, ↓reduceIte, Int.toNat_natCast, minmax, hq, hp])
              refine ⟨(u + 1, t), Ent.auto0 rfl ?_ ?_, ⟨by dsimp only; omega, by dsimp only; omega, hI4, by dsimp only; rw [hm4']; exact hrest2⟩, by dsimp only; omega⟩ <;> simp only [go_sem, reduceCtorEq, reduceIte, Nat.reduceEqDiff, Nat.reduceLT, Nat.reduceLeDiff, Int.natCast_succ]
            · obtain ⟨h1, h2⟩ := pt_f hc
              rw [if_neg h1, if_neg h2] at hI4 hrest2
              (repeat' first | with_reducible (first | intro _ | refine rc ?_ | refine rl ?_ | refine rh ?_ | refine rt ?_ | refine rf ?_ | refine rs ?_ | refine And.intro ?_ ?_) | omega | simp (maxSteps := 1000000) only [go_sem, simprocAttr, ↓reduceIte, Int.toNat_natCast, minmax, hq, hp, hsu])
              refine ⟨(u + 1, ⟨t.seen.set q true, t.l ++ [(q : Int)]⟩), Ent.auto0 rfl ?_ ?_, ⟨by dsimp only; omega, by dsimp only; omega, hI4, by dsimp only; rw [hm4']; exact hrest2⟩, by dsimp only; omega⟩ <;> simp only [go_sem, reduceCtorEq, reduceIte, Nat.reduceEqDiff, Nat.reduceLT, Nat.reduceLeDiff, Int.natCast_succ]
          · have eu : u = hi3 x w + 1 := by omega
            subst eu
            rw [show (hi3 (x : Int) (w : Int) + 1 - (hi3 (x : Int) (w : Int) + 1)).toNat = 0 by omega] at hrest2
            have e : t = Q2 := hrest2
            subst e
            (repeat' first | with_reducible (first | intro _ | refine rc ?_ | refine rl ?_ | refine rh ?_ | refine rt ?_ | refine rf ?_ | refine rs ?_ | refine And.intro ?_ ?_) | omega | simp (maxSteps := 1000000) only [go_sem, simprocAttr, ↓reduceIte, Int.toNat_natCast, minmax])
            refine ⟨(v + 1, t), Ent.auto0 rfl ?_ ?_, ⟨by dsimp only; omega, by dsimp only; omega, hI3, by dsimp only; omega, by dsimp only; rw [hm3']; exact hrest⟩, by dsimp only; omega⟩ <;> simp only [go_sem, reduceCtorEq, reduceIte, Nat.reduceEqDiff, Nat.reduceLT, Nat.reduceLeDiff, Int.natCast_succ]
        · have ev : v = hi3 y h + 1 := by omega
          subst ev
          rw [show (hi3 (y : Int) (h : Int) + 1 - (hi3 (y : Int) (h : Int) + 1)).toNat = 0 by omega] at hrest
          have e : t = Q := hrest
          subst e
          (repeat' first | with_reducible (first | intro _ | refine rc ?_ | refine rl ?_ | refine rh ?_ | refine rt ?_ | refine rf ?_ | refine rs ?_ | refine And.intro ?_ ?_) | omega | simp (maxSteps := 1000000) only [go_sem, simprocAttr, ↓reduceIte, Int.toNat_natCast, minmax])
          refine ⟨(k + 1, t), Ent.auto0 rfl ?_ ?_, ⟨by dsimp only; omega, hIt, by dsimp only; rw [hm2']; exact hF⟩, by dsimp only; omega⟩ <;> simp only [go_sem, reduceCtorEq, reduceIte, Nat.reduceEqDiff, Nat.reduceLT, Nat.reduceLeDiff, Int.natCast_succ]
      · have e : F = s := by rw [← hF, bfs_end _ _ _ _ hlk]
        subst e
        (repeat' first | with_reducible (first | intro _ | refine rc ?_ | refine rl ?_ | refine rh ?_ | refine rt ?_ | refine rf ?_ | refine rs ?_ | refine And.intro ?_ ?_) | omega | simp (maxSteps := 1000000) only [go_sem, simprocAttr, ↓reduceIte])
        refine ⟨(i + 1, F.seen, D ++ [F.l]), Ent.auto0 rfl ?_ ?_, ⟨by omega, hS2, by dsimp only; rw [hm', List.append_assoc]; exact hD⟩, by dsimp only; omega⟩ <;> simp only [go_sem, reduceCtorEq, reduceIte, Nat.reduceEqDiff, Nat.reduceLT, Nat.reduceLeDiff, Int.natCast_succ, List.map_append, gAv]
  · have e : i = w * h := by omega
    subst e
    rw [Nat.sub_self] at hD
    simp only [regs, List.append_nil] at hD
    subst hD
    (repeat' first | with_reducible (first | intro _ | refine rc ?_ | refine rl ?_ | refine rh ?_ | refine rt ?_ | refine rf ?_ | refine rs ?_ | refine And.intro ?_ ?_) | omega | simp (maxSteps := 1000000) only [go_sem, simprocAttr, ↓reduceIte])
    refine Ret.auto 1 ?_ rfl ?_ <;> simp only [go_sem, reduceCtorEq, reduceIte, Nat.reduceEqDiff, Nat.reduceLT, Nat.reduceLeDiff, Int.natCast_succ, Post]
end Go.Fv.U

namespace Go.Fv.U
open Go Go.Proofs
set_option linter.unusedSimpArgs false
set_option linter.unusedVariables false
set_option maxRecDepth 8000

theorem grayErr_ok {w h : Nat} (hw1 : 1 ≤ w) (hw : w ≤ 1000) (hh1 : 1 ≤ h) (hh : h ≤ 1000) {n : Nat} (hn : n = w * h) : grayErr w h n = 0 := by
  have hm : w * h ≤ 1000 * 1000 := Nat.mul_le_mul hw hh
  unfold grayErr
  rw [sizeErr_of (by omega) (by omega) (by omega) (by omega) (by rw [up_mul]; omega), hn, up_mul]
  simp
set_option maxHeartbeats 1000000 in
theorem bits_ok (w h : Nat) (hw : w ≤ 4000) (hh : h ≤ 4000) (f : Nat) (caps : List AV) [CapsOk caps] (q : Nat → Bool) (hq : ∀ i : Nat, i < w * h → FnFr Tryz.prog f ([.int .i64 i] ++ caps) (.bool (q i)) []) :
    FnOk Tryz.prog 130 [.int .i64 w, .int .i64 h, .fn f caps] (.agg [.int .i64 w, .int .i64 h, .own 0]) [(0, .row 4 (.bools ((List.range (w * h)).map q)))] := by
  have hwh : w * h ≤ 4000 * 4000 := Nat.mul_le_mul hw hh
  have hc : ((w : Int) * h) = ((w * h : Nat) : Int) := (Int.natCast_mul w h).symm
  generalize hn : w * h = n at hwh hc hq ⊢
  refine FnOk.of_vc Tryz.func130 rfl (by decide) (by simp [Tryz.f130]) [.cell 6 53] rfl fun w0 T0 _ => ?_
  simp only [Tryz.f130, argEnv]
  simp (maxSteps := 1000000) only [go_sem, simprocAttr, ↓reduceIte, hc]
  (repeat' first | (with_reducible refine Asm.intro fun _ => ?_) | ((with_reducible refine Chk.intro ?_ ?_); (· first | omega | (with_reducible refine Chk.intro ?_ ?_ <;> omega) | (simp; done) | (simp; omega))) | ((with_reducible refine LetW.i64 ?_ ?_ ?_); (· omega); (· omega)) | ((with_reducible refine Ite.decide (fun _ => ?_) (fun _ => ?_)) <;> first | (exfalso; omega) | simp (maxSteps := 1000000) only [go_sem, simprocAttr, ↓reduceIte]) | ((with_reducible refine Ite.bool (fun _ => ?_) (fun _ => ?_)) <;> simp (maxSteps := 1000000) only [go_sem, simprocAttr, ↓reduceIte]) | (with_reducible refine And.intro ?_ ?_))
  refine VcLoop.intro (fun i : Nat => ⟨31, [(19, .int .i64 i), (18, .int .i64 n), (7, .ptr 2 0), (6, .ptr 0 0), (2, .fn f caps)], [(2, .box 53 [.int .i64 w, .int .i64 h, .own 1]), (0, .box 53 [.int .i64 0, .int .i64 0, .nilS]), (1, .row 4 (.bools ((List.range i).map q ++ List.replicate (n - i) false)))], 3⟩) (fun i => i ≤ n) (fun i => n - i) 0 ?_ (Nat.zero_le _) fun i hi => ?_
  · refine Ent.auto0 rfl ?_ ?_ <;> simp only [go_sem, reduceCtorEq, reduceIte, Nat.reduceEqDiff, Nat.reduceLT, Nat.reduceLeDiff, Int.natCast_succ, zrow, List.range_zero, List.map_nil, Nat.sub_zero, Int.toNat_natCast]
  simp (maxSteps := 1000000) only [go_sem, simprocAttr, ↓reduceIte]
  (repeat' first | (with_reducible refine Asm.intro fun _ => ?_) | ((with_reducible refine Chk.intro ?_ ?_); (· first | omega | (with_reducible refine Chk.intro ?_ ?_ <;> omega) | (simp; done) | (simp; omega))) | ((with_reducible refine LetW.i64 ?_ ?_ ?_); (· omega); (· omega)) | ((with_reducible refine Ite.decide (fun _ => ?_) (fun _ => ?_)) <;> first | (exfalso; omega) | simp (maxSteps := 1000000) only [go_sem, simprocAttr, ↓reduceIte]) | ((with_reducible refine Ite.bool (fun _ => ?_) (fun _ => ?_)) <;> simp (maxSteps := 1000000) only [go_sem, simprocAttr, ↓reduceIte]) | (with_reducible refine And.intro ?_ ?_))
  · refine VcDraw.lex [7] [] (by kernel_rfl) (by kernel_rfl) ?_
    simp (maxSteps := 1000000) only [go_sem, simprocAttr, ↓reduceIte]
    (repeat' first | (with_reducible refine Asm.intro fun _ => ?_) | ((with_reducible refine Chk.intro ?_ ?_); (· first | omega | (with_reducible refine Chk.intro ?_ ?_ <;> omega) | (simp; done) | (simp; omega))) | ((with_reducible refine LetW.i64 ?_ ?_ ?_); (· omega); (· omega)) | ((with_reducible refine Ite.decide (fun _ => ?_) (fun _ => ?_)) <;> first | (exfalso; omega) | simp (maxSteps := 1000000) only [go_sem, simprocAttr, ↓reduceIte]) | ((with_reducible refine Ite.bool (fun _ => ?_) (fun _ => ?_)) <;> simp (maxSteps := 1000000) only [go_sem, simprocAttr, ↓reduceIte]) | (with_reducible refine And.intro ?_ ?_))
    refine QV.intro (.bool (q i)) ?_ ?_
    · simp (maxSteps := 1000000) only [go_sem, simprocAttr, ↓reduceIte]
      refine VcCall.fr (args' := [.int .i64 i] ++ caps) (hq i (by omega)) (by simp [argOkL, allOk, argOkN, allOk_caps]) 0 rfl (by simp [rowsB]) ?_
      simp (maxSteps := 1000000) only [go_sem, simprocAttr, ↓reduceIte]
    · have hs := set_range (n := n) q false (show i < n by omega)
      simp (maxSteps := 1000000) only [go_sem, simprocAttr, ↓reduceIte, List.length_map, List.length_range, hs]
      (repeat' first | (with_reducible refine Asm.intro fun _ => ?_) | ((with_reducible refine Chk.intro ?_ ?_); (· first | omega | (with_reducible refine Chk.intro ?_ ?_ <;> omega) | (simp; done) | (simp; omega))) | ((with_reducible refine LetW.i64 ?_ ?_ ?_); (· omega); (· omega)) | ((with_reducible refine Ite.decide (fun _ => ?_) (fun _ => ?_)) <;> first | (exfalso; omega) | simp (maxSteps := 1000000) only [go_sem, simprocAttr, ↓reduceIte]) | ((with_reducible refine Ite.bool (fun _ => ?_) (fun _ => ?_)) <;> simp (maxSteps := 1000000) only [go_sem, simprocAttr, ↓reduceIte]) | (with_reducible refine And.intro ?_ ?_))
      refine ⟨i + 1, Ent.auto0 rfl ?_ ?_, by omega, by omega⟩ <;> simp only [go_sem, reduceCtorEq, reduceIte, Nat.reduceEqDiff, Nat.reduceLT, Nat.reduceLeDiff, Int.natCast_succ]
      all_goals first | rfl | rw [List.range_succ]
  · have e : i = n := by omega
    subst e
    refine Ret.auto 1 ?_ rfl ?_ <;> simp only [go_sem, reduceCtorEq, reduceIte, Nat.reduceEqDiff, Nat.reduceLT, Nat.reduceLeDiff, Int.natCast_succ, Post, List.drop_zero, Nat.sub_self, List.replicate_zero, List.append_nil]
    all_goals simp (maxSteps := 1000000) only [go_sem, simprocAttr, ↓reduceIte]
end Go.Fv.U

/- Boxes of pixels; regions that are chosen change: the walk. -/
namespace Go.Fv.U
open Go Go.Proofs
set_option linter.unusedSimpArgs false
set_option linter.unusedVariables false
set_option linter.unnecessarySimpa false
set_option maxRecDepth 8000

theorem take_snoc {l : List Int} {k : Nat} (h : k < l.length) : l.take (k + 1) = l.take k ++ [l.getD k 0] := by
  rw [List.take_succ_eq_append_getElem h, getD_lt h]
theorem InPg.take {w h : Nat} {l : List Int} (hb : InPg w h l) (k : Nat) : InPg w h (l.take k) := fun i hi => hb i (List.mem_of_mem_take hi)
theorem bxBounds {w h : Nat} {l : List Int} (hb : InPg w h l) : (0 ≤ leftP w l ∧ leftP w l ≤ w) ∧ (0 ≤ topP w h l ∧ topP w h l ≤ h) ∧ (-1 ≤ rightP w l ∧ rightP w l ≤ w) ∧ (-1 ≤ botP w l ∧ botP w l ≤ h) := by
  have hbd := fun i hi => xy_bd' (hb i hi).1 (hb i hi).2
  have a1 := le_mnF (fun i => i % (w : Int)) l w
  have a2 := le_mnF (fun i => i / (w : Int)) l h
  have a3 := mxF_le (fun i => i % (w : Int)) l (-1)
  have a4 := mxF_le (fun i => i / (w : Int)) l (-1)
  change (∀ m, m ≤ leftP w l ↔ _) at a1
  change (∀ m, m ≤ topP w h l ↔ _) at a2
  change (∀ m, rightP w l ≤ m ↔ _) at a3
  change (∀ m, botP w l ≤ m ↔ _) at a4
  refine ⟨⟨(a1 0).2 ⟨by omega, fun i hi => (hbd i hi).1.1⟩, ((a1 _).1 (Int.le_refl _)).1⟩, ⟨(a2 0).2 ⟨by omega, fun i hi => (hbd i hi).2.1⟩, ((a2 _).1 (Int.le_refl _)).1⟩, ⟨((a3 _).1 (Int.le_refl _)).1, (a3 _).2 ⟨by omega, fun i hi => by have := (hbd i hi).1.2; (try dsimp only); omega⟩⟩, ⟨((a4 _).1 (Int.le_refl _)).1, (a4 _).2 ⟨by omega, fun i hi => by have := (hbd i hi).2.2; (try dsimp only); omega⟩⟩⟩
set_option maxHeartbeats 4000000 in
theorem boxOf_ok (w h : Nat) (hw : w ≤ 4000) (hh : h ≤ 4000) (hw1 : 1 ≤ w) (p : List Bool) (l : List Int) (hb : InPg w h l) :
    FnOk Tryz.prog 66 [.agg [.int .i64 w, .int .i64 h, .ro (.bools p)], .ro (.ints .i64 l)] (.agg (boxOf w h l).av) [] := by
  obtain ⟨⟨g1, g2⟩, ⟨g3, g4⟩, ⟨g5, g6⟩, ⟨g7, g8⟩⟩ := bxBounds hb
  refine FnOk.of_vc Tryz.func66 rfl (by decide) (by simp [Tryz.f66]) [.cell 4 65] rfl fun w0 T0 _ => ?_
  simp only [Tryz.f66, argEnv]
  (repeat' first | with_reducible (first | intro _ | refine rc ?_ | refine rl ?_ | refine rh ?_ | refine rt ?_ | refine rf ?_ | refine rs ?_ | refine And.intro ?_ ?_) | omega | simp (maxSteps := 1000000) only [go_sem, simprocAttr, ↓reduceIte])
  refine VcDraw.lex [] [] (by kernel_rfl) (by kernel_rfl) ?_
  (repeat' first | with_reducible (first | intro _ | refine rc ?_ | refine rl ?_ | refine rh ?_ | refine rt ?_ | refine rf ?_ | refine rs ?_ | refine And.intro ?_ ?_) | omega | simp (maxSteps := 1000000) only [go_sem, simprocAttr, ↓reduceIte])
  refine VcLoop.intro (fun k : Nat => ⟨55, [(19, .int .i64 k), (18, .int .i64 l.length), (17, .ro (.ints .i64 l)), (5, .int .i64 (leftP w (l.take k))), (6, .int .i64 (topP w h (l.take k))), (7, .int .i64 (rightP w (l.take k))), (8, .int .i64 (botP w (l.take k))), (2, .ptr 0 0), (4, .ptr 1 0)], [(0, .box 53 [.int .i64 w, .int .i64 h, .ro (.bools p)]), (1, .box 65 [.int .i64 0, .int .i64 0, .int .i64 0, .int .i64 0])], 2⟩) (fun k => k ≤ l.length) (fun k => l.length - k) 0 ?_ (Nat.zero_le _) fun k hk => ?_
  · refine Ent.auto0 rfl ?_ ?_ <;> simp only [go_sem, reduceCtorEq, reduceIte, Nat.reduceEqDiff, Nat.reduceLT, Nat.reduceLeDiff, Int.natCast_succ, List.take_zero, leftP, topP, rightP, botP, mnF, mxF, List.foldl_nil]
  by_cases hlt : k < l.length
  · obtain ⟨b1, b2⟩ := hb _ (getD_mem hlt)
    have hts := take_snoc hlt
    have hx : (l.getD k 0).tmod w = l.getD k 0 % w := Int.tmod_eq_emod_of_nonneg b1
    have hy : (l.getD k 0).tdiv w = l.getD k 0 / w := Int.tdiv_eq_ediv_of_nonneg b1
    have hxy := xy_bd' b1 b2
    (repeat' first | with_reducible (first | intro _ | refine rc ?_ | refine rl ?_ | refine rh ?_ | refine rt ?_ | refine rf ?_ | refine rs ?_ | refine And.intro ?_ ?_) | omega | simp (maxSteps := 1000000) only [go_sem, simprocAttr, ↓reduceIte, Int.toNat_natCast])
    refine VcDraw.lex [] [] (by kernel_rfl) (by kernel_rfl) ?_
    (repeat' first | with_reducible (first | intro _ | refine rc ?_ | refine rl ?_ | refine rh ?_ | refine rt ?_ | refine rf ?_ | refine rs ?_ | refine And.intro ?_ ?_) | omega | simp (maxSteps := 1000000) only [go_sem, simprocAttr, ↓reduceIte, Int.toNat_natCast, hx, hy, minmax])
    refine ⟨k + 1, Ent.auto0 rfl ?_ ?_, by omega, by omega⟩ <;> simp only [go_sem, reduceCtorEq, reduceIte, Nat.reduceEqDiff, Nat.reduceLT, Nat.reduceLeDiff, Int.natCast_succ, hts, leftP, topP, rightP, botP, mnF_snoc, mxF_snoc]
  · have e : k = l.length := by omega
    subst e
    rw [List.take_length]
    (repeat' first | with_reducible (first | intro _ | refine rc ?_ | refine rl ?_ | refine rh ?_ | refine rt ?_ | refine rf ?_ | refine rs ?_ | refine And.intro ?_ ?_) | omega | simp (maxSteps := 1000000) only [go_sem, simprocAttr, ↓reduceIte])
    refine Ret.auto 0 ?_ rfl ?_ <;> simp only [go_sem, reduceCtorEq, reduceIte, Nat.reduceEqDiff, Nat.reduceLT, Nat.reduceLeDiff, Int.natCast_succ, Post, Bx.av, boxOf, List.drop_zero]
def BxBd (b : Bx) : Prop := -10000 ≤ b.x ∧ b.x ≤ 10000 ∧ -10000 ≤ b.y ∧ b.y ≤ 10000 ∧ -10000 ≤ b.w ∧ b.w ≤ 10000 ∧ -10000 ≤ b.h ∧ b.h ≤ 10000
theorem boxOf_bd {w h : Nat} (hw : w ≤ 4000) (hh : h ≤ 4000) {l : List Int} (hb : InPg w h l) : BxBd (boxOf w h l) := by
  obtain ⟨⟨g1, g2⟩, ⟨g3, g4⟩, ⟨g5, g6⟩, ⟨g7, g8⟩⟩ := bxBounds hb
  unfold BxBd boxOf
  dsimp only
  omega
theorem specks1_ok (l : List Int) (b : Bx) (most : Int) :
    FnOk Tryz.prog 63 [.ro (.ints .i64 l), .agg b.av, .cell [.int .i64 most]] (.bool (speckB most l)) [] := by
  unfold Bx.av speckB
  refine FnOk.of_vc Tryz.func63 rfl (by decide) (by simp [Tryz.f63]) [.tmp 5] rfl fun w0 T0 _ => ?_
  simp only [Tryz.f63, argEnv]
  (repeat' first | with_reducible (first | intro _ | refine rc ?_ | refine rl ?_ | refine rh ?_ | refine rt ?_ | refine rf ?_ | refine rs ?_ | refine And.intro ?_ ?_) | omega | simp (maxSteps := 1000000) only [go_sem, simprocAttr, ↓reduceIte])
  refine Ret.auto 0 ?_ rfl ?_ <;> simp only [go_sem, reduceCtorEq, reduceIte, Nat.reduceEqDiff, Nat.reduceLT, Nat.reduceLeDiff, Int.natCast_succ, Post]
theorem changed1_ok (W H : Int) (p : List Bool) (i : Nat) (hi : i < p.length) :
    FnOk Tryz.prog 131 [.int .i64 i, .cell [.int .i64 W, .int .i64 H, .ro (.bools p)]] (.bool (p.getD i false)) [] := by
  refine FnOk.of_vc Tryz.func131 rfl (by decide) (by simp [Tryz.f131]) [.tmp 3] rfl fun w0 T0 _ => ?_
  simp only [Tryz.f131, argEnv]
  (repeat' first | with_reducible (first | intro _ | refine rc ?_ | refine rl ?_ | refine rh ?_ | refine rt ?_ | refine rf ?_ | refine rs ?_ | refine And.intro ?_ ?_) | omega | simp (maxSteps := 1000000) only [go_sem, simprocAttr, ↓reduceIte])
  refine Ret.auto 0 ?_ rfl ?_ <;> simp only [go_sem, reduceCtorEq, reduceIte, Nat.reduceEqDiff, Nat.reduceLT, Nat.reduceLeDiff, Int.natCast_succ, Post, Int.toNat_natCast]
theorem copyL (p : List Bool) {n : Nat} (h : p.length = n) : (List.range n).map (fun i => p.getD i false) = p := by
  subst h
  refine List.ext_getElem (by simp) fun k h1 h2 => ?_
  simp [h2]
set_option maxHeartbeats 8000000 in
theorem changed_err (w h : Nat) (hw1 : 1 ≤ w) (hw : w ≤ 1000) (hh1 : 1 ≤ h) (hh : h ≤ 1000) (p : List Bool) (hp : p.length = w * h) (ink cor : Bool) (f : Nat) (caps : List AV) [CapsOk caps] (most : Int) (hm : most < 0 ∨ 1048576 < most) :
    FnOk Tryz.prog 62 [.agg [.int .i64 w, .int .i64 h, .ro (.bools p)], .int .i64 most, .bool ink, .bool cor, .fn f caps] (.tup [.agg [.int .i64 0, .int .i64 0, .nilS], .int .i64 0, .int .i64 3]) [] := by
  refine FnOk.of_vc Tryz.func62 rfl (by decide) (by simp [Tryz.f62]) [.cell 10 53, .tmp 11, .tmp 12] rfl fun w0 T0 _ => ?_
  simp only [Tryz.f62, argEnv]
  (repeat' first | with_reducible (first | intro _ | refine rc ?_ | refine rl ?_ | refine rh ?_ | refine rt ?_ | refine rf ?_ | refine rs ?_ | refine And.intro ?_ ?_) | omega | simp (maxSteps := 1000000) only [go_sem, simprocAttr, ↓reduceIte])
  refine VcCall.k (checkBits_ok w h p) ?_
  rw [grayErr_ok hw1 hw hh1 hh hp]
  (repeat' first | with_reducible (first | intro _ | refine rc ?_ | refine rl ?_ | refine rh ?_ | refine rt ?_ | refine rf ?_ | refine rs ?_ | refine And.intro ?_ ?_) | omega | simp (maxSteps := 1000000) only [go_sem, simprocAttr, ↓reduceIte])
  refine Ret.auto 0 ?_ ?_ ?_ <;> simp only [go_sem, reduceCtorEq, reduceIte, Nat.reduceEqDiff, Nat.reduceLT, Nat.reduceLeDiff, Int.natCast_succ, Post, List.drop_zero]
set_option maxHeartbeats 8000000 in
theorem changed_ok (w h : Nat) (hw1 : 1 ≤ w) (hw : w ≤ 1000) (hh1 : 1 ≤ h) (hh : h ≤ 1000) (p : List Bool) (hp : p.length = w * h) (ink cor : Bool) (f : Nat) (caps : List AV) [CapsOk caps] (sel : List Int → Bool) (most : Int) (hm : 0 ≤ most ∧ most ≤ 1048576)
    (hsel : ∀ l, InPg w h l → FnFr Tryz.prog f ([.ro (.ints .i64 l), .agg (boxOf w h l).av] ++ caps) (.bool (sel l)) []) :
    FnOk Tryz.prog 62 [.agg [.int .i64 w, .int .i64 h, .ro (.bools p)], .int .i64 most, .bool ink, .bool cor, .fn f caps]
      (.tup [.agg [.int .i64 w, .int .i64 h, .own 0], .int .i64 (chgAll (!ink) sel p (pieces ⟨p, w, h, ink, cor⟩)).n, .int .i64 0]) [(0, .row 4 (.bools (chgAll (!ink) sel p (pieces ⟨p, w, h, ink, cor⟩)).p))] := by
  haveI c1 : CapsOk [.cell [.int .i64 w, .int .i64 h, .ro (.bools p)]] := ⟨rfl⟩
  have k1 := bits_ok w h (by omega) (by omega) 131 [.cell [.int .i64 w, .int .i64 h, .ro (.bools p)]] (fun i => p.getD i false) (fun i hi => FnFr.of_ok (changed1_ok w h p i (by omega)) rfl rfl)
  rw [copyL p hp] at k1
  have k2 := regions_ok w h hw1 hw hh1 hh p hp ink cor
  have hn : w * h ≤ 1000 * 1000 := Nat.mul_le_mul hw hh
  have hin : ∀ l, l ∈ pieces ⟨p, w, h, ink, cor⟩ → InPg w h l ∧ l.length ≤ w * h := fun l hl => by
    obtain ⟨j, hj, ho⟩ := pieces_ok _ l hl
    exact ⟨fun i hi => by have := ho.bd i hi; dsimp only at this; omega, ho.le⟩
  have hRl : (pieces ⟨p, w, h, ink, cor⟩).length ≤ w * h := pieces_len _
  generalize pieces ⟨p, w, h, ink, cor⟩ = R at *
  refine FnOk.of_vc Tryz.func62 rfl (by decide) (by simp [Tryz.f62]) [.cell 10 53, .tmp 11, .tmp 12] rfl fun w0 T0 _ => ?_
  simp only [Tryz.f62, argEnv]
  (repeat' first | with_reducible (first | intro _ | refine rc ?_ | refine rl ?_ | refine rh ?_ | refine rt ?_ | refine rf ?_ | refine rs ?_ | refine And.intro ?_ ?_) | omega | simp (maxSteps := 1000000) only [go_sem, simprocAttr, ↓reduceIte])
  refine VcCall.k (checkBits_ok w h p) ?_
  rw [grayErr_ok hw1 hw hh1 hh hp]
  (repeat' first | with_reducible (first | intro _ | refine rc ?_ | refine rl ?_ | refine rh ?_ | refine rt ?_ | refine rf ?_ | refine rs ?_ | refine And.intro ?_ ?_) | omega | simp (maxSteps := 1000000) only [go_sem, simprocAttr, ↓reduceIte])
  refine VcCall.fr (FnFr.of_ok k1 rfl rfl) (by simp only [noIdR_ok, argOkL, argOk, allOk, argOkN, List.drop_zero, lk, reduceIte, reduceCtorEq, Nat.reduceEqDiff, Option.some.injEq, Item.row.injEq, Item.box.injEq, AV.ro.injEq, exists_eq_left, exists_and_left, exists_eq_left', exists_eq_right, and_assoc, and_true, true_and, List.cons.injEq, exists_eq', exists_eq]) 1 rfl (by simp [rowsB, Item.below, Fv.below, belowL]) ?_
  (repeat' first | with_reducible (first | intro _ | refine rc ?_ | refine rl ?_ | refine rh ?_ | refine rt ?_ | refine rf ?_ | refine rs ?_ | refine And.intro ?_ ?_) | omega | simp (maxSteps := 1000000) only [go_sem, simprocAttr, ↓reduceIte])
  refine VcCall.ros (.ro (.objs 1 (R.map gAv))) k2 (by simp only [noIdR_ok, argOkL, argOk, allOk, argOkN, List.drop_zero, lk, reduceIte, reduceCtorEq, Nat.reduceEqDiff, Option.some.injEq, Item.row.injEq, Item.box.injEq, AV.ro.injEq, exists_eq_left, exists_and_left, exists_eq_left', exists_eq_right, and_assoc, and_true, true_and, List.cons.injEq, exists_eq', exists_eq]) (by simp [outOk, argOk, argOkN, lk, noIdR_ok]) rfl ?_
  (repeat' first | with_reducible (first | intro _ | refine rc ?_ | refine rl ?_ | refine rh ?_ | refine rt ?_ | refine rf ?_ | refine rs ?_ | refine And.intro ?_ ?_) | omega | simp (maxSteps := 1000000) only [go_sem, simprocAttr, ↓reduceIte])
  refine VcLoop.intro (fun k : Nat => ⟨72, [(44, .int .i64 k), (43, .int .i64 R.length), (42, .ro (.objs 1 (R.map gAv))), (15, .int .i64 (chgAll (!ink) sel p (R.take k)).n), (14, .ptr 2 0), (10, .ptr 1 0), (5, .ptr 0 0), (4, .fn f caps), (2, .bool ink)], [(0, .box 53 [.int .i64 w, .int .i64 h, .ro (.bools p)]), (1, .box 53 [.int .i64 0, .int .i64 0, .nilS]), (2, .box 53 [.int .i64 w, .int .i64 h, .own 3]), (3, .row 4 (.bools (chgAll (!ink) sel p (R.take k)).p))], 4⟩) (fun k => k ≤ R.length) (fun k => R.length - k) 0 ?_ (Nat.zero_le _) fun k hk => ?_
  · refine Ent.auto0 rfl ?_ ?_ <;> simp only [go_sem, reduceCtorEq, reduceIte, Nat.reduceEqDiff, Nat.reduceLT, Nat.reduceLeDiff, Int.natCast_succ, List.take_zero, chgAll, List.foldl_nil]
  by_cases hlt : k < R.length
  · have hel := g_elem R hlt
    have hts : R.take (k + 1) = R.take k ++ [R.getD k []] := by rw [List.take_succ_eq_append_getElem hlt, getD_lt hlt]
    obtain ⟨hb, hll⟩ := hin (R.getD k []) (by rw [getD_lt hlt]; exact List.getElem_mem hlt)
    have hcl := chgAll_len (!ink) sel p (R.take k)
    have hcs := chgAll_snoc (!ink) sel p (R.take k) (R.getD k [])
    rw [← hts] at hcs
    rw [List.length_take] at hcl
    generalize chgAll (!ink) sel p (R.take k) = C at *
    generalize R.getD k [] = l at *
    have ks := hsel l hb
    have kb := boxOf_ok w h (by omega) (by omega) hw1 p l hb
    generalize boxOf w h l = b at *
    unfold CS.step at hcs
    obtain ⟨P, n⟩ := C
    dsimp only at hcl hcs
    (repeat' first | with_reducible (first | intro _ | refine rc ?_ | refine rl ?_ | refine rh ?_ | refine rt ?_ | refine rf ?_ | refine rs ?_ | refine And.intro ?_ ?_) | omega | simp (maxSteps := 1000000) only [go_sem, simprocAttr, ↓reduceIte, elemA, hel])
    refine VcCall.k kb ?_
    unfold Bx.av at *
    (repeat' first | with_reducible (first | intro _ | refine rc ?_ | refine rl ?_ | refine rh ?_ | refine rt ?_ | refine rf ?_ | refine rs ?_ | refine And.intro ?_ ?_) | omega | simp (maxSteps := 1000000) only [go_sem, simprocAttr, ↓reduceIte, elemA, hel])
    refine VcCall.fr (args' := [.ro (.ints .i64 l), .agg [.int .i64 b.x, .int .i64 b.y, .int .i64 b.w, .int .i64 b.h]] ++ caps) ks (by simp [argOkL, allOk, argOkN, allOk_caps]) 0 rfl (by simp [rowsB]) ?_
    generalize sel l = sl at *
    cases sl
    · rw [if_neg (by decide)] at hcs
      (repeat' first | with_reducible (first | intro _ | refine rc ?_ | refine rl ?_ | refine rh ?_ | refine rt ?_ | refine rf ?_ | refine rs ?_ | refine And.intro ?_ ?_) | omega | simp (maxSteps := 1000000) only [go_sem, simprocAttr, ↓reduceIte])
      refine ⟨k + 1, Ent.auto0 rfl ?_ ?_, by omega, by omega⟩ <;> simp only [go_sem, reduceCtorEq, reduceIte, Nat.reduceEqDiff, Nat.reduceLT, Nat.reduceLeDiff, Int.natCast_succ, hcs]
    · rw [if_pos rfl] at hcs
      (repeat' first | with_reducible (first | intro _ | refine rc ?_ | refine rl ?_ | refine rh ?_ | refine rt ?_ | refine rf ?_ | refine rs ?_ | refine And.intro ?_ ?_) | omega | simp (maxSteps := 1000000) only [go_sem, simprocAttr, ↓reduceIte])
      refine VcLoop.intro (fun m : Nat => ⟨72, [(58, .int .i64 m), (57, .int .i64 l.length), (56, .ro (.ints .i64 l)), (44, .int .i64 k), (43, .int .i64 R.length), (42, .ro (.objs 1 (R.map gAv))), (15, .int .i64 (n + 1 : Nat)), (14, .ptr 2 0), (10, .ptr 1 0), (5, .ptr 0 0), (4, .fn f caps), (2, .bool ink)], [(0, .box 53 [.int .i64 w, .int .i64 h, .ro (.bools p)]), (1, .box 53 [.int .i64 0, .int .i64 0, .nilS]), (2, .box 53 [.int .i64 w, .int .i64 h, .own 3]), (3, .row 4 (.bools (chg (!ink) P (l.take m))))], 4⟩) (fun m => m ≤ l.length) (fun m => l.length - m) 0 ?_ (Nat.zero_le _) fun m hm => ?_
      · refine Ent.auto0 rfl ?_ ?_ <;> simp only [go_sem, reduceCtorEq, reduceIte, Nat.reduceEqDiff, Nat.reduceLT, Nat.reduceLeDiff, Int.natCast_succ, List.take_zero, chg, List.foldl_nil]
      by_cases hml : m < l.length
      · obtain ⟨b1, b2⟩ := hb _ (getD_mem hml)
        have hms := take_snoc hml
        have hpl := chg_len (!ink) (l.take m) P
        have hsn := chg_snoc (!ink) P (l.take m) (l.getD m 0)
        rw [← hms] at hsn
        (repeat' first | with_reducible (first | intro _ | refine rc ?_ | refine rl ?_ | refine rh ?_ | refine rt ?_ | refine rf ?_ | refine rs ?_ | refine And.intro ?_ ?_) | omega | simp (maxSteps := 1000000) only [go_sem, simprocAttr, ↓reduceIte, Int.toNat_natCast])
        refine ⟨m + 1, Ent.auto0 rfl ?_ ?_, by omega, by omega⟩ <;> simp only [go_sem, reduceCtorEq, reduceIte, Nat.reduceEqDiff, Nat.reduceLT, Nat.reduceLeDiff, Int.natCast_succ, hsn]
      · have e : m = l.length := by omega
        subst e
        rw [List.take_length]
        (repeat' first | with_reducible (first | intro _ | refine rc ?_ | refine rl ?_ | refine rh ?_ | refine rt ?_ | refine rf ?_ | refine rs ?_ | refine And.intro ?_ ?_) | omega | simp (maxSteps := 1000000) only [go_sem, simprocAttr, ↓reduceIte])
        refine ⟨k + 1, Ent.auto0 rfl ?_ ?_, by omega, by omega⟩ <;> simp only [go_sem, reduceCtorEq, reduceIte, Nat.reduceEqDiff, Nat.reduceLT, Nat.reduceLeDiff, Int.natCast_succ, hcs]
  · have e : k = R.length := by omega
    subst e
    rw [List.take_length]
    (repeat' first | with_reducible (first | intro _ | refine rc ?_ | refine rl ?_ | refine rh ?_ | refine rt ?_ | refine rf ?_ | refine rs ?_ | refine And.intro ?_ ?_) | omega | simp (maxSteps := 1000000) only [go_sem, simprocAttr, ↓reduceIte])
    refine Ret.auto 1 ?_ rfl ?_ <;> simp only [go_sem, reduceCtorEq, reduceIte, Nat.reduceEqDiff, Nat.reduceLT, Nat.reduceLeDiff, Int.natCast_succ, Post, List.drop_zero]
end Go.Fv.U

/- The reference's parts: the walk. -/
namespace Go.Fv.U
open Go Go.Proofs
set_option linter.unusedSimpArgs false
set_option linter.unusedVariables false
set_option linter.unnecessarySimpa false
set_option maxRecDepth 8000

end Go.Fv.U

/- The reference's Hull: the walk. -/
namespace Go.Fv.U
open Go Go.Proofs
set_option linter.unusedSimpArgs false
set_option linter.unusedVariables false
set_option linter.unnecessarySimpa false
set_option maxRecDepth 8000

end Go.Fv.U

/- Pieces and the reference's: the walk. -/
namespace Go.Fv.U
open Go Go.Proofs
set_option linter.unusedSimpArgs false
set_option linter.unusedVariables false
set_option linter.unnecessarySimpa false
set_option maxRecDepth 8000

set_option maxHeartbeats 8000000 in
theorem pieces_fn (w h : Nat) (hw1 : 1 ≤ w) (hw : w ≤ 1000) (hh1 : 1 ≤ h) (hh : h ≤ 1000) (p : List Bool) (hp : p.length = w * h) :
    FnOk Tryz.prog 21 [.agg [.int .i64 w, .int .i64 h, .ro (.bools p)]] (.tup [.own 0, .int .i64 0]) [(0, .row 72 (pcR ((pieces ⟨p, w, h, true, true⟩).map (pcOf w h))))] := by
  have k2 := regions_ok w h hw1 hw hh1 hh p hp true true
  have hn : w * h ≤ 1000 * 1000 := Nat.mul_le_mul hw hh
  have hin : ∀ l, l ∈ pieces ⟨p, w, h, true, true⟩ → InPg w h l ∧ l.length ≤ w * h ∧ 0 < l.length := fun l hl => by
    obtain ⟨j, hj, ho⟩ := pieces_ok _ l hl
    obtain ⟨t, ht⟩ := ho.hd
    exact ⟨fun i hi => by have := ho.bd i hi; dsimp only at this; omega, ho.le, by rw [ht]; simp⟩
  have hRl : (pieces ⟨p, w, h, true, true⟩).length ≤ w * h := pieces_len _
  generalize pieces ⟨p, w, h, true, true⟩ = R at *
  refine FnOk.of_vc Tryz.func21 rfl (by decide) (by simp [Tryz.f21]) [.tmp 2, .tmp 3] rfl fun w0 T0 _ => ?_
  simp only [Tryz.f21, argEnv]
  (repeat' first | with_reducible (first | intro _ | refine rc ?_ | refine rl ?_ | refine rh ?_ | refine rt ?_ | refine rf ?_ | refine rs ?_ | refine And.intro ?_ ?_) | omega | simp (maxSteps := 1000000) only [go_sem, simprocAttr, ↓reduceIte])
  refine VcCall.k (checkBits_ok w h p) ?_
  rw [grayErr_ok hw1 hw hh1 hh hp]
  (repeat' first | with_reducible (first | intro _ | refine rc ?_ | refine rl ?_ | refine rh ?_ | refine rt ?_ | refine rf ?_ | refine rs ?_ | refine And.intro ?_ ?_) | omega | simp (maxSteps := 1000000) only [go_sem, simprocAttr, ↓reduceIte])
  refine VcCall.ros (.ro (.objs 1 (R.map gAv))) k2 (by simp only [noIdR_ok, argOkL, argOk, allOk, argOkN, List.drop_zero, lk, reduceIte, reduceCtorEq, Nat.reduceEqDiff, Option.some.injEq, Item.row.injEq, Item.box.injEq, AV.ro.injEq, exists_eq_left, exists_and_left, exists_eq_left', exists_eq_right, and_assoc, and_true, true_and, List.cons.injEq, exists_eq', exists_eq]) (by simp [outOk, argOk, argOkN, lk, noIdR_ok]) rfl ?_
  (repeat' first | with_reducible (first | intro _ | refine rc ?_ | refine rl ?_ | refine rh ?_ | refine rt ?_ | refine rf ?_ | refine rs ?_ | refine And.intro ?_ ?_) | omega | simp (maxSteps := 1000000) only [go_sem, simprocAttr, ↓reduceIte])
  refine VcLoop.intro (fun k : Nat => ⟨44, [(16, .int .i64 k), (15, .int .i64 R.length), (14, .ro (.objs 1 (R.map gAv))), (5, .own 1), (1, .ptr 0 0)], [(0, .box 53 [.int .i64 w, .int .i64 h, .ro (.bools p)]), (1, .row 72 (pcR ((R.take k).map (pcOf w h))))], 2⟩) (fun k => k ≤ R.length) (fun k => R.length - k) 0 ?_ (Nat.zero_le _) fun k hk => ?_
  · refine Ent.auto0 rfl ?_ ?_ <;> simp only [go_sem, reduceCtorEq, reduceIte, Nat.reduceEqDiff, Nat.reduceLT, Nat.reduceLeDiff, Int.natCast_succ, List.take_zero, List.map_nil]
  by_cases hlt : k < R.length
  · have hel := g_elem R hlt
    have hts : R.take (k + 1) = R.take k ++ [R.getD k []] := by rw [List.take_succ_eq_append_getElem hlt, getD_lt hlt]
    obtain ⟨hb, hll, hl0⟩ := hin (R.getD k []) (by rw [getD_lt hlt]; exact List.getElem_mem hlt)
    have hlen : ((R.take k).map (pcOf w h)).length = k := by rw [List.length_map, List.length_take]; omega
    generalize R.getD k [] = l at *
    have kb := boxOf_ok w h (by omega) (by omega) hw1 p l hb
    obtain ⟨b1, b2⟩ := hb _ (getD_mem hl0)
    have hx : (l.getD 0 0).tmod w = l.getD 0 0 % w := Int.tmod_eq_emod_of_nonneg b1
    have hy : (l.getD 0 0).tdiv w = l.getD 0 0 / w := Int.tdiv_eq_ediv_of_nonneg b1
    have hxy := xy_bd' b1 b2
    have hpc : (pcOf w h l).av = [.int .i64 (boxOf w h l).x, .int .i64 (boxOf w h l).y, .int .i64 (boxOf w h l).w, .int .i64 (boxOf w h l).h, .int .i64 l.length, .int .i64 (l.getD 0 0 % w), .int .i64 (l.getD 0 0 / w)] := rfl
    generalize boxOf w h l = b at *
    unfold Bx.av at kb
    (repeat' first | with_reducible (first | intro _ | refine rc ?_ | refine rl ?_ | refine rh ?_ | refine rt ?_ | refine rf ?_ | refine rs ?_ | refine And.intro ?_ ?_) | omega | simp (maxSteps := 1000000) only [go_sem, simprocAttr, ↓reduceIte, elemA, hel])
    refine VcDraw.lex [20, 21] [(0, [1])] (by kernel_rfl) (by kernel_rfl) ?_
    (repeat' first | with_reducible (first | intro _ | refine rc ?_ | refine rl ?_ | refine rh ?_ | refine rt ?_ | refine rf ?_ | refine rs ?_ | refine And.intro ?_ ?_) | omega | simp (maxSteps := 1000000) only [go_sem, simprocAttr, ↓reduceIte])
    (refine QV.intro (.agg [.int .i64 b.x, .int .i64 b.y, .int .i64 b.w, .int .i64 b.h]) ?_ ?_; focus ((repeat' first | with_reducible (first | intro _ | refine rc ?_ | refine rl ?_ | refine rh ?_ | refine rt ?_ | refine rf ?_ | refine rs ?_ | refine And.intro ?_ ?_) | omega | simp (maxSteps := 1000000) only [go_sem, simprocAttr, ↓reduceIte]); refine VcCall.k (kb) ?_; (repeat' first | with_reducible (first | intro _ | refine rc ?_ | refine rl ?_ | refine rh ?_ | refine rt ?_ | refine rf ?_ | refine rs ?_ | refine And.intro ?_ ?_) | omega | simp (maxSteps := 1000000) only [go_sem, simprocAttr, ↓reduceIte])))
    (repeat' first | with_reducible (first | intro _ | refine rc ?_ | refine rl ?_ | refine rh ?_ | refine rt ?_ | refine rf ?_ | refine rs ?_ | refine And.intro ?_ ?_) | omega | simp (maxSteps := 1000000) only [go_sem, simprocAttr, ↓reduceIte, Int.toNat_zero, hx, hy, hlen, List.length_map])
    refine ⟨k + 1, Ent.auto0 rfl ?_ ?_, by omega, by omega⟩ <;> simp only [go_sem, reduceCtorEq, reduceIte, Nat.reduceEqDiff, Nat.reduceLT, Nat.reduceLeDiff, Int.natCast_succ, hts, List.map_append, hpc]
  · have e : k = R.length := by omega
    subst e
    rw [List.take_length]
    (repeat' first | with_reducible (first | intro _ | refine rc ?_ | refine rl ?_ | refine rh ?_ | refine rt ?_ | refine rf ?_ | refine rs ?_ | refine And.intro ?_ ?_) | omega | simp (maxSteps := 1000000) only [go_sem, simprocAttr, ↓reduceIte])
    refine Ret.auto 1 ?_ rfl ?_ <;> simp only [go_sem, reduceCtorEq, reduceIte, Nat.reduceEqDiff, Nat.reduceLT, Nat.reduceLeDiff, Int.natCast_succ, Post]
end Go.Fv.U

/-! The reference's box as small as its ink permits: the walk. -/
namespace Go.Fv.U
open Go Go.Proofs
set_option linter.unusedSimpArgs false
set_option linter.unusedVariables false
set_option linter.unnecessarySimpa false
set_option maxRecDepth 8000

theorem cutP_len (p : List Bool) (w : Nat) (b : Nb) : (cutP p w b).length = b.w * b.h := by
  unfold cutP; rw [rowsOf_len, Nat.mul_comm]
end Go.Fv.U

/-! The row on which most pieces end: the walk. -/
namespace Go.Fv.U
open Go Go.Proofs
set_option linter.unusedSimpArgs false
set_option linter.unusedVariables false
set_option linter.unnecessarySimpa false
set_option maxRecDepth 8000

theorem ren_cKs (p : Nat → Nat) (l : List Int) : renL p (cKs l) = cKs l := renL_kmap p (fun _ => rfl) _
theorem ren_cVs (p : Nat → Nat) (l : List Int) : renL p (cVs l) = cVs l := renL_kmap p (fun _ => rfl) _
theorem below_cKs (n : Nat) (l : List Int) : belowL n (cKs l) = true := belowL_kmap n (fun _ => rfl) _
theorem below_cVs (n : Nat) (l : List Int) : belowL n (cVs l) = true := belowL_kmap n (fun _ => rfl) _
theorem mk_cKs (l : List Int) (y : List AV) : mkL (cKs l) y = [] := mkL_kmap (fun _ => rfl) _ _
theorem mk_cVs (l : List Int) (y : List AV) : mkL (cVs l) y = [] := mkL_kmap (fun _ => rfl) _ _
theorem keysT_cnt {P : Program} {kt : TypeId} (h : P.underlying kt = some (.int .i64)) (l : List Int) : KeysT P kt (cKs l) := KeysT_map (fun n => KeyT.int h n) _
theorem take_mapG {α β : Type} (f : α → β) (z : α) {l : List α} {k : Nat} (h : k < l.length) : (l.take (k + 1)).map f = (l.take k).map f ++ [f (l.getD k z)] := by
  rw [List.take_succ_eq_append_getElem h, getD_lt h, List.map_append]; rfl
theorem cutE_ok (w h : Nat) (hw1 : 1 ≤ w) (hw : w ≤ 4000) (hh1 : 1 ≤ h) (hh : h ≤ 4000) (hwh : w * h ≤ 1048576) (p : List Bool) (hp : p.length = w * h) (X Y W H : Int) (hb : ¬ BoxIn w h X Y W H) :
    FnOk Tryz.prog 64 [.agg [.int .i64 w, .int .i64 h, .ro (.bools p)], .agg [.int .i64 X, .int .i64 Y, .int .i64 W, .int .i64 H]] (.tup [.agg [.int .i64 0, .int .i64 0, .nilS], .int .i64 13]) [] := by
  have k1 := checkBothG_ok w h hw1 hw hh1 hh hwh p hp X Y W H
  rw [if_neg hb] at k1
  refine FnOk.of_vc Tryz.func64 rfl (by decide) (by simp [Tryz.f64]) [.cell 4 53, .tmp 5] rfl fun w0 T0 _ => ?_
  simp only [Tryz.f64, argEnv]
  (repeat' first | with_reducible (first | intro _ | refine rc ?_ | refine rl ?_ | refine rh ?_ | refine rt ?_ | refine rf ?_ | refine rs ?_ | refine And.intro ?_ ?_) | omega | simp (maxSteps := 1000000) only [go_sem, simprocAttr, ↓reduceIte])
  refine VcCall.k (k1) ?_
  (repeat' first | with_reducible (first | intro _ | refine rc ?_ | refine rl ?_ | refine rh ?_ | refine rt ?_ | refine rf ?_ | refine rs ?_ | refine And.intro ?_ ?_) | omega | simp (maxSteps := 1000000) only [go_sem, simprocAttr, ↓reduceIte])
  refine Ret.auto 0 ?_ rfl ?_ <;> simp only [go_sem, reduceCtorEq, reduceIte, Nat.reduceEqDiff, Nat.reduceLT, Nat.reduceLeDiff, Int.natCast_succ, Post]
set_option maxHeartbeats 8000000 in
theorem base_ok (w h : Nat) (hw1 : 1 ≤ w) (hw : w ≤ 1000) (hh1 : 1 ≤ h) (hh : h ≤ 1000) (p : List Bool) (hp : p.length = w * h) (b : Nb) (hb : InP b w h) (hb1 : 1 ≤ b.w) (hb2 : 1 ≤ b.h) :
    FnOk Tryz.prog 60 [.agg [.int .i64 w, .int .i64 h, .ro (.bools p)], .agg b.av] (.tup [.int .i64 (if inkB p w b = 0 then 0 else lowOf (bots (cutP p w b) b.w b.h) + b.y), .int .i64 (if inkB p w b = 0 then 9 else 0)]) [] := by
  have hwh : w * h ≤ 1000 * 1000 := Nat.mul_le_mul hw hh
  have k2 := cut_ok w h b.x b.y b.w b.h hw1 (by omega) hh1 (by omega) (by omega) p hp hb1 hb2 hb.1 hb.2
  rw [show rowsOf b.w (cutAt p w b.x b.y) (b.h * b.w) = cutP p w b from rfl] at k2
  have hql := cutP_len p w b
  have hnil := bots_nil (cutP p w b) b.w b.h hql
  rw [← ink_whole (cutP p w b) b.w b.h hql, show inkN (cutP p w b) b.w 0 0 b.w b.h = inkB p w b from by
    unfold cutP inkB; rw [ink_cut p w b.x b.y b.w b.h (by omega) (by omega)]; rfl] at hnil
  have hwd : b.w ≤ 1000 ∧ b.h ≤ 1000 ∧ b.y ≤ 1000 := by unfold InP at hb; omega
  have k3 := regions_ok b.w b.h hb1 (by omega) hb2 (by omega) (cutP p w b) hql true true
  have hbb := bots_bd (cutP p w b) b.w b.h
  have hbl := bots_len (cutP p w b) b.w b.h
  have hbm : b.w * b.h ≤ 1000 * 1000 := Nat.mul_le_mul hwd.1 hwd.2.1
  have hpg : ∀ l, l ∈ pieces ⟨cutP p w b, b.w, b.h, true, true⟩ → InPg b.w b.h l ∧ l ≠ [] := fun l hl => piece_pg hl
  have hbo : bots (cutP p w b) b.w b.h = (pieces ⟨cutP p w b, b.w, b.h, true, true⟩).map (botP b.w) := rfl
  generalize pieces ⟨cutP p w b, b.w, b.h, true, true⟩ = R at *
  generalize bots (cutP p w b) b.w b.h = BL at *
  generalize cutP p w b = q at *
  generalize inkB p w b = N at *
  obtain ⟨bx, by', bw, bh⟩ := b
  dsimp only [Nb.av] at *
  refine FnOk.of_vc Tryz.func60 rfl (by decide) (by simp [Tryz.f60]) [.tmp 4, .tmp 5] rfl fun w0 T0 _ => ?_
  simp only [Tryz.f60, argEnv]
  (repeat' first | with_reducible (first | intro _ | refine rc ?_ | refine rl ?_ | refine rh ?_ | refine rt ?_ | refine rf ?_ | refine rs ?_ | refine And.intro ?_ ?_) | omega | simp (maxSteps := 1000000) only [go_sem, simprocAttr, ↓reduceIte])
  refine VcCall.ro (.tup [.agg [.int .i64 bw, .int .i64 bh, .ro (.bools q)], .int .i64 0]) (FnFr.of_ok k2 rfl rfl) (by simp only [noIdR_ok, argOkL, argOk, allOk, argOkN, List.drop_zero, lk, reduceIte, reduceCtorEq, Nat.reduceEqDiff, Option.some.injEq, Item.row.injEq, Item.box.injEq, AV.ro.injEq, exists_eq_left, exists_and_left, exists_eq_left', exists_eq_right, and_assoc, and_true, true_and, List.cons.injEq, exists_eq', exists_eq]) (by simp [outOk, argOkL, allOk, argOk, argOkN, lk, noIdR_ok]) rfl ?_
  (repeat' first | with_reducible (first | intro _ | refine rc ?_ | refine rl ?_ | refine rh ?_ | refine rt ?_ | refine rf ?_ | refine rs ?_ | refine And.intro ?_ ?_) | omega | simp (maxSteps := 1000000) only [go_sem, simprocAttr, ↓reduceIte])
  refine VcCall.ros (.ro (.objs 1 (R.map gAv))) k3 (by simp only [noIdR_ok, argOkL, argOk, allOk, argOkN, List.drop_zero, lk, reduceIte, reduceCtorEq, Nat.reduceEqDiff, Option.some.injEq, Item.row.injEq, Item.box.injEq, AV.ro.injEq, exists_eq_left, exists_and_left, exists_eq_left', exists_eq_right, and_assoc, and_true, true_and, List.cons.injEq, exists_eq', exists_eq]) (by simp [outOk, argOk, argOkN, lk, noIdR_ok]) rfl ?_
  (repeat' first | with_reducible (first | intro _ | refine rc ?_ | refine rl ?_ | refine rh ?_ | refine rt ?_ | refine rf ?_ | refine rs ?_ | refine And.intro ?_ ?_) | omega | simp (maxSteps := 1000000) only [go_sem, simprocAttr, ↓reduceIte, List.length_map])
  refine VcLoop.intro (fun k : Nat => ⟨81, [(28, .int .i64 k), (27, .int .i64 R.length), (26, .ro (.objs 1 (R.map gAv))), (8, .own 0), (3, .ptr 1 0), (6, .ptr 2 0)], [(0, .map (cKs (BL.take k)) (cVs (BL.take k))), (1, .box 65 [.int .i64 bx, .int .i64 by', .int .i64 bw, .int .i64 bh]), (2, .box 53 [.int .i64 bw, .int .i64 bh, .ro (.bools q)])], 3⟩) (fun k => k ≤ R.length) (fun k => R.length - k) 0 ?_ (Nat.zero_le _) fun k hk => ?_
  · have e0 : cKs [] = [] ∧ cVs [] = [] := ⟨rfl, rfl⟩
    refine Ent.auto0 rfl ?_ ?_ <;> simp only [go_sem, reduceCtorEq, reduceIte, Nat.reduceEqDiff, Nat.reduceLT, Nat.reduceLeDiff, Int.natCast_succ, List.take_zero, e0.1, e0.2]
  by_cases hlt : k < R.length
  · have he := g_elem R hlt
    have hts : BL.take (k + 1) = BL.take k ++ [botP bw (R.getD k [])] := by
      rw [hbo, ← List.map_take, ← List.map_take]; exact take_mapG _ [] hlt
    obtain ⟨hpk, hpn⟩ := hpg (R.getD k []) (by rw [getD_lt hlt]; exact List.getElem_mem hlt)
    have kB := boxOf_ok bw bh (by omega) (by omega) hb1 q (R.getD k []) hpk
    have hbt := box_bot bw bh (R.getD k [])
    have hbd2 := boxOf_bd (w := bw) (h := bh) (by omega) (by omega) hpk
    have hcb2 := cnt_bd (BL.take k) (botP bw (R.getD k []))
    have htl : (BL.take k).length ≤ 1000000 := by rw [List.length_take]; omega
    generalize R.getD k [] = r at *
    generalize boxOf bw bh r = c at *
    unfold BxBd at hbd2
    unfold Bx.av at kB
    generalize botP bw r = y at *
    have e1 := getI_cnt (BL.take k) y
    have e2 := updKs_cnt (BL.take k) y
    have e3 := updVs_cnt (BL.take k) y
    have e4 := isI_cnt (BL.take k)
    have e5 : KeysT Tryz.prog 3 (cKs (BL.take k)) := keysT_cnt (by kernel_rfl) _
    (repeat' first | with_reducible (first | intro _ | refine rc ?_ | refine rl ?_ | refine rh ?_ | refine rt ?_ | refine rf ?_ | refine rs ?_ | refine And.intro ?_ ?_) | omega | simp (maxSteps := 1000000) only [go_sem, simprocAttr, ↓reduceIte, List.length_map, elemA, he])
    refine VcCall.k (kB) ?_
    (repeat' first | with_reducible (first | intro _ | refine rc ?_ | refine rl ?_ | refine rh ?_ | refine rt ?_ | refine rf ?_ | refine rs ?_ | refine And.intro ?_ ?_) | omega | simp (maxSteps := 1000000) only [go_sem, simprocAttr, ↓reduceIte, hbt, e1, e2, e3, e4, e5])
    refine ⟨k + 1, Ent.auto0 rfl ?_ ?_, by omega, by omega⟩ <;> simp only [go_sem, reduceCtorEq, reduceIte, Nat.reduceEqDiff, Nat.reduceLT, Nat.reduceLeDiff, Int.natCast_succ, hts, ren_cKs, ren_cVs, below_cKs, below_cVs, mk_cKs, mk_cVs]
  · have e : k = R.length := by omega
    subst e
    have hbl2 : BL.take R.length = BL := by rw [List.take_of_length_le]; rw [hbo, List.length_map]; exact Nat.le_refl _
    rw [hbl2]
    have hkl := cKs_len BL
    have huq := uq_nil (l := BL)
    have hule := uq_le BL
    have hkb : (cKs BL).length ≤ 1000000 := by rw [hkl]; omega
    by_cases hN : N = 0
    · rw [if_pos hN, if_pos hN]
      have hz : (cKs BL).length = 0 := by rw [hkl]; exact huq.2 (hnil.2 hN)
      (repeat' first | with_reducible (first | intro _ | refine rc ?_ | refine rl ?_ | refine rh ?_ | refine rt ?_ | refine rf ?_ | refine rs ?_ | refine And.intro ?_ ?_) | omega | simp (maxSteps := 1000000) only [go_sem, simprocAttr, ↓reduceIte, hz])
      refine Ret.auto 0 ?_ rfl ?_ <;> simp only [go_sem, reduceCtorEq, reduceIte, Nat.reduceEqDiff, Nat.reduceLT, Nat.reduceLeDiff, Int.natCast_succ, Post]
    rw [if_neg hN, if_neg hN]
    have hz : ¬ (cKs BL).length = 0 := by rw [hkl]; exact fun h => hN (hnil.1 (huq.1 h))
    (repeat' first | with_reducible (first | intro _ | refine rc ?_ | refine rl ?_ | refine rh ?_ | refine rt ?_ | refine rf ?_ | refine rs ?_ | refine And.intro ?_ ?_) | omega | simp (maxSteps := 1000000) only [go_sem, simprocAttr, ↓reduceIte, hz])
    refine VcLoop.intro (fun x : List Nat × Int => ⟨81, [(12, .int .i64 x.2), (49, .ptr 2 0), (8, .own 0), (3, .ptr 1 0)], [(0, .map (cKs BL) (cVs BL)), (1, .box 65 [.int .i64 bx, .int .i64 by', .int .i64 bw, .int .i64 bh]), (2, .iter 0 (cKs BL).length x.1)], 3⟩) (fun x => (LowL BL (seenK BL x.1) x.2 ∧ (-1 ≤ x.2 ∧ x.2 ≤ 1000)) ∧ ∀ j, j ∈ x.1 → j < (uq BL).length) (fun x => left (uq BL).length x.1) ([], -1) ?_ ⟨⟨.inl ⟨rfl, rfl⟩, by decide⟩, fun j hj => absurd hj List.not_mem_nil⟩ fun x hx => ?_
    · refine Ent.auto0 rfl ?_ ?_ <;> simp only [go_sem, reduceCtorEq, reduceIte, Nat.reduceEqDiff, Nat.reduceLT, Nat.reduceLeDiff, Int.natCast_succ, ren_cKs, ren_cVs, below_cKs, below_cVs, mk_cKs, mk_cVs]
    obtain ⟨seen, best⟩ := x
    obtain ⟨⟨hb', hbd⟩, hs⟩ := hx
    dsimp only at hb' hbd hs ⊢
    have e1 := getI_cnt BL
    have e4 := isI_cnt BL
    have e5 : KeysT Tryz.prog 3 (cKs BL) := keysT_cnt (by kernel_rfl) _
    have c1 := fun k => cnt_bd BL k
    (repeat' first | with_reducible (first | intro _ | refine rc ?_ | refine rl ?_ | refine rh ?_ | refine rt ?_ | refine rf ?_ | refine rs ?_ | refine And.intro ?_ ?_) | omega | simp (maxSteps := 1000000) only [go_sem, simprocAttr, ↓reduceIte])
    refine VcNext.intro (fun j kx vx hj hkx hvx => ?_) (fun hall => ?_)
    · obtain ⟨hjl, rfl, hkl⟩ := cKs_at hkx
      obtain rfl := cVs_at hvx
      have hst := hb'.step (k := (uq BL).getD j 0) fun k hk => (hbb k (seenK_mem hs hk)).1
      have hsn := seenK_snoc BL seen j
      have hlt := left_lt hj hjl
      have hs' : ∀ j', j' ∈ seen ++ [j] → j' < (uq BL).length := fun j' hj' => by
        rcases List.mem_append.1 hj' with h' | h'
        · exact hs j' h'
        · simp at h'; subst h'; exact hjl
      have hk0 := hbb _ hkl
      unfold pickLow at hst
      generalize (uq BL).getD j 0 = key at *
      have c2 := c1 key
      have c3 := c1 best
      (repeat' first | with_reducible (first | intro _ | refine rc ?_ | refine rl ?_ | refine rh ?_ | refine rt ?_ | refine rf ?_ | refine rs ?_ | refine And.intro ?_ ?_) | omega | simp (maxSteps := 1000000) only [go_sem, simprocAttr, ↓reduceIte])
      refine VcEnt.intro hkx hvx ?_
      (repeat' first | with_reducible (first | intro _ | refine rc ?_ | refine rl ?_ | refine rh ?_ | refine rt ?_ | refine rf ?_ | refine rs ?_ | refine And.intro ?_ ?_) | omega | simp (maxSteps := 1000000) only [go_sem, simprocAttr, ↓reduceIte, e1, e4, e5])
      · rename_i hc
        rw [if_pos (by omega), ← hsn] at hst
        refine ⟨(seen ++ [j], key), Ent.auto0 rfl ?_ ?_, ⟨⟨hst, by dsimp only; omega⟩, hs'⟩, hlt⟩ <;> simp only [go_sem, reduceCtorEq, reduceIte, Nat.reduceEqDiff, Nat.reduceLT, Nat.reduceLeDiff, Int.natCast_succ, ren_cKs, ren_cVs, below_cKs, below_cVs, mk_cKs, mk_cVs]
      · rename_i hc
        rw [if_neg (by omega), ← hsn] at hst
        refine ⟨(seen ++ [j], best), Ent.auto0 rfl ?_ ?_, ⟨⟨hst, hbd⟩, hs'⟩, hlt⟩ <;> simp only [go_sem, reduceCtorEq, reduceIte, Nat.reduceEqDiff, Nat.reduceLT, Nat.reduceLeDiff, Int.natCast_succ, ren_cKs, ren_cVs, below_cKs, below_cVs, mk_cKs, mk_cVs]
    · have hbe := low_all (fun k hk => (hbb k hk).1) hs (fun j hj => hall j (by rw [cKs_len]; exact hj)) hb'
      rw [← hbe]
      (repeat' first | with_reducible (first | intro _ | refine rc ?_ | refine rl ?_ | refine rh ?_ | refine rt ?_ | refine rf ?_ | refine rs ?_ | refine And.intro ?_ ?_) | omega | simp (maxSteps := 1000000) only [go_sem, simprocAttr, ↓reduceIte])
      refine Ret.auto 0 ?_ rfl ?_ <;> simp only [go_sem, reduceCtorEq, reduceIte, Nat.reduceEqDiff, Nat.reduceLT, Nat.reduceLeDiff, Int.natCast_succ, Post]
      omega
end Go.Fv.U
