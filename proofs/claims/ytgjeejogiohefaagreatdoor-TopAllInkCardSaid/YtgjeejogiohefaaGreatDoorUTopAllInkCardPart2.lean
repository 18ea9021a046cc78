/-
  A part of the proof of the claim: walks over the program's functions and the plain laws that these need. No condition of its own.
-/
import Derived.Test.YtgjeejogiohefaaGreatDoorUTopAllInkCardPart1
/-! Boxes of a page that are cut where there is no ink: plain law. -/
namespace Go.Fv.U
open Go
set_option linter.unusedSimpArgs false
set_option linter.unusedVariables false

/-- A box of a page. -/
structure Nb where
  (x y w h : Nat)
def Nb.av (b : Nb) : List AV := [.int .i64 b.x, .int .i64 b.y, .int .i64 b.w, .int .i64 b.h]
def Nb.zero : Nb := ⟨0, 0, 0, 0⟩
section
variable (p : List Bool) (w : Nat)
def inkB (b : Nb) : Nat := inkN p w b.x b.y b.w b.h
def colN (b : Nb) (i : Nat) : Nat := inkN p w i b.y 1 b.h
def rowN (b : Nb) (j : Nat) : Nat := inkN p w b.x j b.w 1
theorem inkN_split (X Y a c H : Nat) : inkN p w X Y (a + c) H = inkN p w X Y a H + inkN p w (X + a) Y c H := by
  have h1 := inkN_rect p w X Y (a + c) H
  have h2 := inkN_rect p w X Y a H
  have h3 := inkN_rect p w (X + a) Y c H
  rw [Nat.add_assoc] at h3
  unfold rect at *
  omega
theorem inkN_splitV (X Y W a c : Nat) : inkN p w X Y W (a + c) = inkN p w X Y W a + inkN p w X (Y + a) W c := by
  have h1 := inkN_rect p w X Y W (a + c)
  have h2 := inkN_rect p w X Y W a
  have h3 := inkN_rect p w X (Y + a) W c
  rw [Nat.add_assoc] at h3
  unfold rect at *
  omega
theorem inkN_w0 (X Y H : Nat) : inkN p w X Y 0 H = 0 := by have := inkN_le p w X Y 0 H; omega
theorem inkN_h0 (X Y W : Nat) : inkN p w X Y W 0 = 0 := by have := inkN_le p w X Y W 0; omega
/-- Part of a part. -/
theorem inkN_mono {X Y W H X' Y' W' H' : Nat} (h1 : X ≤ X') (h2 : X' + W' ≤ X + W) (h3 : Y ≤ Y') (h4 : Y' + H' ≤ Y + H) : inkN p w X' Y' W' H' ≤ inkN p w X Y W H := by
  have e1 : W = (X' - X) + (W' + (X + W - (X' + W'))) := by omega
  have e2 : H = (Y' - Y) + (H' + (Y + H - (Y' + H'))) := by omega
  rw [e1, inkN_split, inkN_split]
  rw [e2, inkN_splitV p w (X + (X' - X)) Y W', inkN_splitV p w (X + (X' - X)) (Y + (Y' - Y)) W']
  rw [show X + (X' - X) = X' by omega, show Y + (Y' - Y) = Y' by omega]
  omega
/-- Empty columns together are empty. -/
theorem cols_zero (X Y H : Nat) : ∀ n, (∀ i, i < n → inkN p w (X + i) Y 1 H = 0) → inkN p w X Y n H = 0
  | 0, _ => inkN_w0 p w X Y H
  | n + 1, h => by rw [inkN_split, cols_zero X Y H n fun i hi => h i (by omega), h n (by omega)]
theorem rows_zero (X Y W : Nat) : ∀ n, (∀ i, i < n → inkN p w X (Y + i) W 1 = 0) → inkN p w X Y W n = 0
  | 0, _ => inkN_h0 p w X Y W
  | n + 1, h => by rw [inkN_splitV, rows_zero X Y W n fun i hi => h i (by omega), h n (by omega)]

/-! ### As small as the ink permits -/
def trimL : Nat → Nb → Nb
  | 0, b => b
  | n + 1, b => if colN p w b b.x = 0 then trimL n ⟨b.x + 1, b.y, b.w - 1, b.h⟩ else b
def trimR : Nat → Nb → Nb
  | 0, b => b
  | n + 1, b => if colN p w b (b.x + b.w - 1) = 0 then trimR n ⟨b.x, b.y, b.w - 1, b.h⟩ else b
def trimT : Nat → Nb → Nb
  | 0, b => b
  | n + 1, b => if rowN p w b b.y = 0 then trimT n ⟨b.x, b.y + 1, b.w, b.h - 1⟩ else b
def trimB : Nat → Nb → Nb
  | 0, b => b
  | n + 1, b => if rowN p w b (b.y + b.h - 1) = 0 then trimB n ⟨b.x, b.y, b.w, b.h - 1⟩ else b
theorem trimL_step {b : Nb} (h0 : 0 < b.w) (h : colN p w b b.x = 0) : inkB p w ⟨b.x + 1, b.y, b.w - 1, b.h⟩ = inkB p w b := by
  obtain ⟨x, y, W, H⟩ := b
  simp only [inkB, colN] at *
  obtain ⟨W, rfl⟩ : ∃ n, W = 1 + n := ⟨W - 1, by omega⟩
  rw [inkN_split, h, Nat.add_sub_cancel_left, Nat.zero_add]
theorem trimR_step {b : Nb} (h0 : 0 < b.w) (h : colN p w b (b.x + b.w - 1) = 0) : inkB p w ⟨b.x, b.y, b.w - 1, b.h⟩ = inkB p w b := by
  obtain ⟨x, y, W, H⟩ := b
  simp only [inkB, colN] at *
  obtain ⟨W, rfl⟩ : ∃ n, W = n + 1 := ⟨W - 1, by omega⟩
  rw [show x + (W + 1) - 1 = x + W by omega] at h
  rw [inkN_split, h, Nat.add_sub_cancel, Nat.add_zero]
theorem trimT_step {b : Nb} (h0 : 0 < b.h) (h : rowN p w b b.y = 0) : inkB p w ⟨b.x, b.y + 1, b.w, b.h - 1⟩ = inkB p w b := by
  obtain ⟨x, y, W, H⟩ := b
  simp only [inkB, rowN] at *
  obtain ⟨H, rfl⟩ : ∃ n, H = 1 + n := ⟨H - 1, by omega⟩
  rw [inkN_splitV, h, Nat.add_sub_cancel_left, Nat.zero_add]
theorem trimB_step {b : Nb} (h0 : 0 < b.h) (h : rowN p w b (b.y + b.h - 1) = 0) : inkB p w ⟨b.x, b.y, b.w, b.h - 1⟩ = inkB p w b := by
  obtain ⟨x, y, W, H⟩ := b
  simp only [inkB, rowN] at *
  obtain ⟨H, rfl⟩ : ∃ n, H = n + 1 := ⟨H - 1, by omega⟩
  rw [show y + (H + 1) - 1 = y + H by omega] at h
  rw [inkN_splitV, h, Nat.add_sub_cancel, Nat.add_zero]
theorem ink_w {b : Nb} (h : 0 < inkB p w b) : 0 < b.w := by
  refine Nat.pos_of_ne_zero fun e => ?_
  unfold inkB at h; rw [e, inkN_w0] at h; omega
theorem ink_h {b : Nb} (h : 0 < inkB p w b) : 0 < b.h := by
  refine Nat.pos_of_ne_zero fun e => ?_
  unfold inkB at h; rw [e, inkN_h0] at h; omega
/-- A part of a box with the same ink. -/
def PartOf (a b : Nb) : Prop := b.x ≤ a.x ∧ a.x + a.w ≤ b.x + b.w ∧ b.y ≤ a.y ∧ a.y + a.h ≤ b.y + b.h
theorem PartOf.refl (b : Nb) : PartOf b b := by unfold PartOf; omega
theorem PartOf.trans {a b c : Nb} (h : PartOf a b) (h' : PartOf b c) : PartOf a c := by unfold PartOf at *; omega
theorem trimL_part : ∀ (n : Nat) (b : Nb), 0 < inkB p w b → PartOf (trimL p w n b) b ∧ inkB p w (trimL p w n b) = inkB p w b ∧ (trimL p w n b).h = b.h ∧ (trimL p w n b).y = b.y
  | 0, b, h => ⟨PartOf.refl b, rfl, rfl, rfl⟩
  | n + 1, b, h => by
    have h0 := ink_w p w h
    unfold trimL
    split
    · rename_i hc
      have hs := trimL_step p w h0 hc
      obtain ⟨a1, a2, a3, a4⟩ := trimL_part n ⟨b.x + 1, b.y, b.w - 1, b.h⟩ (by omega)
      refine ⟨a1.trans (by unfold PartOf; dsimp only; omega), by omega, a3, a4⟩
    · exact ⟨PartOf.refl b, rfl, rfl, rfl⟩
theorem trimR_part : ∀ (n : Nat) (b : Nb), 0 < inkB p w b → PartOf (trimR p w n b) b ∧ inkB p w (trimR p w n b) = inkB p w b ∧ (trimR p w n b).h = b.h ∧ (trimR p w n b).y = b.y ∧ (trimR p w n b).x = b.x
  | 0, b, h => ⟨PartOf.refl b, rfl, rfl, rfl, rfl⟩
  | n + 1, b, h => by
    have h0 := ink_w p w h
    unfold trimR
    split
    · rename_i hc
      have hs := trimR_step p w h0 hc
      obtain ⟨a1, a2, a3, a4, a5⟩ := trimR_part n ⟨b.x, b.y, b.w - 1, b.h⟩ (by omega)
      refine ⟨a1.trans (by unfold PartOf; dsimp only; omega), by omega, a3, a4, a5⟩
    · exact ⟨PartOf.refl b, rfl, rfl, rfl, rfl⟩
theorem trimT_part : ∀ (n : Nat) (b : Nb), 0 < inkB p w b → PartOf (trimT p w n b) b ∧ inkB p w (trimT p w n b) = inkB p w b
  | 0, b, h => ⟨PartOf.refl b, rfl⟩
  | n + 1, b, h => by
    have h0 := ink_h p w h
    unfold trimT
    split
    · rename_i hc
      have hs := trimT_step p w h0 hc
      obtain ⟨a1, a2⟩ := trimT_part n ⟨b.x, b.y + 1, b.w, b.h - 1⟩ (by omega)
      refine ⟨a1.trans (by unfold PartOf; dsimp only; omega), by omega⟩
    · exact ⟨PartOf.refl b, rfl⟩
theorem trimB_part : ∀ (n : Nat) (b : Nb), 0 < inkB p w b → PartOf (trimB p w n b) b ∧ inkB p w (trimB p w n b) = inkB p w b
  | 0, b, h => ⟨PartOf.refl b, rfl⟩
  | n + 1, b, h => by
    have h0 := ink_h p w h
    unfold trimB
    split
    · rename_i hc
      have hs := trimB_step p w h0 hc
      obtain ⟨a1, a2⟩ := trimB_part n ⟨b.x, b.y, b.w, b.h - 1⟩ (by omega)
      refine ⟨a1.trans (by unfold PartOf; dsimp only; omega), by omega⟩
    · exact ⟨PartOf.refl b, rfl⟩
def tightB (b : Nb) : Nb :=
  let a := trimL p w b.w b
  let c := trimR p w a.w a
  let d := trimT p w c.h c
  trimB p w d.h d
theorem tightB_part {b : Nb} (h : 0 < inkB p w b) : PartOf (tightB p w b) b ∧ inkB p w (tightB p w b) = inkB p w b := by
  unfold tightB
  dsimp only
  obtain ⟨a1, a2, _⟩ := trimL_part p w b.w b h
  obtain ⟨c1, c2, _⟩ := trimR_part p w (trimL p w b.w b).w (trimL p w b.w b) (by omega)
  generalize trimR p w (trimL p w b.w b).w (trimL p w b.w b) = c at *
  obtain ⟨d1, d2⟩ := trimT_part p w c.h c (by omega)
  generalize trimT p w c.h c = d at *
  obtain ⟨e1, e2⟩ := trimB_part p w d.h d (by omega)
  exact ⟨e1.trans (d1.trans (c1.trans a1)), by omega⟩
end

/-! ### Stretches -/
/-- The end of a stretch, 'n' steps looked at. -/
def runE (is : Nat → Bool) : Nat → Nat → Nat
  | 0, k => k
  | n + 1, k => if is k = true then runE is n (k + 1) else k
theorem runE_bd (is : Nat → Bool) : ∀ n k, k ≤ runE is n k ∧ runE is n k ≤ k + n
  | 0, k => by simp [runE]
  | n + 1, k => by
    have := runE_bd is n (k + 1)
    unfold runE; split <;> omega
theorem runE_in (is : Nat → Bool) : ∀ n k i, k ≤ i → i < runE is n k → is i = true
  | 0, k, i, h1, h2 => by simp [runE] at h2; omega
  | n + 1, k, i, h1, h2 => by
    unfold runE at h2
    split at h2
    · rename_i hk
      by_cases e : i = k
      · rw [e]; exact hk
      · exact runE_in is n (k + 1) i (by omega) h2
    · omega
/-- The stretches, 'n' steps to go from 'i' on. -/
def strs (is : Nat → Bool) : Nat → Nat → List (Nat × Nat)
  | 0, _ => []
  | n + 1, i => if is i = true then (i, runE is (n + 1) i - i) :: strs is (n - (runE is (n + 1) i - i)) (runE is (n + 1) i + 1) else strs is n (i + 1)
termination_by n => n
decreasing_by all_goals omega
def wide (least : Nat) (best s : Nat × Nat) : Nat × Nat := if least ≤ s.2 ∧ best.2 < s.2 then s else best
def widest (least : Nat) (l : List (Nat × Nat)) : Nat × Nat := l.foldl (wide least) (0, 0)
theorem strs_mem (is : Nat → Bool) : ∀ (n i : Nat) (s : Nat × Nat), s ∈ strs is n i → i ≤ s.1 ∧ s.1 + s.2 ≤ i + n ∧ 0 < s.2 ∧ ∀ j, s.1 ≤ j → j < s.1 + s.2 → is j = true
  | 0, i, s, h => by unfold strs at h; simp at h
  | n + 1, i, s, h => by
    unfold strs at h
    have hb := runE_bd is (n + 1) i
    have hin := runE_in is (n + 1) i
    split at h
    · rename_i hi
      have hp : i + 1 ≤ runE is (n + 1) i := by
        have : runE is (n + 1) i = runE is n (i + 1) := by rw [runE, if_pos hi]
        rw [this]; exact (runE_bd is n (i + 1)).1
      rcases List.mem_cons.1 h with rfl | h
      · dsimp only
        refine ⟨Nat.le_refl _, by omega, by omega, fun j h1 h2 => hin j h1 (by omega)⟩
      · obtain ⟨a1, a2, a3, a4⟩ := strs_mem is _ _ s h
        exact ⟨by omega, by omega, a3, a4⟩
    · obtain ⟨a1, a2, a3, a4⟩ := strs_mem is n (i + 1) s h
      exact ⟨by omega, by omega, a3, a4⟩
termination_by n => n
decreasing_by all_goals omega
theorem foldl_wide_mem (least : Nat) : ∀ (l : List (Nat × Nat)) (b : Nat × Nat), l.foldl (wide least) b = b ∨ l.foldl (wide least) b ∈ l
  | [], b => .inl rfl
  | s :: l, b => by
    rw [List.foldl_cons]
    rcases foldl_wide_mem least l (wide least b s) with h | h
    · rw [h]; unfold wide; split
      · exact .inr (.head _)
      · exact .inl rfl
    · exact .inr (.tail _ h)
theorem widest_mem {least : Nat} {l : List (Nat × Nat)} (h : (widest least l).2 ≠ 0) : widest least l ∈ l := by
  rcases foldl_wide_mem least l (0, 0) with e | e
  · exfalso; apply h; unfold widest; rw [e]
  · exact e
end Go.Fv.U

/-! Cutting: the blocks do not overlap and have all ink. -/
namespace Go.Fv.U
open Go
set_option linter.unusedSimpArgs false
set_option linter.unusedVariables false
section
variable (p : List Bool) (w : Nat)
def colE (b : Nb) (i : Nat) : Bool := decide (colN p w b i = 0)
def rowE (b : Nb) (j : Nat) : Bool := decide (rowN p w b j = 0)
def cutC (t : Nb) (gx : Nat) : Nat × Nat := widest gx (strs (colE p w t) t.w t.x)
def cutR (t : Nb) (gy : Nat) : Nat × Nat := widest gy (strs (rowE p w t) t.h t.y)
/-- Whether a box is cut at columns. -/
def atCols (c r : Nat × Nat) (gx gy : Nat) : Prop := 0 < c.2 ∧ (r.2 = 0 ∨ r.2 * gx < c.2 * gy)
instance (c r : Nat × Nat) (gx gy : Nat) : Decidable (atCols c r gx gy) := inferInstanceAs (Decidable (_ ∧ _))
def firstC (t : Nb) (c : Nat × Nat) : Nb := ⟨t.x, t.y, c.1 - t.x, t.h⟩
def secondC (t : Nb) (c : Nat × Nat) : Nb := ⟨c.1 + c.2, t.y, t.x + t.w - (c.1 + c.2), t.h⟩
def firstR (t : Nb) (r : Nat × Nat) : Nb := ⟨t.x, t.y, t.w, r.1 - t.y⟩
def secondR (t : Nb) (r : Nat × Nat) : Nb := ⟨t.x, r.1 + r.2, t.w, t.y + t.h - (r.1 + r.2)⟩
def cutL (gx gy : Nat) : Nat → Nb → List Nb
  | 0, _ => []
  | n + 1, b =>
    if inkB p w b = 0 then []
    else if (cutC p w (tightB p w b) gx).2 = 0 ∧ (cutR p w (tightB p w b) gy).2 = 0 then [tightB p w b]
    else if atCols (cutC p w (tightB p w b) gx) (cutR p w (tightB p w b) gy) gx gy then
      cutL gx gy n (firstC (tightB p w b) (cutC p w (tightB p w b) gx)) ++ cutL gx gy n (secondC (tightB p w b) (cutC p w (tightB p w b) gx))
    else cutL gx gy n (firstR (tightB p w b) (cutR p w (tightB p w b) gy)) ++ cutL gx gy n (secondR (tightB p w b) (cutR p w (tightB p w b) gy))
/-- Two boxes without a common pixel. -/
def Apart (a b : Nb) : Prop := a.x + a.w ≤ b.x ∨ b.x + b.w ≤ a.x ∨ a.y + a.h ≤ b.y ∨ b.y + b.h ≤ a.y
theorem cutC_spec {t : Nb} {gx : Nat} (h : (cutC p w t gx).2 ≠ 0) : t.x ≤ (cutC p w t gx).1 ∧ (cutC p w t gx).1 + (cutC p w t gx).2 ≤ t.x + t.w ∧ inkN p w (cutC p w t gx).1 t.y (cutC p w t gx).2 t.h = 0 := by
  obtain ⟨a1, a2, a3, a4⟩ := strs_mem _ _ _ _ (widest_mem h)
  refine ⟨a1, a2, cols_zero p w _ _ _ _ fun i hi => ?_⟩
  have := a4 ((cutC p w t gx).1 + i) (by unfold cutC; omega) (by unfold cutC at *; omega)
  unfold colE colN at this
  exact of_decide_eq_true this
theorem cutR_spec {t : Nb} {gy : Nat} (h : (cutR p w t gy).2 ≠ 0) : t.y ≤ (cutR p w t gy).1 ∧ (cutR p w t gy).1 + (cutR p w t gy).2 ≤ t.y + t.h ∧ inkN p w t.x (cutR p w t gy).1 t.w (cutR p w t gy).2 = 0 := by
  obtain ⟨a1, a2, a3, a4⟩ := strs_mem _ _ _ _ (widest_mem h)
  refine ⟨a1, a2, rows_zero p w _ _ _ _ fun i hi => ?_⟩
  have := a4 ((cutR p w t gy).1 + i) (by unfold cutR; omega) (by unfold cutR at *; omega)
  unfold rowE rowN at this
  exact of_decide_eq_true this
theorem inkC {t : Nb} {c : Nat × Nat} (h1 : t.x ≤ c.1) (h2 : c.1 + c.2 ≤ t.x + t.w) (h3 : inkN p w c.1 t.y c.2 t.h = 0) : inkB p w (firstC t c) + inkB p w (secondC t c) = inkB p w t := by
  obtain ⟨x, y, W, H⟩ := t
  obtain ⟨f, m⟩ := c
  simp only [inkB, firstC, secondC] at *
  have e : W = (f - x) + (m + (x + W - (f + m))) := by omega
  rw [show inkN p w x y W H = inkN p w x y ((f - x) + (m + (x + W - (f + m)))) H from congrArg (fun z => inkN p w x y z H) e]
  rw [inkN_split, inkN_split, show x + (f - x) = f by omega, h3]
  omega
theorem inkR {t : Nb} {c : Nat × Nat} (h1 : t.y ≤ c.1) (h2 : c.1 + c.2 ≤ t.y + t.h) (h3 : inkN p w t.x c.1 t.w c.2 = 0) : inkB p w (firstR t c) + inkB p w (secondR t c) = inkB p w t := by
  obtain ⟨x, y, W, H⟩ := t
  obtain ⟨f, m⟩ := c
  simp only [inkB, firstR, secondR] at *
  have e : H = (f - y) + (m + (y + H - (f + m))) := by omega
  rw [show inkN p w x y W H = inkN p w x y W ((f - y) + (m + (y + H - (f + m)))) from congrArg (fun z => inkN p w x y W z) e]
  rw [inkN_splitV, inkN_splitV, show y + (f - y) = f by omega, h3]
  omega
/-- What a list of blocks of a box is to be. -/
structure Cuts (b : Nb) (l : List Nb) : Prop where
  part : ∀ x, x ∈ l → PartOf x b
  ink : ∀ x, x ∈ l → 0 < inkB p w x
  sum : (l.map (inkB p w)).sum = inkB p w b
  apart : l.Pairwise Apart
theorem Cuts.join {b c d : Nb} {l l' : List Nb} (h : Cuts p w b l) (h' : Cuts p w c l') (hb : PartOf b d) (hc : PartOf c d) (hs : inkB p w b + inkB p w c = inkB p w d) (ha : Apart b c) : Cuts p w d (l ++ l') where
  part := fun x hx => (List.mem_append.1 hx).elim (fun h1 => (h.part x h1).trans hb) fun h1 => (h'.part x h1).trans hc
  ink := fun x hx => (List.mem_append.1 hx).elim (h.ink x) (h'.ink x)
  sum := by rw [List.map_append, List.sum_append, h.sum, h'.sum, hs]
  apart := by
    refine List.pairwise_append.2 ⟨h.apart, h'.apart, fun x hx y hy => ?_⟩
    have h1 := h.part x hx
    have h2 := h'.part y hy
    unfold PartOf Apart at *
    omega
theorem Cuts.of {b t : Nb} {l : List Nb} (h : Cuts p w t l) (hp : PartOf t b) (hi : inkB p w t = inkB p w b) : Cuts p w b l where
  part := fun x hx => (h.part x hx).trans hp
  ink := h.ink
  sum := h.sum.trans hi
  apart := h.apart
theorem cutL_spec (gx gy : Nat) : ∀ (n : Nat) (b : Nb), b.w + b.h < n → Cuts p w b (cutL p w gx gy n b)
  | n + 1, b, hn => by
    unfold cutL
    split
    · rename_i h0
      exact ⟨fun x hx => absurd hx (by simp), fun x hx => absurd hx (by simp), h0.symm, List.Pairwise.nil⟩
    · rename_i h0
      obtain ⟨hp, hi⟩ := tightB_part p w (b := b) (by omega)
      have hpp := hp
      generalize tightB p w b = t at *
      unfold PartOf at hpp
      refine Cuts.of p w ?_ hp hi
      split
      · exact ⟨fun x hx => by rw [List.mem_singleton.1 hx]; exact PartOf.refl t, fun x hx => by rw [List.mem_singleton.1 hx]; omega, by simp, List.pairwise_singleton _ _⟩
      · rename_i hne
        split
        · rename_i hat
          have hc : (cutC p w t gx).2 ≠ 0 := by unfold atCols at hat; omega
          obtain ⟨c1, c2, c3⟩ := cutC_spec p w hc
          generalize cutC p w t gx = c at *
          refine Cuts.join p w (cutL_spec gx gy n _ (by dsimp only [firstC]; omega)) (cutL_spec gx gy n _ (by dsimp only [secondC]; omega)) ?_ ?_ (inkC p w c1 c2 c3) ?_
          · unfold PartOf firstC; dsimp only; omega
          · unfold PartOf secondC; dsimp only; omega
          · unfold Apart firstC secondC; dsimp only; omega
        · rename_i hat
          have hc : (cutR p w t gy).2 ≠ 0 := by unfold atCols at hat; omega
          obtain ⟨c1, c2, c3⟩ := cutR_spec p w hc
          generalize cutR p w t gy = c at *
          refine Cuts.join p w (cutL_spec gx gy n _ (by dsimp only [firstR]; omega)) (cutL_spec gx gy n _ (by dsimp only [secondR]; omega)) ?_ ?_ (inkR p w c1 c2 c3) ?_
          · unfold PartOf firstR; dsimp only; omega
          · unfold PartOf secondR; dsimp only; omega
          · unfold Apart firstR secondR; dsimp only; omega
theorem Cuts.len {b : Nb} {l : List Nb} (h : Cuts p w b l) : l.length ≤ inkB p w b := by
  rw [← h.sum]
  have := h.ink
  clear h
  induction l with
  | nil => simp
  | cons x l ih =>
    have h1 := this x (.head _)
    have h2 := ih fun y hy => this y (.tail _ hy)
    simp only [List.length_cons, List.map_cons, List.sum_cons]
    omega
end
end Go.Fv.U

/-! The reference's ways to cut a box: plain law. -/
namespace Go.Fv.U
open Go
set_option linter.unusedSimpArgs false
set_option linter.unusedVariables false
section
variable (p : List Bool) (w : Nat)
end
theorem runE_stop (is : Nat → Bool) : ∀ n k, runE is n k < k + n → is (runE is n k) = false
  | 0, k, h => by simp [runE] at h
  | n + 1, k, h => by
    unfold runE at h ⊢
    split
    · rename_i hk
      rw [if_pos hk] at h
      exact runE_stop is n (k + 1) (by omega)
    · rename_i hk
      simpa using hk
theorem runE_shift (is : Nat → Bool) (x : Nat) : ∀ n k, runE is n (x + k) = x + runE (fun j => is (x + j)) n k
  | 0, k => rfl
  | n + 1, k => by
    unfold runE
    by_cases h : is (x + k) = true
    · rw [if_pos h, if_pos h, Nat.add_assoc, runE_shift is x n (k + 1)]
    · rw [if_neg h, if_neg h]
theorem strs_shift (is : Nat → Bool) (x : Nat) : ∀ n i, strs is n (x + i) = (strs (fun j => is (x + j)) n i).map fun s => (x + s.1, s.2)
  | 0, i => by unfold strs; rfl
  | n + 1, i => by
    unfold strs
    by_cases h : is (x + i) = true
    · rw [if_pos h, if_pos h, List.map_cons, runE_shift]
      have hb := runE_bd (fun j => is (x + j)) (n + 1) i
      rw [show x + runE (fun j => is (x + j)) (n + 1) i - (x + i) = runE (fun j => is (x + j)) (n + 1) i - i by omega]
      rw [show x + runE (fun j => is (x + j)) (n + 1) i + 1 = x + (runE (fun j => is (x + j)) (n + 1) i + 1) by omega, strs_shift is x _ _]
    · rw [if_neg h, if_neg h, Nat.add_assoc, strs_shift is x n (i + 1)]
termination_by n => n
decreasing_by all_goals omega
end Go.Fv.U

/-! Lines and words: stretches that are joined; plain law. -/
namespace Go.Fv.U
open Go
set_option linter.unusedSimpArgs false
set_option linter.unusedVariables false

/-- Stretches told by their first place and the place behind their last. -/
def toE (s : Nat × Nat) : Nat × Nat := (s.1, s.1 + s.2)
def jnE (gap : Nat) (out : List (Nat × Nat)) (s : Nat × Nat) : List (Nat × Nat) := match out.getLast? with
  | some t => if s.1 < t.2 + gap then out.dropLast ++ [(t.1, s.1 + s.2)] else out ++ [toE s]
  | none => [toE s]
theorem jnE_nil (gap : Nat) (s : Nat × Nat) : jnE gap [] s = [toE s] := rfl
theorem jnE_snoc (gap : Nat) (o : List (Nat × Nat)) (t s : Nat × Nat) : jnE gap (o ++ [t]) s = if s.1 < t.2 + gap then o ++ [(t.1, s.1 + s.2)] else o ++ [t] ++ [toE s] := by
  unfold jnE; simp
/-- The reference's way, place by place. -/
def rfGo (is : Nat → Bool) (gap : Nat) : Nat → Nat → List (Nat × Nat) → List (Nat × Nat)
  | 0, _, out => out
  | k + 1, i, out => if is i = true then rfGo is gap k (i + 1) (jnE gap out (i, 1)) else rfGo is gap k (i + 1) out
theorem rfGo_run (is : Nat → Bool) (gap : Nat) (hg : 1 ≤ gap) (a : Nat) (o : List (Nat × Nat)) : ∀ k i, rfGo is gap k i (o ++ [(a, i)]) = rfGo is gap (k - (runE is k i - i)) (runE is k i) (o ++ [(a, runE is k i)])
  | 0, i => by simp [runE, rfGo]
  | k + 1, i => by
    by_cases h : is i = true
    · have hb := (runE_bd is k (i + 1)).1
      have e : runE is (k + 1) i = runE is k (i + 1) := by rw [runE, if_pos h]
      rw [e, rfGo, if_pos h, jnE_snoc, if_pos (by dsimp only; omega)]
      rw [show (((a, i) : Nat × Nat).1, ((i, 1) : Nat × Nat).1 + ((i, 1) : Nat × Nat).2) = (a, i + 1) from rfl, rfGo_run is gap hg a o k (i + 1)]
      congr 1; omega
    · have e : runE is (k + 1) i = i := by rw [runE, if_neg h]
      rw [e, Nat.sub_self, Nat.sub_zero]
theorem rfGo_strs (is : Nat → Bool) (gap : Nat) (hg : 1 ≤ gap) : ∀ (k i : Nat) (out : List (Nat × Nat)), rfGo is gap k i out = (strs is k i).foldl (jnE gap) out
  | 0, i, out => by unfold strs; rfl
  | k + 1, i, out => by
    by_cases h : is i = true
    · have e : runE is (k + 1) i = runE is k (i + 1) := by rw [runE, if_pos h]
      have hb := runE_bd is k (i + 1)
      have hst : strs is (k + 1) i = (i, runE is (k + 1) i - i) :: strs is (k - (runE is (k + 1) i - i)) (runE is (k + 1) i + 1) := by rw [strs, if_pos h]
      rw [hst, List.foldl_cons, rfGo, if_pos h]
      have step : ∃ o a, jnE gap out (i, 1) = o ++ [(a, i + 1)] ∧ jnE gap out (i, runE is (k + 1) i - i) = o ++ [(a, runE is (k + 1) i)] := by
        rcases List.eq_nil_or_concat out with rfl | ⟨o, t, rfl⟩
        · refine ⟨[], i, rfl, ?_⟩
          rw [jnE_nil]; unfold toE; dsimp only
          rw [show i + (runE is (k + 1) i - i) = runE is (k + 1) i by omega]; rfl
        · rw [List.concat_eq_append, jnE_snoc, jnE_snoc]
          dsimp only
          by_cases hc : i < t.2 + gap
          · rw [if_pos hc, if_pos hc]
            exact ⟨o, t.1, rfl, by rw [show i + (runE is (k + 1) i - i) = runE is (k + 1) i by omega]⟩
          · rw [if_neg hc, if_neg hc]
            exact ⟨o ++ [t], i, rfl, by unfold toE; dsimp only; rw [show i + (runE is (k + 1) i - i) = runE is (k + 1) i by omega]⟩
      obtain ⟨o, a, s1, s2⟩ := step
      rw [s1, s2, rfGo_run is gap hg a o k (i + 1), ← e]
      by_cases hend : runE is (k + 1) i < i + 1 + k
      · have hs := runE_stop is k (i + 1) (by rw [← e]; omega)
        rw [← e] at hs
        obtain ⟨m, hm⟩ : ∃ m, k - (runE is (k + 1) i - (i + 1)) = m + 1 := ⟨k - (runE is (k + 1) i - (i + 1)) - 1, by omega⟩
        rw [hm, rfGo, if_neg (by rw [hs]; decide), show k - (runE is (k + 1) i - i) = m by omega]
        exact rfGo_strs is gap hg m (runE is (k + 1) i + 1) _
      · rw [show k - (runE is (k + 1) i - (i + 1)) = 0 by omega, show k - (runE is (k + 1) i - i) = 0 by omega]
        unfold strs; rfl
    · have hst : strs is (k + 1) i = strs is k (i + 1) := by rw [strs, if_neg h]
      rw [hst, rfGo, if_neg h]
      exact rfGo_strs is gap hg k (i + 1) out
termination_by k => k
decreasing_by all_goals omega
def shE (x : Nat) (s : Nat × Nat) : Nat × Nat := (x + s.1, x + s.2)
theorem jnE_shift (gap x : Nat) (out : List (Nat × Nat)) (s : Nat × Nat) : jnE gap (out.map (shE x)) (x + s.1, s.2) = (jnE gap out s).map (shE x) := by
  rcases List.eq_nil_or_concat out with rfl | ⟨o, t, rfl⟩
  · show [toE (x + s.1, s.2)] = [shE x (toE s)]
    unfold toE shE; dsimp only; rw [Nat.add_assoc]
  · rw [List.concat_eq_append, List.map_append, List.map_cons, List.map_nil, jnE_snoc, jnE_snoc]
    by_cases hc : s.1 < t.2 + gap
    · rw [if_pos hc, if_pos (by unfold shE; dsimp only; omega), List.map_append]
      unfold shE; dsimp only [List.map_cons, List.map_nil]; rw [Nat.add_assoc]; rfl
    · rw [if_neg hc, if_neg (by unfold shE; dsimp only; omega), List.map_append, List.map_append]
      unfold shE toE; dsimp only [List.map_cons, List.map_nil]; rw [Nat.add_assoc]; rfl
theorem foldl_jnE_shift (gap x : Nat) : ∀ (l out : List (Nat × Nat)), (l.map fun s => (x + s.1, s.2)).foldl (jnE gap) (out.map (shE x)) = (l.foldl (jnE gap) out).map (shE x)
  | [], out => rfl
  | s :: l, out => by rw [List.map_cons, List.foldl_cons, List.foldl_cons, jnE_shift, foldl_jnE_shift gap x l]
/-- Lines of places: those of the program are those of the reference. -/
theorem joined_ref (is : Nat → Bool) (gap n x : Nat) (hg : 1 ≤ gap) : (strs is n x).foldl (jnE gap) [] = (rfGo (fun j => is (x + j)) gap n 0 []).map (shE x) := by
  have h := strs_shift is x n 0
  rw [Nat.add_zero] at h
  rw [h, rfGo_strs _ gap hg]
  exact foldl_jnE_shift gap x _ []
structure StOk (is : Nat → Bool) (n : Nat) (t : Nat × Nat) : Prop where
  lt : t.1 < t.2
  le : t.2 ≤ n
  at1 : is t.1 = true
theorem rfGo_ok (is : Nat → Bool) (gap : Nat) : ∀ (k i : Nat) (out : List (Nat × Nat)), (∀ t, t ∈ out → StOk is i t) → ∀ t, t ∈ rfGo is gap k i out → StOk is (i + k) t
  | 0, i, out, h, t, ht => h t ht
  | k + 1, i, out, h, t, ht => by
    have up : ∀ t, StOk is i t → StOk is (i + 1) t := fun t h => ⟨h.lt, by have := h.le; omega, h.at1⟩
    unfold rfGo at ht
    rw [show i + (k + 1) = i + 1 + k by omega]
    split at ht
    · rename_i hi
      refine rfGo_ok is gap k (i + 1) _ ?_ t ht
      rcases List.eq_nil_or_concat out with rfl | ⟨o, u, rfl⟩
      · intro t ht
        rw [jnE_nil, List.mem_singleton] at ht
        subst ht
        exact ⟨by show i < i + 1; omega, Nat.le_refl _, hi⟩
      · rw [List.concat_eq_append] at h ⊢
        have hu := h u (by simp)
        intro t ht
        rw [jnE_snoc] at ht
        split at ht
        · rcases List.mem_append.1 ht with ht | ht
          · exact up t (h t (by simp [ht]))
          · rw [List.mem_singleton] at ht
            subst ht
            exact ⟨by show u.1 < i + 1; have := hu.lt; have := hu.le; omega, Nat.le_refl _, hu.at1⟩
        · rcases List.mem_append.1 ht with ht | ht
          · exact up t (h t ht)
          · rw [List.mem_singleton] at ht
            subst ht
            exact ⟨by show i < i + 1; omega, Nat.le_refl _, hi⟩
    · exact rfGo_ok is gap k (i + 1) out (fun t ht => up t (h t ht)) t ht
theorem rfGo_len (is : Nat → Bool) (gap : Nat) : ∀ (k i : Nat) (out : List (Nat × Nat)), (rfGo is gap k i out).length ≤ out.length + k
  | 0, i, out => Nat.le_refl _
  | k + 1, i, out => by
    unfold rfGo
    split
    · have h := rfGo_len is gap k (i + 1) (jnE gap out (i, 1))
      have h2 : (jnE gap out (i, 1)).length ≤ out.length + 1 := by
        rcases List.eq_nil_or_concat out with rfl | ⟨o, u, rfl⟩
        · rw [jnE_nil]; simp
        · rw [List.concat_eq_append, jnE_snoc]; split <;> simp
      omega
    · have h := rfGo_len is gap k (i + 1) out
      omega
end Go.Fv.U

/-! Lines and words of a box: they do not overlap, and have all its ink. Plain law. -/
namespace Go.Fv.U
open Go
set_option linter.unusedSimpArgs false
set_option linter.unusedVariables false

structure Cov (F : Nat → Nat → Nat) (i : Nat) (out : List (Nat × Nat)) : Prop where
  sum : (out.map fun t => F t.1 t.2).sum = F 0 i
  apart : out.Pairwise fun s t => s.2 ≤ t.1
  bd : ∀ t, t ∈ out → t.1 < t.2 ∧ t.2 ≤ i
  last : ∀ o t, out = o ++ [t] → F t.2 i = 0
theorem Cov.step {F : Nat → Nat → Nat} (hF : ∀ a b c, a ≤ b → b ≤ c → F a b + F b c = F a c) {i : Nat} {out : List (Nat × Nat)} (h : Cov F i out) (hz : F i (i + 1) = 0) : Cov F (i + 1) out where
  sum := by rw [h.sum, ← hF 0 i (i + 1) (Nat.zero_le _) (Nat.le_succ _), hz, Nat.add_zero]
  apart := h.apart
  bd := fun t ht => ⟨(h.bd t ht).1, by have := (h.bd t ht).2; omega⟩
  last := fun o t e => by
    have hb := h.bd t (by rw [e]; simp)
    rw [← hF t.2 i (i + 1) hb.2 (Nat.le_succ _), h.last o t e, hz]
theorem Cov.add {F : Nat → Nat → Nat} (hF : ∀ a b c, a ≤ b → b ≤ c → F a b + F b c = F a c) {i : Nat} {out : List (Nat × Nat)} (h : Cov F i out) : Cov F (i + 1) (out ++ [(i, i + 1)]) where
  sum := by rw [List.map_append, List.sum_append, h.sum]; simp [hF 0 i (i + 1) (Nat.zero_le _) (Nat.le_succ _)]
  apart := List.pairwise_append.2 ⟨h.apart, List.pairwise_singleton _ _, fun s hs t ht => by rw [List.mem_singleton.1 ht]; exact (h.bd s hs).2⟩
  bd := fun t ht => by
    rcases List.mem_append.1 ht with ht | ht
    · have := h.bd t ht; omega
    · rw [List.mem_singleton.1 ht]; dsimp only; omega
  last := fun o t e => by
    have e2 := (List.append_inj' e rfl).2
    simp at e2
    rw [← e2]
    have := hF (i + 1) (i + 1) (i + 1) (Nat.le_refl _) (Nat.le_refl _)
    dsimp only; omega
theorem Cov.grow {F : Nat → Nat → Nat} (hF : ∀ a b c, a ≤ b → b ≤ c → F a b + F b c = F a c) {i : Nat} {o : List (Nat × Nat)} {t : Nat × Nat} (h : Cov F i (o ++ [t])) : Cov F (i + 1) (o ++ [(t.1, i + 1)]) where
  sum := by
    have h1 := h.sum
    have h2 := h.last o t rfl
    have hb := h.bd t (by simp)
    rw [List.map_append, List.sum_append] at h1 ⊢
    simp only [List.map_cons, List.map_nil, List.sum_cons, List.sum_nil, Nat.add_zero] at h1 ⊢
    have e1 := hF t.1 t.2 i (by omega) hb.2
    have e2 := hF t.1 i (i + 1) (by omega) (Nat.le_succ _)
    have e3 := hF 0 i (i + 1) (Nat.zero_le _) (Nat.le_succ _)
    omega
  apart := by
    have h1 := List.pairwise_append.1 h.apart
    refine List.pairwise_append.2 ⟨h1.1, List.pairwise_singleton _ _, fun s hs u hu => ?_⟩
    rw [List.mem_singleton.1 hu]
    exact h1.2.2 s hs t (by simp)
  bd := fun s hs => by
    rcases List.mem_append.1 hs with hs | hs
    · have := h.bd s (by simp [hs]); omega
    · have := h.bd t (by simp)
      rw [List.mem_singleton.1 hs]; dsimp only; omega
  last := fun o' t' e => by
    have e2 := (List.append_inj' e rfl).2
    simp at e2
    rw [← e2]
    have := hF (i + 1) (i + 1) (i + 1) (Nat.le_refl _) (Nat.le_refl _)
    dsimp only; omega
theorem rfGo_cov {F : Nat → Nat → Nat} (hF : ∀ a b c, a ≤ b → b ≤ c → F a b + F b c = F a c) (is : Nat → Bool) (gap : Nat) : ∀ (k i : Nat) (out : List (Nat × Nat)), (∀ j, i ≤ j → j < i + k → is j = false → F j (j + 1) = 0) → Cov F i out → Cov F (i + k) (rfGo is gap k i out)
  | 0, i, out, _, h => h
  | k + 1, i, out, hz, h => by
    unfold rfGo
    rw [show i + (k + 1) = i + 1 + k by omega]
    split
    · refine rfGo_cov hF is gap k (i + 1) _ (fun j h1 h2 => hz j (by omega) (by omega)) ?_
      rcases List.eq_nil_or_concat out with rfl | ⟨o, t, rfl⟩
      · rw [jnE_nil]
        exact h.add hF
      · rw [List.concat_eq_append] at h ⊢
        rw [jnE_snoc]
        split
        · exact h.grow hF
        · exact h.add hF
    · rename_i hi
      exact rfGo_cov hF is gap k (i + 1) _ (fun j h1 h2 => hz j (by omega) (by omega)) (h.step hF (hz i (Nat.le_refl _) (by omega) (by simpa using hi)))
theorem rfGo_cov0 {F : Nat → Nat → Nat} (hF : ∀ a b c, a ≤ b → b ≤ c → F a b + F b c = F a c) (is : Nat → Bool) (gap n : Nat) (hz : ∀ j, j < n → is j = false → F j (j + 1) = 0) : Cov F n (rfGo is gap n 0 []) := by
  have h := rfGo_cov hF is gap n 0 [] (fun j _ h2 => hz j (by omega)) ⟨by have := hF 0 0 0 (Nat.le_refl _) (Nat.le_refl _); simp; omega, List.Pairwise.nil, fun t ht => by simp at ht, fun o t e => by simp at e⟩
  rwa [Nat.zero_add] at h
section
variable (p : List Bool) (w : Nat)
/-- A list of parts of a box, taken as small as the ink permits. -/
theorem Cuts.tight {b : Nb} {l : List Nb} (h : Cuts p w b l) : Cuts p w b (l.map (tightB p w)) where
  part := fun x hx => by
    obtain ⟨y, hy, rfl⟩ := List.mem_map.1 hx
    exact (tightB_part p w (h.ink y hy)).1.trans (h.part y hy)
  ink := fun x hx => by
    obtain ⟨y, hy, rfl⟩ := List.mem_map.1 hx
    rw [(tightB_part p w (h.ink y hy)).2]; exact h.ink y hy
  sum := by
    rw [List.map_map, ← h.sum]
    congr 1
    exact List.map_congr_left fun y hy => (tightB_part p w (h.ink y hy)).2
  apart := by
    refine List.pairwise_map.2 (h.apart.imp_of_mem fun {x y} hx hy hap => ?_)
    have h1 := (tightB_part p w (h.ink x hx)).1
    have h2 := (tightB_part p w (h.ink y hy)).1
    unfold PartOf Apart at *
    omega
/-- Parts of parts. -/
theorem Cuts.flat (f : Nb → List Nb) {b : Nb} : ∀ {l : List Nb}, Cuts p w b l → (∀ x, x ∈ l → Cuts p w x (f x)) → Cuts p w b (l.flatMap f) := by
  intro l h hf
  refine ⟨fun y hy => ?_, fun y hy => ?_, ?_, ?_⟩
  · obtain ⟨x, hx, hy⟩ := List.mem_flatMap.1 hy
    exact ((hf x hx).part y hy).trans (h.part x hx)
  · obtain ⟨x, hx, hy⟩ := List.mem_flatMap.1 hy
    exact (hf x hx).ink y hy
  · rw [← h.sum]
    clear h
    induction l with
    | nil => rfl
    | cons x l ih =>
      rw [List.flatMap_cons, List.map_append, List.sum_append, ih (fun y hy => hf y (.tail _ hy)), (hf x (.head _)).sum]
      simp
  · have ha := h.apart
    clear h
    induction l with
    | nil => exact List.Pairwise.nil
    | cons x l ih =>
      rw [List.flatMap_cons]
      obtain ⟨a1, a2⟩ := List.pairwise_cons.1 ha
      refine List.pairwise_append.2 ⟨(hf x (.head _)).apart, ih (fun y hy => hf y (.tail _ hy)) a2, fun s hs t ht => ?_⟩
      obtain ⟨y, hy, ht⟩ := List.mem_flatMap.1 ht
      have h1 := (hf x (.head _)).part s hs
      have h2 := (hf y (.tail _ hy)).part t ht
      have h3 := a1 y hy
      unfold PartOf Apart at *
      omega
end
end Go.Fv.U

/-! The ink of a page that is cut out. -/
namespace Go.Fv.U
open Go
set_option linter.unusedSimpArgs false
set_option linter.unusedVariables false

theorem boxL_cut (p : List Bool) (w X Y W H x y a : Nat) (hx : x + a ≤ W) : ∀ m, y + m ≤ H → boxL (inkV (rowsOf W (cutAt p w X Y) (H * W))) W y x a m = boxL (inkV p) w (Y + y) (X + x) a m
  | 0, _ => rfl
  | m + 1, h => by
    unfold boxL
    rw [boxL_cut p w X Y W H x y a hx m (by omega)]
    congr 1
    unfold segL
    refine List.map_congr_left fun i hi => ?_
    have hi' := List.mem_range.1 hi
    unfold inkV
    rw [rowsOf_get (by omega) (by omega)]
    unfold cutAt
    rw [show (Y + (y + m)) * w + X + (x + i) = (Y + y + m) * w + (X + x + i) by rw [Nat.add_assoc Y y m]; omega]
theorem ink_cut (p : List Bool) (w X Y W H : Nat) {x y a c : Nat} (hx : x + a ≤ W) (hy : y + c ≤ H) : inkN (rowsOf W (cutAt p w X Y) (H * W)) W x y a c = inkN p w (X + x) (Y + y) a c := by
  unfold inkN
  rw [boxL_cut p w X Y W H x y a hx c hy]
end Go.Fv.U

/-! Columns and rows of a box, and the box as small as its ink permits: the walk. -/
namespace Go.Fv.U
open Go Go.Proofs
set_option linter.unusedSimpArgs false
set_option linter.unusedVariables false
set_option linter.unnecessarySimpa false
set_option maxRecDepth 8000

/-- The sums of a page; a cutter. -/
def sumL (p : List Bool) (w h : Nat) : List AV := [.int .i64 w, .int .i64 h, .ro (.ints .i64 (sumsAt (inkV p) w ((w + 1) * (h + 1)) ((w + 1) * (h + 1))))]
def nbs (l : List Nb) : RowV := .objs 4 (l.map Nb.av)
instance : FNoId Nb.av := ⟨fun _ => rfl⟩
def ctr (p : List Bool) (w h gx gy : Nat) (o : AV) : List AV := [.int .i64 w, .int .i64 h, .ro (.bools p), .cell (sumL p w h), .int .i64 gx, .int .i64 gy, o]
/-- A box that lies in a page. -/
def InP (b : Nb) (w h : Nat) : Prop := b.x + b.w ≤ w ∧ b.y + b.h ≤ h
theorem InP.of {a b : Nb} {w h : Nat} (h1 : InP b w h) (h2 : PartOf a b) : InP a w h := by unfold InP PartOf at *; omega
theorem sumsIn_ok (p : List Bool) (w h : Nat) (hw : w ≤ 4000) (hh : h ≤ 4000) (X Y W H : Nat) (hX : X + W ≤ w) (hY : Y + H ≤ h) :
    FnOk Tryz.prog 173 [.cell (sumL p w h), .agg [.int .i64 X, .int .i64 Y, .int .i64 W, .int .i64 H]] (.int .i64 (inkN p w X Y W H)) [] := by
  have k := in_ok w h hw hh (inkV p) (inkV_bd p) X Y W H hX hY
  rw [inkN_rect] at k
  exact k
set_option maxHeartbeats 1000000 in
theorem column_ok (p : List Bool) (w h : Nat) (hw : w ≤ 4000) (hh : h ≤ 4000) (gx gy : Nat) (o : List Nb) (b : Nb) (i : Nat) (hi : i < w) (hb : InP b w h) :
    FnOk Tryz.prog 127 [.cell (ctr p w h gx gy (.ro (nbs o))), .agg b.av, .int .i64 i] (.bool (decide (0 < (colN p w b i : Int)))) [] := by
  have k : FnOk Tryz.prog 173 [.cell (sumL p w h), .agg [.int .i64 i, .int .i64 b.y, .int .i64 1, .int .i64 b.h]] (.int .i64 (colN p w b i)) [] := sumsIn_ok p w h hw hh i b.y 1 b.h (by omega) hb.2
  generalize colN p w b i = n at *
  obtain ⟨x, y, W, H⟩ := b
  unfold InP at hb
  dsimp only at *
  unfold ctr Nb.av
  generalize sumL p w h = sc at *
  refine FnOk.of_vc Tryz.func127 rfl (by decide) (by simp [Tryz.f127]) [.tmp 6] rfl fun w0 T0 _ => ?_
  simp only [Tryz.f127, argEnv]
  (repeat' first | with_reducible (first | intro _ | refine rc ?_ | refine rl ?_ | refine rh ?_ | refine rt ?_ | refine rf ?_ | refine rs ?_ | refine And.intro ?_ ?_) | omega | simp (maxSteps := 1000000) only [go_sem, simprocAttr, ↓reduceIte])
  refine VcDraw.lex [] [] (by kernel_rfl) (by kernel_rfl) ?_
  (repeat' first | with_reducible (first | intro _ | refine rc ?_ | refine rl ?_ | refine rh ?_ | refine rt ?_ | refine rf ?_ | refine rs ?_ | refine And.intro ?_ ?_) | omega | simp (maxSteps := 1000000) only [go_sem, simprocAttr, ↓reduceIte])
  refine QV.intro (.int .i64 n) ?_ ?_
  · (repeat' first | with_reducible (first | intro _ | refine rc ?_ | refine rl ?_ | refine rh ?_ | refine rt ?_ | refine rf ?_ | refine rs ?_ | refine And.intro ?_ ?_) | omega | simp (maxSteps := 1000000) only [go_sem, simprocAttr, ↓reduceIte])
    refine VcCall.k (k) ?_
    (repeat' first | with_reducible (first | intro _ | refine rc ?_ | refine rl ?_ | refine rh ?_ | refine rt ?_ | refine rf ?_ | refine rs ?_ | refine And.intro ?_ ?_) | omega | simp (maxSteps := 1000000) only [go_sem, simprocAttr, ↓reduceIte])
  (repeat' first | with_reducible (first | intro _ | refine rc ?_ | refine rl ?_ | refine rh ?_ | refine rt ?_ | refine rf ?_ | refine rs ?_ | refine And.intro ?_ ?_) | omega | simp (maxSteps := 1000000) only [go_sem, simprocAttr, ↓reduceIte])
  refine Ret.auto 0 ?_ rfl ?_ <;> simp only [go_sem, reduceCtorEq, reduceIte, Nat.reduceEqDiff, Nat.reduceLT, Nat.reduceLeDiff, Int.natCast_succ, Post]
set_option maxHeartbeats 1000000 in
theorem row_ok (p : List Bool) (w h : Nat) (hw : w ≤ 4000) (hh : h ≤ 4000) (gx gy : Nat) (o : List Nb) (b : Nb) (i : Nat) (hi : i < h) (hb : InP b w h) :
    FnOk Tryz.prog 124 [.cell (ctr p w h gx gy (.ro (nbs o))), .agg b.av, .int .i64 i] (.bool (decide (0 < (rowN p w b i : Int)))) [] := by
  have k : FnOk Tryz.prog 173 [.cell (sumL p w h), .agg [.int .i64 b.x, .int .i64 i, .int .i64 b.w, .int .i64 1]] (.int .i64 (rowN p w b i)) [] := sumsIn_ok p w h hw hh b.x i b.w 1 hb.1 (by omega)
  generalize rowN p w b i = n at *
  obtain ⟨x, y, W, H⟩ := b
  unfold InP at hb
  dsimp only at *
  unfold ctr Nb.av
  generalize sumL p w h = sc at *
  refine FnOk.of_vc Tryz.func124 rfl (by decide) (by simp [Tryz.f124]) [.tmp 6] rfl fun w0 T0 _ => ?_
  simp only [Tryz.f124, argEnv]
  (repeat' first | with_reducible (first | intro _ | refine rc ?_ | refine rl ?_ | refine rh ?_ | refine rt ?_ | refine rf ?_ | refine rs ?_ | refine And.intro ?_ ?_) | omega | simp (maxSteps := 1000000) only [go_sem, simprocAttr, ↓reduceIte])
  refine VcDraw.lex [] [] (by kernel_rfl) (by kernel_rfl) ?_
  (repeat' first | with_reducible (first | intro _ | refine rc ?_ | refine rl ?_ | refine rh ?_ | refine rt ?_ | refine rf ?_ | refine rs ?_ | refine And.intro ?_ ?_) | omega | simp (maxSteps := 1000000) only [go_sem, simprocAttr, ↓reduceIte])
  refine QV.intro (.int .i64 n) ?_ ?_
  · (repeat' first | with_reducible (first | intro _ | refine rc ?_ | refine rl ?_ | refine rh ?_ | refine rt ?_ | refine rf ?_ | refine rs ?_ | refine And.intro ?_ ?_) | omega | simp (maxSteps := 1000000) only [go_sem, simprocAttr, ↓reduceIte])
    refine VcCall.k (k) ?_
    (repeat' first | with_reducible (first | intro _ | refine rc ?_ | refine rl ?_ | refine rh ?_ | refine rt ?_ | refine rf ?_ | refine rs ?_ | refine And.intro ?_ ?_) | omega | simp (maxSteps := 1000000) only [go_sem, simprocAttr, ↓reduceIte])
  (repeat' first | with_reducible (first | intro _ | refine rc ?_ | refine rl ?_ | refine rh ?_ | refine rt ?_ | refine rf ?_ | refine rs ?_ | refine And.intro ?_ ?_) | omega | simp (maxSteps := 1000000) only [go_sem, simprocAttr, ↓reduceIte])
  refine Ret.auto 0 ?_ rfl ?_ <;> simp only [go_sem, reduceCtorEq, reduceIte, Nat.reduceEqDiff, Nat.reduceLT, Nat.reduceLeDiff, Int.natCast_succ, Post]
end Go.Fv.U

/-! Stretches: the walk. -/
namespace Go.Fv.U
open Go Go.Proofs
set_option linter.unusedSimpArgs false
set_option linter.unusedVariables false
set_option linter.unnecessarySimpa false
set_option maxRecDepth 8000

def stAv (s : Nat × Nat) : List AV := [.int .i64 s.1, .int .i64 s.2]
instance : FNoId stAv := ⟨fun _ => rfl⟩
def stR (l : List (Nat × Nat)) : RowV := .objs 2 (l.map stAv)
theorem st_elem (l : List (Nat × Nat)) {i : Nat} (h : i < l.length) : (l.map stAv).getD i [] = [.int .i64 (l.getD i (0, 0)).1, .int .i64 (l.getD i (0, 0)).2] := by
  rw [getD_lt (by simpa using h), getD_lt h, List.getElem_map]; rfl
theorem strs_len (is : Nat → Bool) : ∀ n i, (strs is n i).length ≤ n
  | 0, i => by unfold strs; simp
  | n + 1, i => by
    unfold strs
    split
    · have := strs_len is (n - (runE is (n + 1) i - i)) (runE is (n + 1) i + 1)
      simp only [List.length_cons]; omega
    · have := strs_len is n (i + 1)
      omega
termination_by n => n
decreasing_by all_goals omega
set_option maxHeartbeats 4000000 in
theorem stretches_ok (a z : Nat) (haz : a ≤ z) (hz : z ≤ 10000) (f : Nat) (caps : List AV) [CapsOk caps] (is : Nat → Bool) (hq : ∀ i : Nat, a ≤ i → i < z → FnFr Tryz.prog f ([.int .i64 i] ++ caps) (.bool (is i)) []) :
    FnOk Tryz.prog 122 [.int .i64 a, .int .i64 z, .fn f caps] (.own 0) [(0, .row 156 (stR (strs is (z - a) a)))] := by
  have hsl := strs_len is (z - a) a
  refine FnOk.of_vc Tryz.func122 rfl (by decide) (by simp [Tryz.f122]) [.tmp 6] rfl fun w0 T0 _ => ?_
  simp only [Tryz.f122, argEnv]
  (repeat' first | with_reducible (first | intro _ | refine rc ?_ | refine rl ?_ | refine rh ?_ | refine rt ?_ | refine rf ?_ | refine rs ?_ | refine And.intro ?_ ?_) | omega | simp (maxSteps := 1000000) only [go_sem, simprocAttr, ↓reduceIte])
  refine VcLoop.intro (fun x : Nat × List (Nat × Nat) => ⟨41, [(7, .own 0), (8, .int .i64 x.1), (1, .int .i64 z), (2, .fn f caps)], [(0, .row 156 (.objs 2 (x.2.map stAv)))], 1⟩) (fun x => a ≤ x.1 ∧ x.1 ≤ z + 1 ∧ x.2 ++ strs is (z - x.1) x.1 = strs is (z - a) a) (fun x => z + 1 - x.1) (a, []) ?_ ⟨Nat.le_refl _, by omega, rfl⟩ fun x hx => ?_
  · refine Ent.auto0 rfl ?_ ?_ <;> simp only [go_sem, reduceCtorEq, reduceIte, Nat.reduceEqDiff, Nat.reduceLT, Nat.reduceLeDiff, Int.natCast_succ, List.map_nil, zrow]
  obtain ⟨i, l⟩ := x
  obtain ⟨h1, h2, h3⟩ := hx
  dsimp only at h1 h2 h3 ⊢
  have hll : l.length ≤ 10000 := by
    have := congrArg List.length h3
    rw [List.length_append] at this
    omega
  by_cases hlt : i < z
  · obtain ⟨n, hn⟩ : ∃ n, z - i = n + 1 := ⟨z - i - 1, by omega⟩
    have hqi := hq i h1 hlt
    have hnx : strs is (n + 1) i = if is i = true then (i, runE is (n + 1) i - i) :: strs is (n - (runE is (n + 1) i - i)) (runE is (n + 1) i + 1) else strs is n (i + 1) := by rw [strs]
    rw [hn] at h3
    cases hi : is i with
    | false =>
      rw [hi] at hqi
      rw [if_neg (by rw [hi]; decide)] at hnx
      (repeat' first | with_reducible (first | intro _ | refine rc ?_ | refine rl ?_ | refine rh ?_ | refine rt ?_ | refine rf ?_ | refine rs ?_ | refine And.intro ?_ ?_) | omega | simp (maxSteps := 1000000) only [go_sem, simprocAttr, ↓reduceIte])
      refine VcCall.fr (args' := [.int .i64 i] ++ caps) hqi (by simp [argOkL, allOk, argOkN, allOk_caps]) 0 rfl (by simp [rowsB]) ?_
      (repeat' first | with_reducible (first | intro _ | refine rc ?_ | refine rl ?_ | refine rh ?_ | refine rt ?_ | refine rf ?_ | refine rs ?_ | refine And.intro ?_ ?_) | omega | simp (maxSteps := 1000000) only [go_sem, simprocAttr, ↓reduceIte])
      refine ⟨(i + 1, l), Ent.auto0 rfl ?_ ?_, ⟨by dsimp only; omega, by dsimp only; omega, ?_⟩, by dsimp only; omega⟩
      · simp only [go_sem, reduceCtorEq, reduceIte, Nat.reduceEqDiff, Nat.reduceLT, Nat.reduceLeDiff, Int.natCast_succ]
      · simp only [go_sem, reduceCtorEq, reduceIte, Nat.reduceEqDiff, Nat.reduceLT, Nat.reduceLeDiff, Int.natCast_succ]
      · show l ++ strs is (z - (i + 1)) (i + 1) = _
        rw [show z - (i + 1) = n by omega, ← h3, hnx]
    | true =>
      rw [hi] at hqi
      rw [if_pos hi] at hnx
      (repeat' first | with_reducible (first | intro _ | refine rc ?_ | refine rl ?_ | refine rh ?_ | refine rt ?_ | refine rf ?_ | refine rs ?_ | refine And.intro ?_ ?_) | omega | simp (maxSteps := 1000000) only [go_sem, simprocAttr, ↓reduceIte])
      refine VcCall.fr (args' := [.int .i64 i] ++ caps) hqi (by simp [argOkL, allOk, argOkN, allOk_caps]) 0 rfl (by simp [rowsB]) ?_
      (repeat' first | with_reducible (first | intro _ | refine rc ?_ | refine rl ?_ | refine rh ?_ | refine rt ?_ | refine rf ?_ | refine rs ?_ | refine And.intro ?_ ?_) | omega | simp (maxSteps := 1000000) only [go_sem, simprocAttr, ↓reduceIte])
      refine VcLoop.intro (fun k : Nat => ⟨41, [(9, .int .i64 k), (7, .own 0), (8, .int .i64 i), (1, .int .i64 z), (2, .fn f caps)], [(0, .row 156 (.objs 2 (l.map stAv)))], 1⟩) (fun k => i ≤ k ∧ k ≤ z ∧ runE is (z - k) k = runE is (n + 1) i) (fun k => z - k) i ?_ ⟨Nat.le_refl _, by omega, by rw [hn]⟩ fun k hk => ?_
      · refine Ent.auto0 rfl ?_ ?_ <;> simp only [go_sem, reduceCtorEq, reduceIte, Nat.reduceEqDiff, Nat.reduceLT, Nat.reduceLeDiff, Int.natCast_succ]
      obtain ⟨k1, k2, k3⟩ := hk
      have hcast : ((k - i : Nat) : Int) = (k : Int) - i := by omega
      by_cases hkz : k < z
      · have hqk := hq k (by omega) hkz
        have hdk : decide ((k : Int) < z) = true := by simp; exact hkz
        obtain ⟨m, hm⟩ : ∃ m, z - k = m + 1 := ⟨z - k - 1, by omega⟩
        have hrn : runE is (m + 1) k = if is k = true then runE is m (k + 1) else k := rfl
        rw [hm] at k3
        cases hik : is k with
        | true =>
          rw [hik] at hqk
          rw [if_pos hik] at hrn
          (repeat' first | with_reducible (first | intro _ | refine rc ?_ | refine rl ?_ | refine rh ?_ | refine rt ?_ | refine rf ?_ | refine rs ?_ | refine And.intro ?_ ?_) | omega | simp (maxSteps := 1000000) only [go_sem, simprocAttr, ↓reduceIte, hdk])
          refine VcCall.fr (args' := [.int .i64 k] ++ caps) hqk (by simp [argOkL, allOk, argOkN, allOk_caps]) 0 rfl (by simp [rowsB]) ?_
          (repeat' first | with_reducible (first | intro _ | refine rc ?_ | refine rl ?_ | refine rh ?_ | refine rt ?_ | refine rf ?_ | refine rs ?_ | refine And.intro ?_ ?_) | omega | simp (maxSteps := 1000000) only [go_sem, simprocAttr, ↓reduceIte, hdk])
          refine ⟨k + 1, Ent.auto0 rfl ?_ ?_, ⟨by omega, by omega, by rw [show z - (k + 1) = m by omega, ← hrn]; exact k3⟩, by omega⟩ <;> simp only [go_sem, reduceCtorEq, reduceIte, Nat.reduceEqDiff, Nat.reduceLT, Nat.reduceLeDiff, Int.natCast_succ]
        | false =>
          rw [hik] at hqk
          rw [if_neg (by rw [hik]; decide)] at hrn
          rw [hrn] at k3
          (repeat' first | with_reducible (first | intro _ | refine rc ?_ | refine rl ?_ | refine rh ?_ | refine rt ?_ | refine rf ?_ | refine rs ?_ | refine And.intro ?_ ?_) | omega | simp (maxSteps := 1000000) only [go_sem, simprocAttr, ↓reduceIte, hdk])
          refine VcCall.fr (args' := [.int .i64 k] ++ caps) hqk (by simp [argOkL, allOk, argOkN, allOk_caps]) 0 rfl (by simp [rowsB]) ?_
          (repeat' first | with_reducible (first | intro _ | refine rc ?_ | refine rl ?_ | refine rh ?_ | refine rt ?_ | refine rf ?_ | refine rs ?_ | refine And.intro ?_ ?_) | omega | simp (maxSteps := 1000000) only [go_sem, simprocAttr, ↓reduceIte, hdk, List.length_map])
          refine ⟨(k + 1, l ++ [(i, k - i)]), Ent.auto0 rfl ?_ ?_, ⟨by dsimp only; omega, by dsimp only; omega, ?_⟩, by dsimp only; omega⟩
          · simp only [go_sem, reduceCtorEq, reduceIte, Nat.reduceEqDiff, Nat.reduceLT, Nat.reduceLeDiff, Int.natCast_succ]
          · simp only [go_sem, reduceCtorEq, reduceIte, Nat.reduceEqDiff, Nat.reduceLT, Nat.reduceLeDiff, Int.natCast_succ, List.map_append, List.map_cons, List.map_nil, stAv, hcast]
          · show (l ++ [(i, k - i)]) ++ strs is (z - (k + 1)) (k + 1) = _
            rw [← h3, hnx, ← k3, List.append_assoc, show z - (k + 1) = n - (k - i) by omega]; rfl
      · have e : k = z := by omega
        subst e
        have hdk : decide ((k : Int) < k) = false := by simp
        have k3' : k = runE is (n + 1) i := by rw [← k3, Nat.sub_self]; rfl
        (repeat' first | with_reducible (first | intro _ | refine rc ?_ | refine rl ?_ | refine rh ?_ | refine rt ?_ | refine rf ?_ | refine rs ?_ | refine And.intro ?_ ?_) | omega | simp (maxSteps := 1000000) only [go_sem, simprocAttr, ↓reduceIte, hdk, List.length_map])
        refine ⟨(k + 1, l ++ [(i, k - i)]), Ent.auto0 rfl ?_ ?_, ⟨by dsimp only; omega, by dsimp only; omega, ?_⟩, by dsimp only; omega⟩
        · simp only [go_sem, reduceCtorEq, reduceIte, Nat.reduceEqDiff, Nat.reduceLT, Nat.reduceLeDiff, Int.natCast_succ]
        · simp only [go_sem, reduceCtorEq, reduceIte, Nat.reduceEqDiff, Nat.reduceLT, Nat.reduceLeDiff, Int.natCast_succ, List.map_append, List.map_cons, List.map_nil, stAv, hcast]
        · show (l ++ [(i, k - i)]) ++ strs is (k - (k + 1)) (k + 1) = _
          rw [← h3, hnx, ← k3', List.append_assoc, show k - (k + 1) = n - (k - i) by omega]; rfl
  · have e0 : strs is (z - i) i = [] := by rw [show z - i = 0 by omega]; unfold strs; rfl
    rw [e0, List.append_nil] at h3
    subst h3
    (repeat' first | with_reducible (first | intro _ | refine rc ?_ | refine rl ?_ | refine rh ?_ | refine rt ?_ | refine rf ?_ | refine rs ?_ | refine And.intro ?_ ?_) | omega | simp (maxSteps := 1000000) only [go_sem, simprocAttr, ↓reduceIte])
    refine Ret.auto 1 ?_ rfl ?_ <;> simp only [go_sem, reduceCtorEq, reduceIte, Nat.reduceEqDiff, Nat.reduceLT, Nat.reduceLeDiff, Int.natCast_succ, Post, stR]
theorem wide_bd {n least : Nat} : ∀ {l : List (Nat × Nat)} {b : Nat × Nat}, (∀ s, s ∈ l → s.1 ≤ n ∧ s.2 ≤ n) → b.1 ≤ n ∧ b.2 ≤ n → (l.foldl (wide least) b).1 ≤ n ∧ (l.foldl (wide least) b).2 ≤ n
  | [], b, _, h => h
  | s :: l, b, hs, h => by
    rw [List.foldl_cons]
    refine wide_bd (fun t ht => hs t (.tail _ ht)) ?_
    unfold wide; split
    · exact hs s (.head _)
    · exact h
set_option maxHeartbeats 2000000 in
theorem widest_ok (l : List (Nat × Nat)) (hl : l.length ≤ 10000) (least : Nat) (hle : least ≤ 4000) (hs : ∀ s, s ∈ l → s.1 ≤ 10000 ∧ s.2 ≤ 10000) :
    FnOk Tryz.prog 170 [.ro (stR l), .int .i64 least] (.agg (stAv (widest least l))) [] := by
  refine FnOk.of_vc Tryz.func170 rfl (by decide) (by simp [Tryz.f170]) [.cell 4 156] rfl fun w0 T0 _ => ?_
  simp only [Tryz.f170, argEnv]
  (repeat' first | with_reducible (first | intro _ | refine rc ?_ | refine rl ?_ | refine rh ?_ | refine rt ?_ | refine rf ?_ | refine rs ?_ | refine And.intro ?_ ?_) | omega | simp (maxSteps := 1000000) only [go_sem, simprocAttr, ↓reduceIte, stR, List.length_map])
  refine VcLoop.intro (fun i : Nat => ⟨27, [(9, .int .i64 i), (8, .int .i64 l.length), (7, .ro (stR l)), (1, .int .i64 least), (4, .ptr 0 0)], [(0, .box 156 (stAv ((l.take i).foldl (wide least) (0, 0))))], 1⟩) (fun i => i ≤ l.length) (fun i => l.length - i) 0 ?_ (Nat.zero_le _) fun i hi => ?_
  · refine Ent.auto0 rfl ?_ ?_ <;> simp only [go_sem, reduceCtorEq, reduceIte, Nat.reduceEqDiff, Nat.reduceLT, Nat.reduceLeDiff, Int.natCast_succ, List.take_zero, List.foldl_nil, stAv, stR]
  have hbd := wide_bd (least := least) (n := 10000) (l := l.take i) (b := (0, 0)) (fun s hm => hs s (List.mem_of_mem_take hm)) ⟨by decide, by decide⟩
  by_cases hlt : i < l.length
  · have he := st_elem l hlt
    have hm := hs (l.getD i (0, 0)) (by rw [getD_lt hlt]; exact List.getElem_mem hlt)
    have ht : (l.take (i + 1)).foldl (wide least) (0, 0) = wide least ((l.take i).foldl (wide least) (0, 0)) (l.getD i (0, 0)) := by
      rw [List.take_succ_eq_append_getElem hlt, List.foldl_append, getD_lt hlt]; rfl
    generalize (l.take i).foldl (wide least) (0, 0) = B at *
    generalize l.getD i (0, 0) = s at *
    obtain ⟨b1, b2⟩ := B
    obtain ⟨s1, s2⟩ := s
    dsimp only at hbd hm he
    unfold stAv
    (repeat' first | with_reducible (first | intro _ | refine rc ?_ | refine rl ?_ | refine rh ?_ | refine rt ?_ | refine rf ?_ | refine rs ?_ | refine And.intro ?_ ?_) | omega | simp (maxSteps := 1000000) only [go_sem, simprocAttr, ↓reduceIte, stR, List.length_map, elemA, he, Int.toNat_natCast])
    · have hw : wide least (b1, b2) (s1, s2) = (s1, s2) := if_pos (by dsimp only; omega)
      rw [hw] at ht
      refine ⟨i + 1, Ent.auto0 rfl ?_ ?_, by omega, by omega⟩ <;> simp only [go_sem, reduceCtorEq, reduceIte, Nat.reduceEqDiff, Nat.reduceLT, Nat.reduceLeDiff, Int.natCast_succ, ht, stR]
    · have hw : wide least (b1, b2) (s1, s2) = (b1, b2) := if_neg (by dsimp only; omega)
      rw [hw] at ht
      refine ⟨i + 1, Ent.auto0 rfl ?_ ?_, by omega, by omega⟩ <;> simp only [go_sem, reduceCtorEq, reduceIte, Nat.reduceEqDiff, Nat.reduceLT, Nat.reduceLeDiff, Int.natCast_succ, ht, stR]
  · have e : i = l.length := by omega
    subst e
    rw [List.take_length]
    have eh : l.foldl (wide least) (0, 0) = widest least l := rfl
    rw [eh]
    generalize widest least l = A at *
    unfold stAv
    (repeat' first | with_reducible (first | intro _ | refine rc ?_ | refine rl ?_ | refine rh ?_ | refine rt ?_ | refine rf ?_ | refine rs ?_ | refine And.intro ?_ ?_) | omega | simp (maxSteps := 1000000) only [go_sem, simprocAttr, ↓reduceIte, stR, List.length_map])
    refine Ret.auto 0 ?_ rfl ?_ <;> simp only [go_sem, reduceCtorEq, reduceIte, Nat.reduceEqDiff, Nat.reduceLT, Nat.reduceLeDiff, Int.natCast_succ, Post, List.drop_zero]
theorem mul_bd {a b : Nat} (ha : a ≤ 10000) (hb : b ≤ 4000) : 0 ≤ (a : Int) * b ∧ (a : Int) * b ≤ 40000000 := by
  have h : a * b ≤ 10000 * 4000 := Nat.mul_le_mul ha hb
  rw [← Int.natCast_mul]
  omega
theorem atColumns_ok (c r : Nat × Nat) (gx gy : Nat) (hc : c.1 ≤ 10000 ∧ c.2 ≤ 10000) (hr : r.1 ≤ 10000 ∧ r.2 ≤ 10000) (hx : gx ≤ 4000) (hy : gy ≤ 4000) :
    FnOk Tryz.prog 80 [.agg (stAv c), .agg (stAv r), .int .i64 gx, .int .i64 gy] (.bool (decide (0 < c.2 ∧ (r.2 = 0 ∨ r.2 * gx < c.2 * gy)))) [] := by
  obtain ⟨c1, c2⟩ := c
  obtain ⟨r1, r2⟩ := r
  dsimp only at *
  have m1 := mul_bd hr.2 hx
  have m2 := mul_bd hc.2 hy
  have m3 : (r2 * gx < c2 * gy) ↔ ((r2 : Int) * gx < (c2 : Int) * gy) := by rw [← Int.natCast_mul, ← Int.natCast_mul]; omega
  have e : decide (0 < c2 ∧ (r2 = 0 ∨ r2 * gx < c2 * gy)) = decide (0 < (c2 : Int) ∧ ((r2 : Int) = 0 ∨ (r2 : Int) * gx < (c2 : Int) * gy)) := by
    exact decide_eq_decide.2 (by rw [m3]; omega)
  rw [e]
  unfold stAv
  dsimp only
  refine FnOk.of_vc Tryz.func80 rfl (by decide) (by simp [Tryz.f80]) [.tmp 8] rfl fun w0 T0 _ => ?_
  simp only [Tryz.f80, argEnv]
  have n1 : -9223372036854775808 ≤ (c2 : Int) * gy ∧ (c2 : Int) * gy ≤ 9223372036854775807 := by omega
  have n2 : -9223372036854775808 ≤ (r2 : Int) * gx ∧ (r2 : Int) * gx ≤ 9223372036854775807 := by omega
  (repeat' first | with_reducible (first | intro _ | refine rc ?_ | refine rl ?_ | refine rh ?_ | refine rt ?_ | refine rf ?_ | refine rs ?_ | refine And.intro ?_ ?_) | omega | simp (maxSteps := 1000000) only [go_sem, simprocAttr, ↓reduceIte, eq_true n1.1, eq_true n1.2, eq_true n2.1, eq_true n2.2])
  all_goals refine Ret.auto 0 ?_ rfl ?_ <;> simp only [go_sem, reduceCtorEq, reduceIte, Nat.reduceEqDiff, Nat.reduceLT, Nat.reduceLeDiff, Int.natCast_succ, Post]
end Go.Fv.U

/-! Stretches that are joined: the walk. -/
namespace Go.Fv.U
open Go Go.Proofs
set_option linter.unusedSimpArgs false
set_option linter.unusedVariables false
set_option linter.unnecessarySimpa false
set_option maxRecDepth 8000

def enAv (t : Nat × Nat) : List AV := [.int .i64 t.1, .int .i64 ((t.2 : Int) - t.1)]
instance : FNoId enAv := ⟨fun _ => rfl⟩
def enR (l : List (Nat × Nat)) : RowV := .objs 2 (l.map enAv)
theorem en_elem (l : List (Nat × Nat)) {i : Nat} (h : i < l.length) : (l.map enAv).getD i [] = [.int .i64 (l.getD i (0, 0)).1, .int .i64 (((l.getD i (0, 0)).2 : Int) - (l.getD i (0, 0)).1)] := by
  rw [getD_lt (by simpa using h), getD_lt h, List.getElem_map]; rfl
def JnB (l : List (Nat × Nat)) : Prop := ∀ t, t ∈ l → t.1 ≤ 20000 ∧ t.2 ≤ 20000
theorem jnE_bd {gap : Nat} {out : List (Nat × Nat)} {s : Nat × Nat} (h : JnB out) (hs : s.1 ≤ 10000 ∧ s.2 ≤ 10000) : JnB (jnE gap out s) ∧ (jnE gap out s).length ≤ out.length + 1 := by
  rcases List.eq_nil_or_concat out with rfl | ⟨o, t, rfl⟩
  · rw [jnE_nil]
    refine ⟨fun t ht => ?_, by simp⟩
    rw [List.mem_singleton] at ht; subst ht
    unfold toE; dsimp only; omega
  · rw [List.concat_eq_append] at h ⊢
    have ht := h t (by simp)
    rw [jnE_snoc]
    split
    · refine ⟨fun u hu => ?_, by simp⟩
      rcases List.mem_append.1 hu with hu | hu
      · exact h u (by simp [hu])
      · rw [List.mem_singleton] at hu; subst hu
        dsimp only; omega
    · refine ⟨fun u hu => ?_, by simp⟩
      rcases List.mem_append.1 hu with hu | hu
      · exact h u hu
      · rw [List.mem_singleton] at hu; subst hu
        unfold toE; dsimp only; omega
set_option maxHeartbeats 4000000 in
theorem joined_ok (l : List (Nat × Nat)) (hl : l.length ≤ 10000) (hs : ∀ s, s ∈ l → s.1 ≤ 10000 ∧ s.2 ≤ 10000) (gap : Nat) (hg : gap ≤ 4000) :
    FnOk Tryz.prog 121 [.ro (stR l), .int .i64 gap] (.own 0) [(0, .row 156 (enR (l.foldl (jnE gap) [])))] := by
  refine FnOk.of_vc Tryz.func121 rfl (by decide) (by simp [Tryz.f121]) [.tmp 4] rfl fun w0 T0 _ => ?_
  simp only [Tryz.f121, argEnv]
  unfold stR enR
  (repeat' first | with_reducible (first | intro _ | refine rc ?_ | refine rl ?_ | refine rh ?_ | refine rt ?_ | refine rf ?_ | refine rs ?_ | refine And.intro ?_ ?_) | omega | simp (maxSteps := 1000000) only [go_sem, simprocAttr, ↓reduceIte, List.length_map])
  refine VcLoop.intro (fun x : Nat × List (Nat × Nat) => ⟨59, [(11, .int .i64 x.1), (10, .int .i64 l.length), (9, .ro (.objs 2 (l.map stAv))), (5, .own 0), (1, .int .i64 gap)], [(0, .row 156 (.objs 2 (x.2.map enAv)))], 1⟩) (fun x => x.1 ≤ l.length ∧ (l.drop x.1).foldl (jnE gap) x.2 = l.foldl (jnE gap) [] ∧ JnB x.2 ∧ x.2.length ≤ x.1) (fun x => l.length - x.1) (0, []) ?_ ⟨Nat.zero_le _, rfl, (fun _ ht => absurd ht List.not_mem_nil), Nat.le_refl _⟩ fun x hx => ?_
  · refine Ent.auto0 rfl ?_ ?_ <;> simp only [go_sem, reduceCtorEq, reduceIte, Nat.reduceEqDiff, Nat.reduceLT, Nat.reduceLeDiff, Int.natCast_succ, List.map_nil, zrow]
  obtain ⟨k, out⟩ := x
  obtain ⟨h1, h2, h3, h4⟩ := hx
  dsimp only at h1 h2 h3 h4 ⊢
  by_cases hlt : k < l.length
  · have he := st_elem l hlt
    have hd : l.drop k = l.getD k (0, 0) :: l.drop (k + 1) := by rw [List.drop_eq_getElem_cons hlt, getD_lt hlt]
    rw [hd, List.foldl_cons] at h2
    have hsk := hs (l.getD k (0, 0)) (by rw [getD_lt hlt]; exact List.getElem_mem hlt)
    generalize l.getD k (0, 0) = s at *
    obtain ⟨hb, hbl⟩ := jnE_bd (gap := gap) h3 hsk
    obtain ⟨s1, s2⟩ := s
    dsimp only at he hsk
    rcases List.eq_nil_or_concat out with rfl | ⟨o, t, rfl⟩
    · rw [jnE_nil] at h2 hb hbl
      have g1 : ¬ (0 : Int) ≤ (([] : List (Nat × Nat)).length : Int) - 1 := by simp
      (repeat' first | with_reducible (first | intro _ | refine rc ?_ | refine rl ?_ | refine rh ?_ | refine rt ?_ | refine rf ?_ | refine rs ?_ | refine And.intro ?_ ?_) | omega | simp (maxSteps := 1000000) only [go_sem, simprocAttr, ↓reduceIte, List.length_map, elemA, he, List.map_nil, List.length_nil])
      refine VcDraw.lex [] [] (by kernel_rfl) (by kernel_rfl) ?_
      have g2 : ∀ n, ([] : List (List AV)).getD n [] = [] := fun n => by simp
      (repeat' first | with_reducible (first | intro _ | refine rc ?_ | refine rl ?_ | refine rh ?_ | refine rt ?_ | refine rf ?_ | refine rs ?_ | refine And.intro ?_ ?_) | omega | simp (maxSteps := 1000000) only [go_sem, simprocAttr, ↓reduceIte, List.length_map, elemA, he, List.map_nil, List.length_nil, g2])
      refine QV.intro (.int .i64 0) ?_ ?_
      · (repeat' first | with_reducible (first | intro _ | refine rc ?_ | refine rl ?_ | refine rh ?_ | refine rt ?_ | refine rf ?_ | refine rs ?_ | refine And.intro ?_ ?_) | omega | simp (maxSteps := 1000000) only [go_sem, simprocAttr, ↓reduceIte, g2])
      (repeat' first | with_reducible (first | intro _ | refine rc ?_ | refine rl ?_ | refine rh ?_ | refine rt ?_ | refine rf ?_ | refine rs ?_ | refine And.intro ?_ ?_) | omega | simp (maxSteps := 1000000) only [go_sem, simprocAttr, ↓reduceIte, List.length_map, elemA, he, List.map_nil, List.length_nil, g2])
      refine QV.intro (.int .i64 0) ?_ ?_
      · (repeat' first | with_reducible (first | intro _ | refine rc ?_ | refine rl ?_ | refine rh ?_ | refine rt ?_ | refine rf ?_ | refine rs ?_ | refine And.intro ?_ ?_) | omega | simp (maxSteps := 1000000) only [go_sem, simprocAttr, ↓reduceIte, g2])
      (repeat' first | with_reducible (first | intro _ | refine rc ?_ | refine rl ?_ | refine rh ?_ | refine rt ?_ | refine rf ?_ | refine rs ?_ | refine And.intro ?_ ?_) | omega | simp (maxSteps := 1000000) only [go_sem, simprocAttr, ↓reduceIte, List.length_map, elemA, he, List.map_nil, List.length_nil, g2])
      have e1 : ((s1 : Int) + s2 - s1) = s2 := by omega
      refine ⟨(k + 1, [toE (s1, s2)]), Ent.auto0 rfl ?_ ?_, ⟨by dsimp only; omega, h2, hb, by dsimp only; simp⟩, by dsimp only; omega⟩ <;> simp only [go_sem, reduceCtorEq, reduceIte, Nat.reduceEqDiff, Nat.reduceLT, Nat.reduceLeDiff, Int.natCast_succ, toE, enAv, List.map_cons, List.map_nil, List.nil_append, Int.natCast_add, e1]
    · rw [List.concat_eq_append] at *
      have ht := h3 t (by simp)
      rw [jnE_snoc] at h2 hb hbl
      obtain ⟨t1, t2⟩ := t
      dsimp only at ht h2 hb hbl
      have hol : (o ++ [(t1, t2)]).length = o.length + 1 := by simp
      have g1 : (0 : Int) ≤ ((o.length + 1 : Nat) : Int) - 1 := by omega
      have g4 : (((o.length + 1 : Nat) : Int) - 1).toNat = o.length := by omega
      have g3 : ((o ++ [(t1, t2)]).map enAv).getD o.length [] = [.int .i64 t1, .int .i64 ((t2 : Int) - t1)] := by
        rw [List.map_append, List.getD_eq_getElem?_getD, List.getElem?_append_right (by simp)]; simp [enAv]
      have gd1 : decide ((0 : Int) ≤ ((o.length + 1 : Nat) : Int) - 1) = true := decide_eq_true g1
      (repeat' first | with_reducible (first | intro _ | refine rc ?_ | refine rl ?_ | refine rh ?_ | refine rt ?_ | refine rf ?_ | refine rs ?_ | refine And.intro ?_ ?_) | omega | simp (maxSteps := 1000000) only [go_sem, simprocAttr, ↓reduceIte, List.length_map, elemA, he, hol])
      refine VcDraw.lex [] [] (by kernel_rfl) (by kernel_rfl) ?_
      (repeat' first | with_reducible (first | intro _ | refine rc ?_ | refine rl ?_ | refine rh ?_ | refine rt ?_ | refine rf ?_ | refine rs ?_ | refine And.intro ?_ ?_) | omega | simp (maxSteps := 1000000) only [go_sem, simprocAttr, ↓reduceIte, List.length_map, elemA, he, hol, g3, g4, gd1])
      · rename_i h9
        rw [if_pos (by omega)] at h2 hb hbl
        refine VcDraw.lex [15] [] (by kernel_rfl) (by kernel_rfl) ?_
        (repeat' first | with_reducible (first | intro _ | refine rc ?_ | refine rl ?_ | refine rh ?_ | refine rt ?_ | refine rf ?_ | refine rs ?_ | refine And.intro ?_ ?_) | omega | simp (maxSteps := 1000000) only [go_sem, simprocAttr, ↓reduceIte, List.length_map, elemA, he, hol, g3, g4, gd1])
        have g5 : ((o ++ [(t1, t2)]).map enAv).set o.length [.int .i64 t1, .int .i64 ((s1 : Int) + s2 - t1)] = (o ++ [(t1, s1 + s2)]).map enAv := by
          rw [List.map_append, List.map_append, List.set_append_right _ _ (by simp)]
          simp [enAv]
        refine ⟨(k + 1, o ++ [(t1, s1 + s2)]), Ent.auto0 rfl ?_ ?_, ⟨by dsimp only; omega, h2, hb, by dsimp only; rw [List.length_append] at h4 ⊢; simp at h4 ⊢; omega⟩, by dsimp only; omega⟩ <;> simp only [go_sem, reduceCtorEq, reduceIte, Nat.reduceEqDiff, Nat.reduceLT, Nat.reduceLeDiff, Int.natCast_succ, g5, setElem, List.set_cons_zero, List.set_cons_succ]
        trace_state
      · rename_i h9
        rw [if_neg (by omega)] at h2 hb hbl
        have e1 : (((s1 + s2 : Nat) : Int) - s1) = s2 := by omega
        have g6 : (o ++ [(t1, t2)] ++ [toE (s1, s2)]).map enAv = (o ++ [(t1, t2)]).map enAv ++ [[.int .i64 s1, .int .i64 s2]] := by
          rw [List.map_append]; simp only [List.map_cons, List.map_nil, toE, enAv, e1]
        refine ⟨(k + 1, o ++ [(t1, t2)] ++ [toE (s1, s2)]), Ent.auto0 rfl ?_ ?_, ⟨by dsimp only; omega, h2, hb, by dsimp only; omega⟩, by dsimp only; omega⟩ <;> simp only [go_sem, reduceCtorEq, reduceIte, Nat.reduceEqDiff, Nat.reduceLT, Nat.reduceLeDiff, Int.natCast_succ, g6]
  · have e : k = l.length := by omega
    subst e
    rw [List.drop_length, List.foldl_nil] at h2
    subst h2
    (repeat' first | with_reducible (first | intro _ | refine rc ?_ | refine rl ?_ | refine rh ?_ | refine rt ?_ | refine rf ?_ | refine rs ?_ | refine And.intro ?_ ?_) | omega | simp (maxSteps := 1000000) only [go_sem, simprocAttr, ↓reduceIte, List.length_map])
    refine Ret.auto 1 ?_ rfl ?_ <;> simp only [go_sem, reduceCtorEq, reduceIte, Nat.reduceEqDiff, Nat.reduceLT, Nat.reduceLeDiff, Int.natCast_succ, Post]
end Go.Fv.U

/-! The closures of cut: the walk. -/
namespace Go.Fv.U
open Go Go.Proofs
set_option linter.unusedSimpArgs false
set_option linter.unusedVariables false
set_option linter.unnecessarySimpa false
set_option maxRecDepth 8000

set_option maxHeartbeats 1000000 in
theorem cutA_ok (p : List Bool) (w h : Nat) (hw : w ≤ 4000) (hh : h ≤ 4000) (gx gy : Nat) (o : List Nb) (b : Nb) (i : Nat) (hi : i < w) (hb : InP b w h) :
    FnOk Tryz.prog 171 [.int .i64 i, .cell [.cell (ctr p w h gx gy (.ro (nbs o)))], .cell b.av] (.bool (colE p w b i)) [] := by
  have k := column_ok p w h hw hh gx gy o b i hi hb
  have e : colE p w b i = !decide (0 < (colN p w b i : Int)) := by
    unfold colE
    by_cases h0 : colN p w b i = 0
    · rw [h0]; rfl
    · rw [decide_eq_false h0, decide_eq_true (by omega : 0 < (colN p w b i : Int))]; rfl
  rw [e]
  generalize decide (0 < (colN p w b i : Int)) = q at *
  unfold ctr Nb.av at *
  generalize sumL p w h = sc at *
  refine FnOk.of_vc Tryz.func171 rfl (by decide) (by simp [Tryz.f171]) [.tmp 4] rfl fun w0 T0 _ => ?_
  simp only [Tryz.f171, argEnv]
  (repeat' first | with_reducible (first | intro _ | refine rc ?_ | refine rl ?_ | refine rh ?_ | refine rt ?_ | refine rf ?_ | refine rs ?_ | refine And.intro ?_ ?_) | omega | simp (maxSteps := 1000000) only [go_sem, simprocAttr, ↓reduceIte])
  refine VcCall.k (k) ?_
  (repeat' first | with_reducible (first | intro _ | refine rc ?_ | refine rl ?_ | refine rh ?_ | refine rt ?_ | refine rf ?_ | refine rs ?_ | refine And.intro ?_ ?_) | omega | simp (maxSteps := 1000000) only [go_sem, simprocAttr, ↓reduceIte])
  refine Ret.auto 0 ?_ rfl ?_ <;> simp only [go_sem, reduceCtorEq, reduceIte, Nat.reduceEqDiff, Nat.reduceLT, Nat.reduceLeDiff, Int.natCast_succ, Post]
set_option maxHeartbeats 1000000 in
theorem cutB_ok (p : List Bool) (w h : Nat) (hw : w ≤ 4000) (hh : h ≤ 4000) (gx gy : Nat) (o : List Nb) (b : Nb) (i : Nat) (hi : i < h) (hb : InP b w h) :
    FnOk Tryz.prog 172 [.int .i64 i, .cell [.cell (ctr p w h gx gy (.ro (nbs o)))], .cell b.av] (.bool (rowE p w b i)) [] := by
  have k := row_ok p w h hw hh gx gy o b i hi hb
  have e : rowE p w b i = !decide (0 < (rowN p w b i : Int)) := by
    unfold rowE
    by_cases h0 : rowN p w b i = 0
    · rw [h0]; rfl
    · rw [decide_eq_false h0, decide_eq_true (by omega : 0 < (rowN p w b i : Int))]; rfl
  rw [e]
  generalize decide (0 < (rowN p w b i : Int)) = q at *
  unfold ctr Nb.av at *
  generalize sumL p w h = sc at *
  refine FnOk.of_vc Tryz.func172 rfl (by decide) (by simp [Tryz.f172]) [.tmp 4] rfl fun w0 T0 _ => ?_
  simp only [Tryz.f172, argEnv]
  (repeat' first | with_reducible (first | intro _ | refine rc ?_ | refine rl ?_ | refine rh ?_ | refine rt ?_ | refine rf ?_ | refine rs ?_ | refine And.intro ?_ ?_) | omega | simp (maxSteps := 1000000) only [go_sem, simprocAttr, ↓reduceIte])
  refine VcCall.k (k) ?_
  (repeat' first | with_reducible (first | intro _ | refine rc ?_ | refine rl ?_ | refine rh ?_ | refine rt ?_ | refine rf ?_ | refine rs ?_ | refine And.intro ?_ ?_) | omega | simp (maxSteps := 1000000) only [go_sem, simprocAttr, ↓reduceIte])
  refine Ret.auto 0 ?_ rfl ?_ <;> simp only [go_sem, reduceCtorEq, reduceIte, Nat.reduceEqDiff, Nat.reduceLT, Nat.reduceLeDiff, Int.natCast_succ, Post]
end Go.Fv.U
