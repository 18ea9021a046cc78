/-
  A part of the proof of the claim: walks over the program's functions and the plain laws that these need. No condition of its own.
-/
import Derived.Test.YtfebnhmnkgnofaaDoorCSpread
import Derived.Test.YtfebnhmnkgnofaaDoorCSquare
import Derived.Test.YtfebnhmnkgnofaaDoorCRefLocal
namespace Go.Fv.C
set_option linter.unusedSimpArgs false
set_option linter.unusedVariables false

theorem inkV_one {p : List Bool} {i : Nat} : inkV p i = 1 ↔ p.getD i false = true := by
  unfold inkV; split
  · rename_i h; exact ⟨fun _ => h, fun _ => rfl⟩
  · rename_i h; exact ⟨fun e => absurd e (by omega), fun e => absurd e h⟩
theorem inkV_01 (p : List Bool) (i : Nat) : inkV p i = 0 ∨ inkV p i = 1 := by unfold inkV; split <;> simp
theorem sumTo_pos {f : Nat → Int} (h : ∀ i, f i = 0 ∨ f i = 1) : ∀ n, 0 < sumTo f n ↔ ∃ i, i < n ∧ f i = 1
  | 0 => by simp [sumTo]
  | n + 1 => by
    have ih := sumTo_pos h n
    have h0 := (sumTo_bd (f := f) (c := 1) (fun i => by rcases h i with e | e <;> omega) n).1
    rw [sumTo]
    constructor
    · intro hp
      rcases h n with e | e
      · obtain ⟨i, hi, hf⟩ := ih.1 (by omega)
        exact ⟨i, by omega, hf⟩
      · exact ⟨n, by omega, e⟩
    · rintro ⟨i, hi, hf⟩
      by_cases e : i = n
      · subst e; omega
      · have := ih.2 ⟨i, by omega, hf⟩
        rcases h n with e | e <;> omega
/-- The sum of a list of noughts and ones. -/
theorem sum01_pos {l : List Int} (h : ∀ x, x ∈ l → x = 0 ∨ x = 1) : (0 ≤ l.sum ∧ l.sum ≤ l.length) ∧ (0 < l.sum ↔ ∃ x, x ∈ l ∧ x = 1) ∧ (l.sum = l.length ↔ ∀ x, x ∈ l → x = 1) := by
  induction l with
  | nil => simp
  | cons a l ih =>
    obtain ⟨⟨h1, h2⟩, h3, h4⟩ := ih fun y hy => h y (.tail _ hy)
    have ha := h a (.head _)
    simp only [List.sum_cons, List.length_cons, List.mem_cons, forall_eq_or_imp, exists_eq_or_imp]
    refine ⟨by omega, ?_, ?_⟩
    · constructor
      · intro hp
        rcases ha with e | e
        · exact .inr (h3.1 (by omega))
        · exact .inl e
      · rintro (e | e)
        · omega
        · have := h3.2 e; omega
    · constructor
      · intro hp
        refine ⟨by omega, h4.1 (by omega)⟩
      · rintro ⟨e, he⟩
        have := h4.2 he; omega
theorem boxL_mem_iff {v : Nat → Int} {w t l n : Nat} {a : Int} : ∀ {m : Nat}, a ∈ boxL v w t l n m ↔ ∃ j k, j < m ∧ k < n ∧ v ((t + j) * w + (l + k)) = a
  | 0 => by simp [boxL]
  | m + 1 => by
    rw [boxL, List.mem_append, boxL_mem_iff]
    simp only [segL, List.mem_map, List.mem_range]
    constructor
    · rintro (⟨j, k, h1, h2, h3⟩ | ⟨k, h2, h3⟩)
      · exact ⟨j, k, by omega, h2, h3⟩
      · exact ⟨m, k, by omega, h2, h3⟩
    · rintro ⟨j, k, h1, h2, h3⟩
      by_cases e : j = m
      · subst e; exact .inr ⟨k, h2, h3⟩
      · exact .inl ⟨j, k, by omega, h2, h3⟩

/-- Ink in the square around a pixel. -/
def Near (w h r x y i j : Nat) : Prop := i < w ∧ j < h ∧ i ≤ x + r ∧ x ≤ i + r ∧ j ≤ y + r ∧ y ≤ j + r
theorem spread_iff (p : List Bool) {w h r x y : Nat} (hx : x < w) (hy : y < h) : spreadB p w h r x y = true ↔ ∃ i j, Near w h r x y i j ∧ p.getD (j * w + i) false = true := by
  unfold spreadB inkAt
  have hs := sum_box (inkV p) w (y - r) (x - r) (min (x + r + 1) w - (x - r)) (min (y + r + 1) h - (y - r))
  rw [show x - r + (min (x + r + 1) w - (x - r)) = min (x + r + 1) w from by omega, show y - r + (min (y + r + 1) h - (y - r)) = min (y + r + 1) h from by omega] at hs
  simp only [decide_eq_true_eq]
  rw [← hs, (sum01_pos (fun a ha => by obtain ⟨j, k, _, _, rfl⟩ := boxL_mem_iff.1 ha; exact inkV_01 _ _)).2.1]
  constructor
  · rintro ⟨a, ha, rfl⟩
    obtain ⟨j, k, h1, h2, h3⟩ := boxL_mem_iff.1 ha
    exact ⟨x - r + k, y - r + j, ⟨by omega, by omega, by omega, by omega, by omega, by omega⟩, inkV_one.1 h3⟩
  · rintro ⟨i, j, ⟨h1, h2, h3, h4, h5, h6⟩, hp⟩
    refine ⟨1, boxL_mem_iff.2 ⟨j - (y - r), i - (x - r), by omega, by omega, ?_⟩, rfl⟩
    rw [show y - r + (j - (y - r)) = j by omega, show x - r + (i - (x - r)) = i by omega]
    exact inkV_one.2 hp
theorem mul_full {a b n : Nat} (ha : a ≤ n) (hb : b ≤ n) (hn : 0 < n) : a * b = n * n ↔ a = n ∧ b = n := by
  constructor
  · intro h
    have h1 : a * b ≤ a * n := Nat.mul_le_mul_left _ hb
    have h2 : a * n ≤ n * n := Nat.mul_le_mul_right _ ha
    have e1 : a * n = n * n := by omega
    have e2 : a = n := Nat.eq_of_mul_eq_mul_right hn e1
    subst e2
    exact ⟨rfl, Nat.eq_of_mul_eq_mul_left hn h⟩
  · rintro ⟨rfl, rfl⟩; rfl
theorem shrink_iff (p : List Bool) {w h r x y : Nat} (hx : x < w) (hy : y < h) : shrinkB p w h r x y = true ↔ (r ≤ x ∧ x + r < w ∧ r ≤ y ∧ y + r < h) ∧ ∀ i j, Near w h r x y i j → p.getD (j * w + i) false = true := by
  unfold shrinkB inkAt
  have hs := sum_box (inkV p) w (y - r) (x - r) (min (x + r + 1) w - (x - r)) (min (y + r + 1) h - (y - r))
  have hl := boxL_len (inkV p) w (y - r) (x - r) (min (x + r + 1) w - (x - r)) (min (y + r + 1) h - (y - r))
  rw [show x - r + (min (x + r + 1) w - (x - r)) = min (x + r + 1) w from by omega, show y - r + (min (y + r + 1) h - (y - r)) = min (y + r + 1) h from by omega] at hs
  simp only [Bool.and_eq_true, decide_eq_true_eq]
  have h3 := (sum01_pos (l := boxL (inkV p) w (y - r) (x - r) (min (x + r + 1) w - (x - r)) (min (y + r + 1) h - (y - r))) (fun a ha => by obtain ⟨j, k, _, _, rfl⟩ := boxL_mem_iff.1 ha; exact inkV_01 _ _)).2.2
  rw [hs, hl, Nat.mul_comm] at h3
  rw [h3]
  have hm := mul_full (a := min (x + r + 1) w - (x - r)) (b := min (y + r + 1) h - (y - r)) (n := 2 * r + 1) (by omega) (by omega) (by omega)
  rw [show ((((min (x + r + 1) w - (x - r)) * (min (y + r + 1) h - (y - r)) : Nat) : Int) = (((2 * r + 1) * (2 * r + 1) : Nat) : Int)) ↔ (min (x + r + 1) w - (x - r)) * (min (y + r + 1) h - (y - r)) = (2 * r + 1) * (2 * r + 1) from Int.ofNat_inj, hm]
  constructor
  · rintro ⟨⟨g1, g2⟩, ha⟩
    refine ⟨⟨by omega, by omega, by omega, by omega⟩, ?_⟩
    rintro i j ⟨h1, h2, h3, h4, h5, h6⟩
    have := ha (inkV p (j * w + i)) (boxL_mem_iff.2 ⟨j - (y - r), i - (x - r), by omega, by omega, by rw [show y - r + (j - (y - r)) = j by omega, show x - r + (i - (x - r)) = i by omega]⟩)
    exact inkV_one.1 this
  · rintro ⟨⟨g1, g2, g3, g4⟩, ha⟩
    refine ⟨⟨by omega, by omega⟩, fun a hm => ?_⟩
    obtain ⟨j, k, h1, h2, rfl⟩ := boxL_mem_iff.1 hm
    exact inkV_one.2 (ha _ _ ⟨by omega, by omega, by omega, by omega, by omega, by omega⟩)
theorem refSpread_iff (p : List Bool) {w h r x y : Nat} (hx : x < w) (hy : y < h) : refSpreadB p w h r x y = true ↔ ∃ i j, Near w h r x y i j ∧ p.getD (j * w + i) false = true := by
  unfold refSpreadB
  rw [List.any_eq_true]
  constructor
  · rintro ⟨b, hb, hb1⟩
    simp only [id] at hb1
    subst hb1
    obtain ⟨j, k, h1, h2, h3⟩ := sqRows_mem.1 hb
    by_cases hin : 0 ≤ (x : Int) - r + (k : Nat) ∧ (x : Int) - r + (k : Nat) < w ∧ 0 ≤ (y : Int) - r + (j : Nat) ∧ (y : Int) - r + (j : Nat) < h
    · refine ⟨x + k - r, y + j - r, ⟨by omega, by omega, by omega, by omega, by omega, by omega⟩, ?_⟩
      rw [← atB_in p (w := w) (h := h) (by omega) (by omega), ← h3]
      congr 1 <;> omega
    · rw [atB_out p hin] at h3; cases h3
  · rintro ⟨i, j, ⟨h1, h2, h3, h4, h5, h6⟩, hp⟩
    refine ⟨true, sqRows_mem.2 ⟨j + r - y, i + r - x, by omega, by omega, ?_⟩, rfl⟩
    rw [show (x : Int) - r + ((i + r - x : Nat) : Int) = (i : Nat) by omega, show (y : Int) - r + ((j + r - y : Nat) : Int) = (j : Nat) by omega, atB_in p h1 h2, hp]
theorem refShrink_iff (p : List Bool) {w h r x y : Nat} (hx : x < w) (hy : y < h) : refShrinkB p w h r x y = true ↔ (r ≤ x ∧ x + r < w ∧ r ≤ y ∧ y + r < h) ∧ ∀ i j, Near w h r x y i j → p.getD (j * w + i) false = true := by
  unfold refShrinkB
  rw [List.all_eq_true]
  have at' : (∀ b, b ∈ sqRows p w h ((x : Int) - r) ((y : Int) - r) (2 * r + 1) (2 * r + 1) → id b = true) ↔ ∀ j k : Nat, j < 2 * r + 1 → k < 2 * r + 1 → atB p w h ((x : Int) - r + (k : Nat)) ((y : Int) - r + (j : Nat)) = true := by
    constructor
    · intro hall j k h1 h2
      exact hall _ (sqRows_mem.2 ⟨j, k, h1, h2, rfl⟩)
    · intro hall b hb
      obtain ⟨j, k, h1, h2, rfl⟩ := sqRows_mem.1 hb
      exact hall j k h1 h2
  rw [at']
  constructor
  · intro hall
    have hin : ∀ j k : Nat, j < 2 * r + 1 → k < 2 * r + 1 → 0 ≤ (x : Int) - r + (k : Nat) ∧ (x : Int) - r + (k : Nat) < w ∧ 0 ≤ (y : Int) - r + (j : Nat) ∧ (y : Int) - r + (j : Nat) < h := by
      intro j k h1 h2
      by_cases hin : 0 ≤ (x : Int) - r + (k : Nat) ∧ (x : Int) - r + (k : Nat) < w ∧ 0 ≤ (y : Int) - r + (j : Nat) ∧ (y : Int) - r + (j : Nat) < h
      · exact hin
      · have := hall j k h1 h2
        rw [atB_out p hin] at this; cases this
    have c1 := hin 0 0 (by omega) (by omega)
    have c2 := hin (2 * r) (2 * r) (by omega) (by omega)
    refine ⟨by omega, ?_⟩
    rintro i j ⟨h1, h2, h3, h4, h5, h6⟩
    have := hall (j + r - y) (i + r - x) (by omega) (by omega)
    rwa [show (x : Int) - r + ((i + r - x : Nat) : Int) = (i : Nat) by omega, show (y : Int) - r + ((j + r - y : Nat) : Int) = (j : Nat) by omega, atB_in p h1 h2] at this
  · rintro ⟨⟨g1, g2, g3, g4⟩, ha⟩ j k h1 h2
    have := ha (x + k - r) (y + j - r) ⟨by omega, by omega, by omega, by omega, by omega, by omega⟩
    rw [← this, ← atB_in p (w := w) (h := h) (by omega) (by omega)]
    congr 1 <;> omega
theorem rowsOf_congr {α : Type} {w h : Nat} {f g : Nat → Nat → α} (hfg : ∀ x y, x < w → y < h → f x y = g x y) : rowsOf w f (h * w) = rowsOf w g (h * w) := by
  unfold rowsOf
  refine List.map_congr_left fun k hk => ?_
  have hk := List.mem_range.1 hk
  have hw : 0 < w := by rcases Nat.eq_zero_or_pos w with rfl | h' <;> omega
  exact hfg _ _ (Nat.mod_lt _ hw) (Nat.div_lt_of_lt_mul (by rw [Nat.mul_comm]; exact hk))
theorem rowsOf_get {w h x y : Nat} {f : Nat → Nat → Bool} (hx : x < w) (hy : y < h) : (rowsOf w f (h * w)).getD (y * w + x) false = f x y := by
  have b : y * w + w ≤ h * w := by rw [← Nat.succ_mul]; exact Nat.mul_le_mul_right _ (by omega)
  have e1 : (y * w + x) % w = x := by rw [Nat.mul_comm, Nat.mul_add_mod, Nat.mod_eq_of_lt hx]
  have e2 : (y * w + x) / w = y := by rw [Nat.mul_comm, Nat.mul_add_div (by omega), Nat.div_eq_of_lt hx, Nat.add_zero]
  unfold rowsOf
  rw [List.getD_eq_getElem?_getD, List.getElem?_map, List.getElem?_range (by omega)]
  simp [e1, e2]
theorem spread_same (p : List Bool) (w h r : Nat) : rowsOf w (spreadB p w h r) (h * w) = rowsOf w (refSpreadB p w h r) (h * w) :=
  rowsOf_congr fun x y hx hy => by rw [Bool.eq_iff_iff, spread_iff p hx hy, refSpread_iff p hx hy]
theorem shrink_same (p : List Bool) (w h r : Nat) : rowsOf w (shrinkB p w h r) (h * w) = rowsOf w (refShrinkB p w h r) (h * w) :=
  rowsOf_congr fun x y hx hy => by rw [Bool.eq_iff_iff, shrink_iff p hx hy, refShrink_iff p hx hy]
/-- Shrunk, then spread: no more ink than before. -/
theorem opened (p : List Bool) {w h r x y : Nat} (hx : x < w) (hy : y < h) (ho : spreadB (rowsOf w (shrinkB p w h r) (h * w)) w h r x y = true) : p.getD (y * w + x) false = true := by
  obtain ⟨i, j, ⟨h1, h2, h3, h4, h5, h6⟩, hp⟩ := (spread_iff _ hx hy).1 ho
  rw [rowsOf_get h1 h2] at hp
  exact ((shrink_iff p h1 h2).1 hp).2 x y ⟨hx, hy, by omega, by omega, by omega, by omega⟩
/-- Spread, then shrunk: within the page no less. -/
theorem shut (p : List Bool) {w h r x y : Nat} (hx : x < w) (hy : y < h) (hp : p.getD (y * w + x) false = true) (hin : r ≤ x ∧ x + r < w ∧ r ≤ y ∧ y + r < h) : shrinkB (rowsOf w (spreadB p w h r) (h * w)) w h r x y = true := by
  refine (shrink_iff _ hx hy).2 ⟨hin, ?_⟩
  rintro i j ⟨h1, h2, h3, h4, h5, h6⟩
  rw [rowsOf_get h1 h2]
  exact (spread_iff p h1 h2).2 ⟨x, y, ⟨hx, hy, by omega, by omega, by omega, by omega⟩, hp⟩
end Go.Fv.C
