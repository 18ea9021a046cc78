/-
  A part of the proof of the claim: walks over the program's functions and the plain laws that these need. No condition of its own.
-/
import Derived.Test.YtjomdjmmpohaeaaDoorFvPart9
import Derived.Test.YtjomdjmmpohaeaaDoorFvPart10
/- Distances of words: what the table, the script and their references compute, in plain words. -/

namespace Go.Fv.W
open Go
set_option linter.unusedSimpArgs false
set_option linter.unusedVariables false
set_option linter.unnecessarySimpa false

structure Mx where
  f : List UInt8
  t : List UInt8
  c : Int
deriving DecidableEq
/-- A mix in one direction. -/
structure Sw where
  o : List UInt8
  n : List UInt8
  c : Int
deriving DecidableEq
structure St where
  a : Nat
  b : Nat
  c : Int
deriving DecidableEq
def swL (l : List Mx) : List Sw := l.flatMap fun m => [⟨m.f, m.t, m.c⟩, ⟨m.t, m.f, m.c⟩]
structure GoodSw (sw : List Sw) : Prop where
  o : ∀ s, s ∈ sw → s.o ≠ []
  n : ∀ s, s ∈ sw → s.n ≠ []
  ne : ∀ s, s ∈ sw → s.o ≠ s.n
  c0 : ∀ s, s ∈ sw → 0 ≤ s.c
  c1 : ∀ s, s ∈ sw → s.c ≤ 100
  sy : ∀ s, s ∈ sw → (⟨s.n, s.o, s.c⟩ : Sw) ∈ sw

def swSteps (sw : List Sw) (x y : List UInt8) : List St := (sw.filter fun s => s.o.isPrefixOf x && s.n.isPrefixOf y).map fun s => ⟨s.o.length, s.n.length, s.c⟩
/-- The steps at two places, in their order. -/
def steps (sw : List Sw) (x y : List UInt8) : List St :=
  (if x ≠ [] ∧ y ≠ [] ∧ x.headD 0 = y.headD 0 then [⟨1, 1, 0⟩] else []) ++ swSteps sw x y ++ (if x ≠ [] ∧ y ≠ [] then [⟨1, 1, 100⟩] else []) ++ (if x ≠ [] then [⟨1, 0, 100⟩] else []) ++ (if y ≠ [] then [⟨0, 1, 100⟩] else [])
def minL : List Int → Int
  | [] => 0
  | [x] => x
  | x :: y :: l => min x (minL (y :: l))
theorem minL_le : ∀ (l : List Int) (v : Int), v ∈ l → minL l ≤ v
  | [x], v, h => by simp at h; subst h; exact Int.le_refl _
  | x :: y :: l, v, h => by
    simp only [minL]
    cases List.mem_cons.1 h with
    | inl e => subst e; omega
    | inr e => have := minL_le (y :: l) v e; omega
theorem minL_mem : ∀ (l : List Int), l ≠ [] → minL l ∈ l
  | [x], _ => by simp [minL]
  | x :: y :: l, _ => by
    simp only [minL]
    have := minL_mem (y :: l) (by simp)
    rcases Int.le_total x (minL (y :: l)) with h | h
    · rw [Int.min_eq_left h]; exact .head _
    · rw [Int.min_eq_right h]; exact .tail _ this
theorem minL_unique {l : List Int} {v : Int} (h : v ∈ l) (hle : ∀ u, u ∈ l → v ≤ u) : minL l = v := by
  have h1 := minL_le l v h
  have h2 := hle _ (minL_mem l (by intro e; subst e; simp at h))
  omega

def distF (sw : List Sw) : Nat → List UInt8 → List UInt8 → Int
  | 0, _, _ => 0
  | k + 1, x, y => minL ((steps sw x y).map fun s => s.c + distF sw k (x.drop s.a) (y.drop s.b))
def dist (sw : List Sw) (x y : List UInt8) : Int := distF sw (x.length + y.length) x y

section
variable {sw : List Sw} (hg : GoodSw sw)
theorem step_cases {x y : List UInt8} {s : St} (h : s ∈ steps sw x y) :
    (x ≠ [] ∧ y ≠ [] ∧ x.headD 0 = y.headD 0 ∧ s = ⟨1, 1, 0⟩) ∨ (∃ q, q ∈ sw ∧ q.o.isPrefixOf x = true ∧ q.n.isPrefixOf y = true ∧ s = ⟨q.o.length, q.n.length, q.c⟩) ∨ (x ≠ [] ∧ y ≠ [] ∧ s = ⟨1, 1, 100⟩) ∨ (x ≠ [] ∧ s = ⟨1, 0, 100⟩) ∨ (y ≠ [] ∧ s = ⟨0, 1, 100⟩) := by
  simp only [steps, swSteps, List.mem_append, List.mem_map, List.mem_filter, Bool.and_eq_true] at h
  rcases h with (((h | ⟨q, ⟨h1, h2, h3⟩, rfl⟩) | h) | h) | h
  · split at h
    · rename_i hc; simp at h; exact .inl ⟨hc.1, hc.2.1, hc.2.2, h⟩
    · simp at h
  · exact .inr (.inl ⟨q, h1, h2, h3, rfl⟩)
  · split at h
    · rename_i hc; simp at h; exact .inr (.inr (.inl ⟨hc.1, hc.2, h⟩))
    · simp at h
  · split at h
    · rename_i hc; simp at h; exact .inr (.inr (.inr (.inl ⟨hc, h⟩)))
    · simp at h
  · split at h
    · rename_i hc; simp at h; exact .inr (.inr (.inr (.inr ⟨hc, h⟩)))
    · simp at h
theorem pos_of_ne {x : List UInt8} (h : x ≠ []) : 1 ≤ x.length := by cases x with
  | nil => exact absurd rfl h
  | cons => simp
theorem prefix_len {o x : List UInt8} (h : o.isPrefixOf x = true) : o.length ≤ x.length := (List.isPrefixOf_iff_prefix.1 h).length_le
include hg
theorem step_bd {x y : List UInt8} {s : St} (h : s ∈ steps sw x y) : s.a ≤ x.length ∧ s.b ≤ y.length ∧ 1 ≤ s.a + s.b ∧ 0 ≤ s.c ∧ s.c ≤ 100 := by
  rcases step_cases h with ⟨h1, h2, _, rfl⟩ | ⟨q, h1, h2, h3, rfl⟩ | ⟨h1, h2, rfl⟩ | ⟨h1, rfl⟩ | ⟨h1, rfl⟩
  · exact ⟨pos_of_ne h1, pos_of_ne h2, by simp, by simp, by simp⟩
  · have := pos_of_ne (hg.o q h1)
    exact ⟨prefix_len h2, prefix_len h3, by show 1 ≤ q.o.length + q.n.length; omega, hg.c0 q h1, hg.c1 q h1⟩
  · exact ⟨pos_of_ne h1, pos_of_ne h2, by simp, by simp, by simp⟩
  · exact ⟨pos_of_ne h1, by simp, by simp, by simp, by simp⟩
  · exact ⟨by simp, pos_of_ne h1, by simp, by simp, by simp⟩
omit hg in
theorem steps_nil (ho : ∀ s, s ∈ sw → s.o ≠ []) : steps sw [] [] = [] := by
  have : swSteps sw [] [] = [] := by
    unfold swSteps
    rw [List.map_eq_nil_iff, List.filter_eq_nil_iff]
    intro s hs
    have := ho s hs
    cases hq : s.o with
    | nil => exact absurd hq this
    | cons => simp [List.isPrefixOf]
  simp [steps, this]
theorem distF_fuel : ∀ (k : Nat) (x y : List UInt8), x.length + y.length ≤ k → distF sw k x y = dist sw x y
  | 0, x, y, h => by
    have e : x.length + y.length = 0 := by omega
    unfold dist; rw [e]
  | k + 1, x, y, h => by
    unfold dist
    cases hn : x.length + y.length with
    | zero =>
      have hx : x = [] := List.eq_nil_of_length_eq_zero (by omega)
      have hy : y = [] := List.eq_nil_of_length_eq_zero (by omega)
      subst hx; subst hy
      simp [distF, steps_nil hg.o, minL]
    | succ m =>
      simp only [distF]
      congr 1
      refine List.map_congr_left fun s hs => ?_
      have hb := step_bd hg hs
      have hl : (x.drop s.a).length + (y.drop s.b).length + (s.a + s.b) = x.length + y.length := by simp; omega
      rw [distF_fuel k _ _ (by omega), distF_fuel m _ _ (by omega)]
theorem dist_eq {x y : List UInt8} (h : ¬ (x = [] ∧ y = [])) : dist sw x y = minL ((steps sw x y).map fun s => s.c + dist sw (x.drop s.a) (y.drop s.b)) := by
  conv => lhs; unfold dist
  cases hn : x.length + y.length with
  | zero =>
    have hx : x = [] := List.eq_nil_of_length_eq_zero (by omega)
    have hy : y = [] := List.eq_nil_of_length_eq_zero (by omega)
    exact absurd ⟨hx, hy⟩ h
  | succ m =>
    simp only [distF]
    congr 1
    refine List.map_congr_left fun s hs => ?_
    have hb := step_bd hg hs
    have hl : (x.drop s.a).length + (y.drop s.b).length + (s.a + s.b) = x.length + y.length := by simp; omega
    rw [distF_fuel hg m _ _ (by omega)]
omit hg in
theorem dist_nil : dist sw [] [] = 0 := rfl
omit hg in
theorem steps_ne {x y : List UInt8} (h : ¬ (x = [] ∧ y = [])) : steps sw x y ≠ [] := by
  intro e
  by_cases hx : x = []
  · have hy : y ≠ [] := fun e => h ⟨hx, e⟩
    have : (⟨0, 1, 100⟩ : St) ∈ steps sw x y := by simp [steps, hy]
    rw [e] at this; simp at this
  · have : (⟨1, 0, 100⟩ : St) ∈ steps sw x y := by simp [steps, hx]
    rw [e] at this; simp at this
omit hg in
theorem steps_eq {x y : List UInt8} (h1 : x ≠ []) (h2 : y ≠ []) (h3 : x.headD 0 = y.headD 0) : (⟨1, 1, 0⟩ : St) ∈ steps sw x y := by
  have : (⟨1, 1, 0⟩ : St) ∈ (if x ≠ [] ∧ y ≠ [] ∧ x.headD 0 = y.headD 0 then [(⟨1, 1, 0⟩ : St)] else []) := by rw [if_pos ⟨h1, h2, h3⟩]; simp
  unfold steps
  simp only [List.mem_append]
  exact .inl (.inl (.inl (.inl this)))
/-- The distance is not more than by any step. -/
theorem dist_le {x y : List UInt8} {s : St} (h : s ∈ steps sw x y) : dist sw x y ≤ s.c + dist sw (x.drop s.a) (y.drop s.b) := by
  have hne : ¬ (x = [] ∧ y = []) := by
    rintro ⟨rfl, rfl⟩
    rw [steps_nil hg.o] at h; simp at h
  rw [dist_eq hg hne]
  exact minL_le _ _ (List.mem_map.2 ⟨s, h, rfl⟩)
theorem dist_step {x y : List UInt8} (h : ¬ (x = [] ∧ y = [])) : ∃ s, s ∈ steps sw x y ∧ s.c + dist sw (x.drop s.a) (y.drop s.b) = dist sw x y := by
  have := minL_mem ((steps sw x y).map fun s => s.c + dist sw (x.drop s.a) (y.drop s.b)) (by simpa using steps_ne h)
  rw [← dist_eq hg h] at this
  obtain ⟨s, hs, he⟩ := List.mem_map.1 this
  exact ⟨s, hs, he⟩
theorem dist_bd : ∀ (k : Nat) (x y : List UInt8), x.length + y.length ≤ k → 0 ≤ dist sw x y ∧ dist sw x y ≤ 100 * (x.length + y.length : Nat)
  | 0, x, y, h => by
    have hx : x = [] := List.eq_nil_of_length_eq_zero (by omega)
    have hy : y = [] := List.eq_nil_of_length_eq_zero (by omega)
    subst hx; subst hy
    simp [dist_nil]
  | k + 1, x, y, h => by
    by_cases hne : x = [] ∧ y = []
    · obtain ⟨rfl, rfl⟩ := hne; simp [dist_nil]
    · obtain ⟨s, hs, he⟩ := dist_step hg hne
      have hb := step_bd hg hs
      have hl : (x.drop s.a).length + (y.drop s.b).length + (s.a + s.b) = x.length + y.length := by simp; omega
      have ih := dist_bd k (x.drop s.a) (y.drop s.b) (by omega)
      refine ⟨by omega, ?_⟩
      have h1 : (∃ s, s ∈ steps sw x y ∧ (s = ⟨1, 0, 100⟩ ∨ s = ⟨0, 1, 100⟩)) := by
        by_cases hx : x = []
        · have hy : y ≠ [] := fun e => hne ⟨hx, e⟩
          exact ⟨⟨0, 1, 100⟩, by simp [steps, hy], .inr rfl⟩
        · exact ⟨⟨1, 0, 100⟩, by simp [steps, hx], .inl rfl⟩
      obtain ⟨q, hq, hq2⟩ := h1
      have hle := dist_le hg hq
      have hb2 := step_bd hg hq
      have hl2 : (x.drop q.a).length + (y.drop q.b).length + (q.a + q.b) = x.length + y.length := by simp; omega
      have ih2 := dist_bd k (x.drop q.a) (y.drop q.b) (by omega)
      have hc : q.c = 100 ∧ q.a + q.b = 1 := by rcases hq2 with rfl | rfl <;> exact ⟨rfl, rfl⟩
      omega
theorem dist_left (y : List UInt8) : dist sw [] y = 100 * (y.length : Int) := by
  induction y with
  | nil => rfl
  | cons c y ih =>
    have hsw : swSteps sw [] (c :: y) = [] := by
      unfold swSteps
      rw [List.map_eq_nil_iff, List.filter_eq_nil_iff]
      intro s hs
      have := hg.o s hs
      cases hq : s.o with
      | nil => exact absurd hq this
      | cons => simp [List.isPrefixOf]
    rw [dist_eq hg (by simp)]
    simp [steps, hsw, minL, ih]
    omega
theorem dist_right (x : List UInt8) : dist sw x [] = 100 * (x.length : Int) := by
  induction x with
  | nil => rfl
  | cons c x ih =>
    have hsw : swSteps sw (c :: x) [] = [] := by
      unfold swSteps
      rw [List.map_eq_nil_iff, List.filter_eq_nil_iff]
      intro s hs
      have := hg.n s hs
      cases hq : s.n with
      | nil => exact absurd hq this
      | cons => simp [List.isPrefixOf]
    rw [dist_eq hg (by simp)]
    simp [steps, hsw, minL, ih]
    omega
theorem dist_self : ∀ (x : List UInt8), dist sw x x = 0
  | [] => rfl
  | c :: x => by
    have h := dist_le hg (x := c :: x) (y := c :: x) (s := ⟨1, 1, 0⟩) (by simp [steps])
    have ih := dist_self x
    have hb := dist_bd hg _ (c :: x) (c :: x) (Nat.le_refl _)
    simp only [List.drop_succ_cons, List.drop_zero] at h
    omega
theorem steps_sym {x y : List UInt8} {s : St} (h : s ∈ steps sw x y) : (⟨s.b, s.a, s.c⟩ : St) ∈ steps sw y x := by
  rcases step_cases h with ⟨h1, h2, h3, rfl⟩ | ⟨q, h1, h2, h3, rfl⟩ | ⟨h1, h2, rfl⟩ | ⟨h1, rfl⟩ | ⟨h1, rfl⟩
  · have : (⟨1, 1, 0⟩ : St) ∈ (if y ≠ [] ∧ x ≠ [] ∧ y.headD 0 = x.headD 0 then [(⟨1, 1, 0⟩ : St)] else []) := by rw [if_pos ⟨h2, h1, h3.symm⟩]; simp
    unfold steps
    simp only [List.mem_append]
    exact .inl (.inl (.inl (.inl this)))
  · have : (⟨q.n.length, q.o.length, q.c⟩ : St) ∈ swSteps sw y x := List.mem_map.2 ⟨⟨q.n, q.o, q.c⟩, List.mem_filter.2 ⟨hg.sy q h1, by simp [h2, h3]⟩, rfl⟩
    simp [steps, this]
  · simp [steps, h1, h2]
  · simp [steps, h1]
  · simp [steps, h1]
theorem dist_sym : ∀ (k : Nat) (x y : List UInt8), x.length + y.length ≤ k → dist sw x y = dist sw y x
  | 0, x, y, h => by
    have hx : x = [] := List.eq_nil_of_length_eq_zero (by omega)
    have hy : y = [] := List.eq_nil_of_length_eq_zero (by omega)
    subst hx; subst hy; rfl
  | k + 1, x, y, h => by
    by_cases hne : x = [] ∧ y = []
    · obtain ⟨rfl, rfl⟩ := hne; rfl
    · obtain ⟨s, hs, he⟩ := dist_step hg hne
      obtain ⟨q, hq, hqe⟩ := dist_step hg (x := y) (y := x) (fun e => hne ⟨e.2, e.1⟩)
      have hb := step_bd hg hs
      have hb2 := step_bd hg hq
      have l1 := dist_le hg (steps_sym hg hs)
      have l2 := dist_le hg (steps_sym hg hq)
      have e1 := dist_sym k (x.drop s.a) (y.drop s.b) (by simp; omega)
      have e2 := dist_sym k (y.drop q.a) (x.drop q.b) (by simp; omega)
      simp only at l1 l2
      omega
end

/-! ### The script -/
structure Sl where
  at_ : Nat
  o : List UInt8
  n : List UInt8
  c : Int
deriving DecidableEq
def pick (sw : List Sw) (x y : List UInt8) : St := ((steps sw x y).find? fun s => decide (s.c + dist sw (x.drop s.a) (y.drop s.b) = dist sw x y)).getD ⟨0, 1, 100⟩
def scr (sw : List Sw) : Nat → Nat → List UInt8 → List UInt8 → List Sl
  | 0, _, _, _ => []
  | k + 1, i, x, y => if x = [] ∧ y = [] then [] else
    (if x.take (pick sw x y).a = y.take (pick sw x y).b then [] else [⟨i, x.take (pick sw x y).a, y.take (pick sw x y).b, (pick sw x y).c⟩]) ++ scr sw k (i + (pick sw x y).a) (x.drop (pick sw x y).a) (y.drop (pick sw x y).b)
def script (sw : List Sw) (i : Nat) (x y : List UInt8) : List Sl := scr sw (x.length + y.length) i x y
section
variable {sw : List Sw} (hg : GoodSw sw)
include hg
theorem pick_mem {x y : List UInt8} (h : ¬ (x = [] ∧ y = [])) : pick sw x y ∈ steps sw x y ∧ (pick sw x y).c + dist sw (x.drop (pick sw x y).a) (y.drop (pick sw x y).b) = dist sw x y := by
  unfold pick
  obtain ⟨s, hs, he⟩ := dist_step hg h
  cases hq : (steps sw x y).find? fun s => decide (s.c + dist sw (x.drop s.a) (y.drop s.b) = dist sw x y) with
  | none =>
    rw [List.find?_eq_none] at hq
    exact absurd (by simpa using he) (hq s hs)
  | some q =>
    have h1 := List.mem_of_find?_eq_some hq
    have h2 := List.find?_some hq
    exact ⟨h1, by simpa using h2⟩
theorem pick_bd {x y : List UInt8} (h : ¬ (x = [] ∧ y = [])) : (pick sw x y).a ≤ x.length ∧ (pick sw x y).b ≤ y.length ∧ 1 ≤ (pick sw x y).a + (pick sw x y).b ∧ 0 ≤ (pick sw x y).c ∧ (pick sw x y).c ≤ 100 := step_bd hg (pick_mem hg h).1
theorem scr_fuel : ∀ (k i : Nat) (x y : List UInt8), x.length + y.length ≤ k → scr sw k i x y = script sw i x y
  | 0, i, x, y, h => by
    have e : x.length + y.length = 0 := by omega
    unfold script; rw [e]
  | k + 1, i, x, y, h => by
    unfold script
    cases hn : x.length + y.length with
    | zero =>
      have hx : x = [] := List.eq_nil_of_length_eq_zero (by omega)
      have hy : y = [] := List.eq_nil_of_length_eq_zero (by omega)
      subst hx; subst hy
      simp [scr]
    | succ m =>
      simp only [scr]
      split
      · rfl
      · rename_i hne
        have hb := pick_bd hg hne
        have hl : (x.drop (pick sw x y).a).length + (y.drop (pick sw x y).b).length + ((pick sw x y).a + (pick sw x y).b) = x.length + y.length := by simp; omega
        rw [scr_fuel k _ _ _ (by omega), scr_fuel m _ _ _ (by omega)]
omit hg in
theorem script_nil (i : Nat) : script sw i [] [] = [] := rfl
theorem script_eq {i : Nat} {x y : List UInt8} (h : ¬ (x = [] ∧ y = [])) : script sw i x y =
    (if x.take (pick sw x y).a = y.take (pick sw x y).b then [] else [⟨i, x.take (pick sw x y).a, y.take (pick sw x y).b, (pick sw x y).c⟩]) ++ script sw (i + (pick sw x y).a) (x.drop (pick sw x y).a) (y.drop (pick sw x y).b) := by
  conv => lhs; unfold script
  cases hn : x.length + y.length with
  | zero =>
    have hx : x = [] := List.eq_nil_of_length_eq_zero (by omega)
    have hy : y = [] := List.eq_nil_of_length_eq_zero (by omega)
    exact absurd ⟨hx, hy⟩ h
  | succ m =>
    simp only [scr, if_neg h]
    have hb := pick_bd hg h
    have hl : (x.drop (pick sw x y).a).length + (y.drop (pick sw x y).b).length + ((pick sw x y).a + (pick sw x y).b) = x.length + y.length := by simp; omega
    rw [scr_fuel hg m _ _ _ (by omega)]
/-- Where nothing is said, the step is one byte that stays. -/
theorem pick_same {x y : List UInt8} (h : ¬ (x = [] ∧ y = [])) : x.take (pick sw x y).a = y.take (pick sw x y).b ↔ ((pick sw x y).a = 1 ∧ (pick sw x y).b = 1 ∧ x.headD 0 = y.headD 0) := by
  obtain ⟨hm, he⟩ := pick_mem hg h
  have hb := step_bd hg hm
  rcases step_cases hm with ⟨h1, h2, h3, hs⟩ | ⟨q, h1, h2, h3, hs⟩ | ⟨h1, h2, hs⟩ | ⟨h1, hs⟩ | ⟨h1, hs⟩
  · rw [hs]
    cases x with
    | nil => exact absurd rfl h1
    | cons c x => cases y with
      | nil => exact absurd rfl h2
      | cons d y => simpa using h3
  · rw [hs]
    have e1 : x.take q.o.length = q.o := by
      obtain ⟨z, rfl⟩ := List.isPrefixOf_iff_prefix.1 h2; simp
    have e2 : y.take q.n.length = q.n := by
      obtain ⟨z, rfl⟩ := List.isPrefixOf_iff_prefix.1 h3; simp
    simp only [e1, e2]
    constructor
    · intro e; exact absurd e (hg.ne q h1)
    · rintro ⟨l1, l2, l3⟩
      exfalso
      refine hg.ne q h1 ?_
      obtain ⟨z, rfl⟩ := List.isPrefixOf_iff_prefix.1 h2
      obtain ⟨u, rfl⟩ := List.isPrefixOf_iff_prefix.1 h3
      match ho : q.o, hn : q.n, l1, l2 with
      | [c], [d], _, _ =>
        rw [ho, hn] at l3
        simpa using l3
  · rw [hs]
    cases x with
    | nil => exact absurd rfl h1
    | cons c x => cases y with
      | nil => exact absurd rfl h2
      | cons d y => simp
  · rw [hs]
    cases x with
    | nil => exact absurd rfl h1
    | cons c x => simp
  · rw [hs]
    cases y with
    | nil => exact absurd rfl h1
    | cons c x => simp
theorem pick_free {x y : List UInt8} (h : ¬ (x = [] ∧ y = [])) (hs : x.take (pick sw x y).a = y.take (pick sw x y).b) : (pick sw x y).c = 0 := by
  obtain ⟨h1, h2, h3⟩ := (pick_same hg h).1 hs
  obtain ⟨hm, he⟩ := pick_mem hg h
  have hb := step_bd hg hm
  have hx : x ≠ [] := by intro e; subst e; simp at hb; omega
  have hy : y ≠ [] := by intro e; subst e; simp at hb; omega
  have := dist_le hg (x := x) (y := y) (s := ⟨1, 1, 0⟩) (steps_eq hx hy h3)
  rw [h1, h2] at he
  simp only at this
  omega
def costs (l : List Sl) : Int := (l.map (·.c)).foldr (· + ·) 0
omit hg in
theorem costs_cons (s : Sl) (l : List Sl) : costs (s :: l) = s.c + costs l := rfl
theorem script_costs : ∀ (k i : Nat) (x y : List UInt8), x.length + y.length ≤ k → costs (script sw i x y) = dist sw x y
  | 0, i, x, y, h => by
    have hx : x = [] := List.eq_nil_of_length_eq_zero (by omega)
    have hy : y = [] := List.eq_nil_of_length_eq_zero (by omega)
    subst hx; subst hy; rfl
  | k + 1, i, x, y, h => by
    by_cases hne : x = [] ∧ y = []
    · obtain ⟨rfl, rfl⟩ := hne; rfl
    · rw [script_eq hg hne]
      have hb := pick_bd hg hne
      obtain ⟨hm, he⟩ := pick_mem hg hne
      have ih := script_costs k (i + (pick sw x y).a) (x.drop (pick sw x y).a) (y.drop (pick sw x y).b) (by simp; omega)
      split
      · rename_i hs
        have := pick_free hg hne hs
        rw [List.nil_append, ih]; omega
      · rw [List.cons_append, List.nil_append, costs_cons, ih]; exact he
/-- What a script makes of a text, from a place of it on. -/
def madeOf (a : List UInt8) : Nat → List Sl → List UInt8
  | i, [] => a.drop i
  | i, s :: l => (a.drop i).take (s.at_ - i) ++ s.n ++ madeOf a (s.at_ + s.o.length) l
theorem script_made (a : List UInt8) : ∀ (k i p : Nat) (y : List UInt8), (a.drop i).length + y.length ≤ k → p ≤ i → i ≤ a.length → madeOf a p (script sw i (a.drop i) y) = (a.drop p).take (i - p) ++ y
  | 0, i, p, y, h, hp, hi => by
    have hx : a.drop i = [] := List.eq_nil_of_length_eq_zero (by omega)
    have hy : y = [] := List.eq_nil_of_length_eq_zero (by omega)
    have hl : i = a.length := by simp at hx; omega
    subst hy
    rw [hx, script_nil, madeOf, hl, List.append_nil, List.take_of_length_le (by simp)]
  | k + 1, i, p, y, h, hp, hi => by
    by_cases hne : a.drop i = [] ∧ y = []
    · obtain ⟨hx, hy⟩ := hne
      have hl : i = a.length := by simp at hx; omega
      subst hy
      rw [hx, script_nil, madeOf, hl, List.append_nil, List.take_of_length_le (by simp)]
    · rw [script_eq hg hne]
      have hb := pick_bd hg hne
      have hs := pick_same hg hne
      generalize pick sw (a.drop i) y = q at *
      have hqa : q.a ≤ a.length - i := by simpa using hb.1
      have hdd : (a.drop i).drop q.a = a.drop (i + q.a) := by rw [List.drop_drop]
      have hyy : y.take q.b ++ y.drop q.b = y := List.take_append_drop _ _
      have hln : (a.drop (i + q.a)).length + (y.drop q.b).length ≤ k := by simp at h ⊢; omega
      rw [hdd]
      split
      · rename_i hsame
        rw [List.nil_append, script_made a k (i + q.a) p (y.drop q.b) hln (by omega) (by omega)]
        conv => rhs; rw [← hyy, ← hsame]
        rw [← List.append_assoc]
        congr 1
        have : i + q.a - p = (i - p) + q.a := by omega
        rw [this, List.take_add, List.drop_drop]
        congr 3; omega
      · rw [List.cons_append, List.nil_append, madeOf]
        simp only [List.length_take, List.length_drop]
        have e : i + min q.a (a.length - i) = i + q.a := by omega
        rw [e, script_made a k (i + q.a) (i + q.a) (y.drop q.b) hln (by omega) (by omega), Nat.sub_self, List.take_zero, List.nil_append, List.append_assoc, hyy]
end
end Go.Fv.W

/- Lists of mixes: what is wrong with them, in plain words. -/

namespace Go.Fv.W
open Go
set_option linter.unusedSimpArgs false
set_option linter.unusedVariables false
set_option linter.unnecessarySimpa false

def partOk (s : List UInt8) : Bool := decide (1 ≤ s.length) && decide (s.length ≤ 3)
abbrev Key := List UInt8 × List UInt8
def Mx.key (m : Mx) : Key := (m.f, m.t)
def mixE (seen : List Key) (m : Mx) : Int :=
  if partOk m.f = false ∨ partOk m.t = false ∨ m.f = m.t then 2 else if m.c < 0 ∨ 100 < m.c then 3 else if m.key ∈ seen then 6 else 0
def mixEs (seen : List Key) : List Mx → Int
  | [] => 0
  | m :: l => if mixE seen m = 0 then mixEs (seen ++ [m.key]) l else mixE seen m
def mixErr (l : List Mx) : Int := if 200 < l.length then 4 else mixEs [] l
theorem mixE_zero {seen : List Key} {m : Mx} (h : mixE seen m = 0) : partOk m.f = true ∧ partOk m.t = true ∧ m.f ≠ m.t ∧ 0 ≤ m.c ∧ m.c ≤ 100 ∧ m.key ∉ seen := by
  unfold mixE at h
  split at h
  · omega
  · rename_i h1
    split at h
    · omega
    · rename_i h2
      split at h
      · omega
      · rename_i h3
        simp only [not_or, Bool.not_eq_false] at h1
        exact ⟨h1.1, h1.2.1, h1.2.2, by omega, by omega, h3⟩
theorem mixEs_zero : ∀ {l : List Mx} {seen : List Key}, mixEs seen l = 0 → ∀ m, m ∈ l → partOk m.f = true ∧ partOk m.t = true ∧ m.f ≠ m.t ∧ 0 ≤ m.c ∧ m.c ≤ 100
  | x :: l, seen, h, m, hm => by
    simp only [mixEs] at h
    split at h
    · rename_i h1
      cases List.mem_cons.1 hm with
      | inl e => subst e; have := mixE_zero h1; exact ⟨this.1, this.2.1, this.2.2.1, this.2.2.2.1, this.2.2.2.2.1⟩
      | inr e => exact mixEs_zero h m e
    · rename_i h1; exact absurd h h1
theorem mixErr_zero {l : List Mx} (h : mixErr l = 0) : l.length ≤ 200 ∧ ∀ m, m ∈ l → partOk m.f = true ∧ partOk m.t = true ∧ m.f ≠ m.t ∧ 0 ≤ m.c ∧ m.c ≤ 100 := by
  unfold mixErr at h
  split at h
  · omega
  · rename_i h1; exact ⟨by omega, mixEs_zero h⟩
theorem mem_swL {l : List Mx} {s : Sw} : s ∈ swL l ↔ ∃ m, m ∈ l ∧ (s = ⟨m.f, m.t, m.c⟩ ∨ s = ⟨m.t, m.f, m.c⟩) := by
  simp [swL, List.mem_flatMap]
theorem part_ne {s : List UInt8} (h : partOk s = true) : s ≠ [] := by
  rintro rfl; simp [partOk] at h
theorem part_len {s : List UInt8} (h : partOk s = true) : 1 ≤ s.length ∧ s.length ≤ 3 := by simpa [partOk] using h
theorem good_swL {l : List Mx} (h : ∀ m, m ∈ l → partOk m.f = true ∧ partOk m.t = true ∧ m.f ≠ m.t ∧ 0 ≤ m.c ∧ m.c ≤ 100) : GoodSw (swL l) := by
  have key : ∀ s, s ∈ swL l → s.o ≠ [] ∧ s.n ≠ [] ∧ s.o ≠ s.n ∧ 0 ≤ s.c ∧ s.c ≤ 100 ∧ (⟨s.n, s.o, s.c⟩ : Sw) ∈ swL l := by
    intro s hs
    obtain ⟨m, hm, hq⟩ := mem_swL.1 hs
    obtain ⟨h1, h2, h3, h4, h5⟩ := h m hm
    rcases hq with rfl | rfl
    · exact ⟨part_ne h1, part_ne h2, h3, h4, h5, mem_swL.2 ⟨m, hm, .inr rfl⟩⟩
    · exact ⟨part_ne h2, part_ne h1, fun e => h3 e.symm, h4, h5, mem_swL.2 ⟨m, hm, .inl rfl⟩⟩
  exact ⟨fun s hs => (key s hs).1, fun s hs => (key s hs).2.1, fun s hs => (key s hs).2.2.1, fun s hs => (key s hs).2.2.2.1, fun s hs => (key s hs).2.2.2.2.1, fun s hs => (key s hs).2.2.2.2.2⟩
theorem mixEs_app : ∀ (l : List Mx) (m : Mx) (seen : List Key), mixEs seen l = 0 → mixEs seen (l ++ [m]) = mixE (seen ++ l.map Mx.key) m
  | [], m, seen, _ => by
    simp only [List.nil_append, mixEs, List.map_nil, List.append_nil]
    split
    · rename_i h; exact h.symm
    · rfl
  | x :: l, m, seen, h => by
    simp only [mixEs] at h
    split at h
    · rename_i h1
      simp only [List.cons_append, mixEs, if_pos h1, List.map_cons]
      rw [mixEs_app l m _ h]; simp
    · rename_i h1; exact absurd h h1
/-- Those that are right, out of the first. -/
def mixSel (acc : List Mx) : List Mx → List Mx
  | [] => acc
  | m :: l => mixSel (if mixErr (acc ++ [m]) = 0 then acc ++ [m] else acc) l
theorem mixSel_ok : ∀ (l acc : List Mx), mixErr acc = 0 → mixErr (mixSel acc l) = 0
  | [], acc, h => h
  | m :: l, acc, h => by
    simp only [mixSel]
    refine mixSel_ok l _ ?_
    split
    · rename_i h1; exact h1
    · exact h
theorem mixSel_len : ∀ (l acc : List Mx), (mixSel acc l).length ≤ acc.length + l.length
  | [], acc => by simp [mixSel]
  | m :: l, acc => by
    simp only [mixSel]
    refine Nat.le_trans (mixSel_len l _) ?_
    split <;> simp <;> omega
end Go.Fv.W

/- Swaps by the first byte of what is old, in plain words. -/

namespace Go.Fv.W
open Go
set_option linter.unusedSimpArgs false
set_option linter.unusedVariables false
set_option linter.unnecessarySimpa false

def Sw.zero : Sw := ⟨[], [], 0⟩
def Sw.av (s : Sw) : List AV := [.str s.o, .str s.n, .int .i64 s.c]
def sws (l : List Sw) : RowV := .objs 3 (l.map Sw.av)
instance : FNoId Sw.av := ⟨fun _ => rfl⟩
instance {l : List Sw} : RowNoId (sws l) := inferInstanceAs (RowNoId (.objs 3 (l.map Sw.av)))
abbrev KG := List (UInt8 × List Sw)
def kgK (kg : KG) : List UInt8 := kg.map (·.1)
def kgIns (kg : KG) (s : Sw) : KG := match ixOf (kgK kg) (s.o.getD 0 0) with
  | some j => kg.set j (s.o.getD 0 0, (kg.getD j (0, [])).2 ++ [s])
  | none => kg ++ [(s.o.getD 0 0, [s])]
def grp (kg : KG) : List Sw → KG
  | [] => kg
  | s :: l => grp (kgIns kg s) l
theorem grp_snoc : ∀ (l : List Sw) (kg : KG) (s : Sw), grp kg (l ++ [s]) = kgIns (grp kg l) s
  | [], kg, s => rfl
  | x :: l, kg, s => by simp only [List.cons_append, grp]; exact grp_snoc l _ s
/-- What stands under a byte. -/
def under (l : List Sw) (c : UInt8) : List Sw := l.filter fun s => decide (s.o.getD 0 0 = c)
theorem under_snoc (l : List Sw) (s : Sw) (c : UInt8) : under (l ++ [s]) c = if s.o.getD 0 0 = c then under l c ++ [s] else under l c := by
  unfold under
  rw [List.filter_append]
  split <;> simp_all
structure GrpOk (kg : KG) (l : List Sw) : Prop where
  some : ∀ c j, ixOf (kgK kg) c = some j → ∃ h : j < kg.length, kg[j].2 = under l c
  none : ∀ c, ixOf (kgK kg) c = none → under l c = []
  len : kg.length ≤ l.length
theorem kgK_len (kg : KG) : (kgK kg).length = kg.length := by simp [kgK]
theorem ixOf_lt {α : Type} [DecidableEq α] {l : List α} {x : α} {j : Nat} (h : ixOf l x = some j) : j < l.length := (List.getElem?_eq_some_iff.1 (ixOf_some h)).1
theorem ixOf_app {α : Type} [DecidableEq α] (x y : α) : ∀ l : List α, ixOf (l ++ [y]) x = match ixOf l x with | some j => some j | none => if y = x then some l.length else none
  | [] => by simp [ixOf]
  | z :: l => by
    simp only [List.cons_append, ixOf, ixOf_app x y l]
    split
    · rfl
    · cases h : ixOf l x with
      | some j => simp
      | none =>
        simp only [Option.map_none]
        split
        · simp
        · simp
theorem kgK_set (kg : KG) (j : Nat) (c : UInt8) (r : List Sw) (h : (kgK kg)[j]? = some c) : kgK (kg.set j (c, r)) = kgK kg := by
  unfold kgK at *
  rw [List.map_set]
  obtain ⟨hj, he⟩ := List.getElem?_eq_some_iff.1 h
  conv => rhs; rw [← List.set_getElem_self hj]
  rw [he]
theorem grp_ok {kg : KG} {l : List Sw} (h : GrpOk kg l) (s : Sw) : GrpOk (kgIns kg s) (l ++ [s]) := by
  unfold kgIns
  cases hx : ixOf (kgK kg) (s.o.getD 0 0) with
  | some j =>
    obtain ⟨hj, he⟩ := h.some _ _ hx
    have hk := kgK_set kg j (s.o.getD 0 0) ((kg.getD j (0, [])).2 ++ [s]) (ixOf_some hx)
    refine ⟨fun c i hi => ?_, fun c hc => ?_, by simp; have := h.len; omega⟩
    · rw [hk] at hi
      obtain ⟨h1, h2⟩ := h.some c i hi
      refine ⟨by simpa using h1, ?_⟩
      rw [under_snoc, List.getElem_set]
      by_cases e : j = i
      · subst e
        have hc : s.o.getD 0 0 = c := by
          have e1 := ixOf_some hx
          have e2 := ixOf_some hi
          rw [e1] at e2; exact Option.some.inj e2
        rw [if_pos rfl, if_pos hc, getD_lt hj, he, hc]
      · rw [if_neg e, if_neg, h2]
        intro hc
        rw [hc] at hx
        rw [hx] at hi
        exact e (Option.some.inj hi)
    · rw [hk] at hc
      rw [under_snoc, if_neg, h.none c hc]
      intro e; rw [e] at hx; rw [hx] at hc; cases hc
  | none =>
    have hk : kgK (kg ++ [(s.o.getD 0 0, [s])]) = kgK kg ++ [s.o.getD 0 0] := by simp [kgK]
    refine ⟨fun c i hi => ?_, fun c hc => ?_, by simp; exact h.len⟩
    · rw [hk, ixOf_app] at hi
      cases hq : ixOf (kgK kg) c with
      | some j =>
        rw [hq] at hi; cases hi
        obtain ⟨h1, h2⟩ := h.some c _ hq
        refine ⟨by simp; omega, ?_⟩
        rw [under_snoc, if_neg, List.getElem_append_left h1, h2]
        intro e; rw [e, hq] at hx; cases hx
      | none =>
        rw [hq] at hi
        dsimp only at hi
        split at hi
        · rename_i e
          cases hi
          refine ⟨by simp [kgK_len], ?_⟩
          rw [under_snoc, if_pos e, h.none c hq]
          simp [kgK_len]
        · cases hi
    · rw [hk, ixOf_app] at hc
      cases hq : ixOf (kgK kg) c with
      | some j => rw [hq] at hc; cases hc
      | none =>
        rw [hq] at hc
        dsimp only at hc
        split at hc
        · cases hc
        · rename_i e; rw [under_snoc, if_neg e, h.none c hq]
theorem grp_nil : GrpOk [] [] := ⟨fun c j h => by simp [kgK, ixOf] at h, fun c _ => rfl, Nat.le_refl _⟩
theorem grp_all : ∀ (l : List Sw) (kg : KG) (l0 : List Sw), GrpOk kg l0 → GrpOk (grp kg l) (l0 ++ l)
  | [], kg, l0, h => by simpa [grp] using h
  | s :: l, kg, l0, h => by
    have := grp_all l _ _ (grp_ok h s)
    simpa [grp] using this
theorem grp_is (l : List Sw) : GrpOk (grp [] l) l := by simpa using grp_all l [] [] grp_nil
theorem under_len (l : List Sw) (c : UInt8) : (under l c).length ≤ l.length := List.length_filter_le _ _
theorem swL_len (l : List Mx) : (swL l).length = 2 * l.length := by
  induction l with
  | nil => rfl
  | cons m l ih => simp [swL] at ih ⊢; omega
theorem swL_take (l : List Mx) {i : Nat} (h : i < l.length) (z : Mx) : swL (l.take (i + 1)) = swL (l.take i) ++ [⟨(l.getD i z).f, (l.getD i z).t, (l.getD i z).c⟩, ⟨(l.getD i z).t, (l.getD i z).f, (l.getD i z).c⟩] := by
  unfold swL
  rw [List.take_succ_eq_append_getElem h, getD_lt h, List.flatMap_append]
  simp only [List.flatMap_cons, List.flatMap_nil, List.append_nil]
/-- The map, where its rows are owned, and where they are lent. -/
def kB (c : UInt8) : AV := .int .u8 c.toNat
theorem eqKeyB (a b : UInt8) : eqKey (kB a) (kB b) = decide (a = b) := by
  simp only [kB, eqKey, true_and]
  congr 1
  apply propext
  constructor
  · intro h; apply UInt8.toNat_inj.1; omega
  · rintro rfl; rfl
def kgKs (kg : KG) : List AV := (kgK kg).map kB
def kgVs (kg : KG) : List AV := kg.map fun p => .ro (sws p.2)
theorem getV_own (kg : KG) (b : Nat) (c : UInt8) : getV (kgKs kg) (famN b kg.length) (kB c) = match ixOf (kgK kg) c with | some j => some (.own (j + b)) | none => none := by
  unfold getV kgKs
  rw [keyIdx_map eqKeyB]
  cases h : ixOf (kgK kg) c with
  | none => rfl
  | some j =>
    have := ixOf_lt h
    rw [kgK_len] at this
    simp [famN_get this]
theorem getV_ro (kg : KG) (c : UInt8) : getV (kgKs kg) (kgVs kg) (kB c) = match ixOf (kgK kg) c with | some j => some (.ro (sws (kg.getD j (0, [])).2)) | none => none := by
  unfold getV kgKs kgVs
  rw [keyIdx_map eqKeyB]
  cases h : ixOf (kgK kg) c with
  | none => rfl
  | some j =>
    have := ixOf_lt h
    rw [kgK_len] at this
    simp [getD_lt this, this]
end Go.Fv.W

/- The table of distances, in plain words. -/

namespace Go.Fv.W
open Go
set_option linter.unusedSimpArgs false
set_option linter.unusedVariables false
set_option linter.unnecessarySimpa false

def cellD (sw : List Sw) (a b : List UInt8) (k : Nat) : Int := dist sw (a.drop (k / (b.length + 1))) (b.drop (k % (b.length + 1)))
def tab (sw : List Sw) (a b : List UInt8) (p : Nat) : List Int := (List.range ((a.length + 1) * (b.length + 1))).map fun k => if p ≤ k then cellD sw a b k else 0
theorem tab_len (sw : List Sw) (a b : List UInt8) (p : Nat) : (tab sw a b p).length = (a.length + 1) * (b.length + 1) := by simp [tab]
theorem tab_get {sw : List Sw} {a b : List UInt8} {p k : Nat} (h : k < (a.length + 1) * (b.length + 1)) (hp : p ≤ k) : (tab sw a b p).getD k 0 = cellD sw a b k := by
  rw [getD_lt (by rw [tab_len]; exact h)]
  simp [tab, hp]
theorem tab_all (sw : List Sw) (a b : List UInt8) : tab sw a b ((a.length + 1) * (b.length + 1)) = List.replicate ((a.length + 1) * (b.length + 1)) 0 := by
  refine List.ext_getElem (by simp [tab]) fun i h1 h2 => ?_
  simp only [tab, List.length_map, List.length_range] at h1
  simp [tab]; omega
theorem tab_set {sw : List Sw} {a b : List UInt8} {p : Nat} {v : Int} (hv : v = cellD sw a b p) : (tab sw a b (p + 1)).set p v = tab sw a b p := by
  refine List.ext_getElem (by simp [tab]) fun i h1 h2 => ?_
  rw [List.getElem_set]
  split
  · rename_i e; subst e; simp [tab, hv]
  · rename_i e
    simp only [tab, List.getElem_map, List.getElem_range]
    by_cases h : p ≤ i
    · rw [if_pos (by omega), if_pos h]
    · rw [if_neg (by omega), if_neg h]
theorem cellD_at (sw : List Sw) (a b : List UInt8) {i j : Nat} (h : j < b.length + 1) : cellD sw a b (i * (b.length + 1) + j) = dist sw (a.drop i) (b.drop j) := by
  unfold cellD
  have h1 : (i * (b.length + 1) + j) / (b.length + 1) = i := by
    rw [Nat.mul_comm, Nat.mul_add_div (by omega), Nat.div_eq_of_lt h, Nat.add_zero]
  have h2 : (i * (b.length + 1) + j) % (b.length + 1) = j := by
    rw [Nat.mul_comm, Nat.mul_add_mod, Nat.mod_eq_of_lt h]
  rw [h1, h2]

/-- The least of some values, those that fit. -/
def minF (f : Sw → Bool) (g : Sw → Int) : Int → List Sw → Int
  | b, [] => b
  | b, s :: l => minF f g (if f s then min b (g s) else b) l
theorem minF_le (f : Sw → Bool) (g : Sw → Int) : ∀ (l : List Sw) (b : Int), minF f g b l ≤ b ∧ ∀ s, s ∈ l → f s = true → minF f g b l ≤ g s
  | [], b => ⟨Int.le_refl _, fun s h => by cases h⟩
  | x :: l, b => by
    obtain ⟨h1, h2⟩ := minF_le f g l (if f x then min b (g x) else b)
    simp only [minF]
    refine ⟨?_, fun s hs hf => ?_⟩
    · by_cases hf : f x = true
      · rw [if_pos hf] at *; omega
      · rw [if_neg hf] at *; omega
    · cases List.mem_cons.1 hs with
      | inl e => subst e; rw [if_pos hf] at *; omega
      | inr e => exact h2 s e hf
theorem minF_mem (f : Sw → Bool) (g : Sw → Int) : ∀ (l : List Sw) (b : Int), minF f g b l = b ∨ ∃ s, s ∈ l ∧ f s = true ∧ minF f g b l = g s
  | [], b => .inl rfl
  | x :: l, b => by
    simp only [minF]
    rcases minF_mem f g l (if f x then min b (g x) else b) with h | ⟨s, h1, h2, h3⟩
    · split at h
      · rename_i hf
        rcases Int.le_total b (g x) with hle | hle
        · rw [Int.min_eq_left hle] at h; left; rw [if_pos hf, Int.min_eq_left hle]; exact h
        · rw [Int.min_eq_right hle] at h; right; exact ⟨x, .head _, hf, by rw [if_pos hf, Int.min_eq_right hle]; exact h⟩
      · rename_i hf; left; rw [if_neg hf]; exact h
    · exact .inr ⟨s, .tail _ h1, h2, h3⟩
def fits (x y : List UInt8) (s : Sw) : Bool := s.o.isPrefixOf x && s.n.isPrefixOf y
def by_ (sw : List Sw) (x y : List UInt8) (s : Sw) : Int := s.c + dist sw (x.drop s.o.length) (y.drop s.n.length)
theorem pre_head {o x : List UInt8} (ho : o ≠ []) (h : o.isPrefixOf x = true) : o.getD 0 0 = x.getD 0 0 := by
  obtain ⟨z, rfl⟩ := List.isPrefixOf_iff_prefix.1 h
  cases o with
  | nil => exact absurd rfl ho
  | cons c o => rfl
theorem dist_prog {sw : List Sw} (hg : GoodSw sw) {x y : List UInt8} (hx : x ≠ []) (hy : y ≠ []) :
    minF (fits x y) (by_ sw x y) (if x.getD 0 0 = y.getD 0 0 then min (100 + min (min (dist sw (x.drop 1) (y.drop 1)) (dist sw (x.drop 1) y)) (dist sw x (y.drop 1))) (dist sw (x.drop 1) (y.drop 1)) else 100 + min (min (dist sw (x.drop 1) (y.drop 1)) (dist sw (x.drop 1) y)) (dist sw x (y.drop 1))) (under sw (x.getD 0 0)) = dist sw x y := by
  have hd : ∀ l : List UInt8, l.headD 0 = l.getD 0 0 := fun l => by cases l <;> rfl
  have h11 := dist_le hg (x := x) (y := y) (s := ⟨1, 1, 100⟩) (by simp [steps, hx, hy])
  have h10 := dist_le hg (x := x) (y := y) (s := ⟨1, 0, 100⟩) (by simp [steps, hx])
  have h01 := dist_le hg (x := x) (y := y) (s := ⟨0, 1, 100⟩) (by simp [steps, hy])
  simp only [List.drop_zero] at h10 h01 h11
  have hsw : ∀ s, s ∈ sw → fits x y s = true → (⟨s.o.length, s.n.length, s.c⟩ : St) ∈ steps sw x y := by
    intro s hs hf
    simp only [fits] at hf
    have : (⟨s.o.length, s.n.length, s.c⟩ : St) ∈ swSteps sw x y := List.mem_map.2 ⟨s, List.mem_filter.2 ⟨hs, hf⟩, rfl⟩
    simp [steps, this]
  generalize hb0 : (if x.getD 0 0 = y.getD 0 0 then min (100 + min (min (dist sw (x.drop 1) (y.drop 1)) (dist sw (x.drop 1) y)) (dist sw x (y.drop 1))) (dist sw (x.drop 1) (y.drop 1)) else 100 + min (min (dist sw (x.drop 1) (y.drop 1)) (dist sw (x.drop 1) y)) (dist sw x (y.drop 1))) = b0
  obtain ⟨m1, m2⟩ := minF_le (fits x y) (by_ sw x y) (under sw (x.getD 0 0)) b0
  have hge : dist sw x y ≤ b0 := by
    rw [← hb0]
    split
    · rename_i e
      have := dist_le hg (steps_eq (sw := sw) hx hy (by rw [hd, hd]; exact e))
      simp only at this
      omega
    · omega
  have hle : minF (fits x y) (by_ sw x y) b0 (under sw (x.getD 0 0)) ≤ dist sw x y := by
    obtain ⟨s, hs, he⟩ := dist_step hg (x := x) (y := y) (fun e => hx e.1)
    rcases step_cases hs with ⟨h1, h2, h3, rfl⟩ | ⟨q, h1, h2, h3, rfl⟩ | ⟨h1, h2, rfl⟩ | ⟨h1, rfl⟩ | ⟨h1, rfl⟩
    · rw [hd, hd] at h3
      rw [if_pos h3] at hb0
      simp only at he
      omega
    · have hq : q ∈ under sw (x.getD 0 0) := List.mem_filter.2 ⟨h1, by simpa using pre_head (hg.o q h1) h2⟩
      have := m2 q hq (by simp [fits, h2, h3])
      simp only [by_] at this
      simp only at he
      omega
    · simp only at he
      have : b0 ≤ 100 + dist sw (x.drop 1) (y.drop 1) := by rw [← hb0]; split <;> omega
      omega
    · simp only [List.drop_zero] at he
      have : b0 ≤ 100 + dist sw (x.drop 1) y := by rw [← hb0]; split <;> omega
      omega
    · simp only [List.drop_zero] at he
      have : b0 ≤ 100 + dist sw x (y.drop 1) := by rw [← hb0]; split <;> omega
      omega
  rcases minF_mem (fits x y) (by_ sw x y) (under sw (x.getD 0 0)) b0 with h | ⟨s, h1, h2, h3⟩
  · omega
  · have := dist_le hg (hsw s (List.mem_filter.1 h1).1 h2)
    simp only [by_] at h3
    simp only at this
    omega
end Go.Fv.W

/- The first step of a script, in plain words. -/

namespace Go.Fv.W
open Go
set_option linter.unusedSimpArgs false
set_option linter.unusedVariables false
set_option linter.unnecessarySimpa false

def okS (sw : List Sw) (x y : List UInt8) (s : Sw) : Bool := fits x y s && decide (by_ sw x y s = dist sw x y)
theorem find_under {sw : List Sw} (hg : GoodSw sw) (x y : List UInt8) : (under sw (x.getD 0 0)).find? (okS sw x y) = sw.find? (okS sw x y) := by
  have key : ∀ l : List Sw, (∀ s, s ∈ l → s.o ≠ []) → (l.filter fun s => decide (s.o.getD 0 0 = x.getD 0 0)).find? (okS sw x y) = l.find? (okS sw x y) := by
    intro l
    induction l with
    | nil => intro _; rfl
    | cons s l ih =>
      intro h
      have ih' := ih fun q hq => h q (.tail _ hq)
      by_cases he : s.o.getD 0 0 = x.getD 0 0
      · rw [List.filter_cons_of_pos (by simpa using he), List.find?_cons, List.find?_cons, ih']
      · rw [List.filter_cons_of_neg (by simpa using he), List.find?_cons, ih']
        have : okS sw x y s = false := by
          cases hq : okS sw x y s with
          | false => rfl
          | true =>
            simp only [okS, fits, Bool.and_eq_true] at hq
            exact absurd (pre_head (h s (.head _)) hq.1.1) he
        rw [this]
  exact key sw fun s hs => hg.o s hs
theorem find_sw {sw : List Sw} (x y : List UInt8) : (swSteps sw x y).find? (fun s => decide (s.c + dist sw (x.drop s.a) (y.drop s.b) = dist sw x y)) = (sw.find? (okS sw x y)).map fun s => ⟨s.o.length, s.n.length, s.c⟩ := by
  unfold swSteps
  rw [List.find?_map]
  congr 1
  rw [List.find?_filter]
  congr 1
  funext s
  show decide (fits x y s = true ∧ decide (by_ sw x y s = dist sw x y) = true) = okS sw x y s
  unfold okS
  cases fits x y s <;> simp
theorem sw_none {sw : List Sw} (hg : GoodSw sw) {x y : List UInt8} (h : x = [] ∨ y = []) : sw.find? (okS sw x y) = none := by
  rw [List.find?_eq_none]
  intro s hs hq
  simp only [okS, fits, Bool.and_eq_true] at hq
  rcases h with rfl | rfl
  · have := prefix_len hq.1.1
    exact hg.o s hs (List.eq_nil_of_length_eq_zero (by simpa using this))
  · have := prefix_len hq.1.2
    exact hg.n s hs (List.eq_nil_of_length_eq_zero (by simpa using this))
/-- The step that the program takes. -/
theorem pick_eq {sw : List Sw} (hg : GoodSw sw) {x y : List UInt8} (hx : x ≠ []) (hy : y ≠ []) : pick sw x y =
    if x.getD 0 0 = y.getD 0 0 ∧ dist sw (x.drop 1) (y.drop 1) = dist sw x y then ⟨1, 1, 0⟩
    else match (under sw (x.getD 0 0)).find? (okS sw x y) with
      | some s => ⟨s.o.length, s.n.length, s.c⟩
      | none => if 100 + dist sw (x.drop 1) (y.drop 1) = dist sw x y then ⟨1, 1, 100⟩ else if 100 + dist sw (x.drop 1) y = dist sw x y then ⟨1, 0, 100⟩ else ⟨0, 1, 100⟩ := by
  have hd : ∀ l : List UInt8, l.headD 0 = l.getD 0 0 := fun l => by cases l <;> rfl
  rw [find_under hg]
  unfold pick steps
  simp only [List.find?_append, find_sw, hd, hx, hy, ne_eq, not_false_eq_true, true_and, and_self, if_true]
  have e0 : ∀ (c : Bool) (s : St), (if c = true then [s] else []).find? (fun s => decide (s.c + dist sw (x.drop s.a) (y.drop s.b) = dist sw x y)) = if c = true ∧ s.c + dist sw (x.drop s.a) (y.drop s.b) = dist sw x y then some s else none := by
    intro c s
    cases c <;> simp [List.find?_cons]
    split <;> simp_all
  have e1 : ∀ s : St, [s].find? (fun s => decide (s.c + dist sw (x.drop s.a) (y.drop s.b) = dist sw x y)) = if s.c + dist sw (x.drop s.a) (y.drop s.b) = dist sw x y then some s else none := by
    intro s
    rw [List.find?_cons]
    split <;> simp_all
  have e2 : (if x.getD 0 0 = y.getD 0 0 then [(⟨1, 1, 0⟩ : St)] else []).find? (fun s => decide (s.c + dist sw (x.drop s.a) (y.drop s.b) = dist sw x y)) = if x.getD 0 0 = y.getD 0 0 ∧ dist sw (x.drop 1) (y.drop 1) = dist sw x y then some ⟨1, 1, 0⟩ else none := by
    by_cases h1 : x.getD 0 0 = y.getD 0 0
    · rw [if_pos h1, e1]; simp only [h1, true_and, Int.zero_add]
    · rw [if_neg h1, if_neg (fun h => h1 h.1)]; rfl
  rw [e2, e1, e1, e1]
  simp only [List.drop_zero]
  generalize dist sw (x.drop 1) (y.drop 1) = d11
  generalize dist sw (x.drop 1) y = d10
  generalize dist sw x (y.drop 1) = d01
  generalize dist sw x y = d
  generalize sw.find? _ = o
  by_cases h1 : x.getD 0 0 = y.getD 0 0 ∧ d11 = d
  · simp only [if_pos h1]; rfl
  · simp only [if_neg h1]
    cases o with
    | some s => rfl
    | none =>
      by_cases h3 : 100 + d11 = d
      · simp only [if_pos h3]; rfl
      · by_cases h4 : 100 + d10 = d
        · simp only [if_neg h3, if_pos h4]; rfl
        · by_cases h5 : 100 + d01 = d
          · simp only [if_neg h3, if_neg h4, if_pos h5]; rfl
          · simp only [if_neg h3, if_neg h4, if_neg h5]; rfl
theorem pick_left {sw : List Sw} (hg : GoodSw sw) {x : List UInt8} (hx : x ≠ []) : pick sw x [] = ⟨1, 0, 100⟩ := by
  obtain ⟨hm, _⟩ := pick_mem hg (x := x) (y := []) (fun e => hx e.1)
  rcases step_cases hm with ⟨_, h2, _⟩ | ⟨q, h1, _, h3, _⟩ | ⟨_, h2, _⟩ | ⟨_, h⟩ | ⟨h1, _⟩
  · exact absurd rfl h2
  · exact absurd (List.eq_nil_of_length_eq_zero (by simpa using prefix_len h3)) (hg.n q h1)
  · exact absurd rfl h2
  · exact h
  · exact absurd rfl h1
theorem pick_right {sw : List Sw} (hg : GoodSw sw) {y : List UInt8} (hy : y ≠ []) : pick sw [] y = ⟨0, 1, 100⟩ := by
  obtain ⟨hm, _⟩ := pick_mem hg (x := []) (y := y) (fun e => hy e.2)
  rcases step_cases hm with ⟨h2, _⟩ | ⟨q, h1, h3, _⟩ | ⟨h2, _⟩ | ⟨h2, _⟩ | ⟨_, h⟩
  · exact absurd rfl h2
  · exact absurd (List.eq_nil_of_length_eq_zero (by simpa using prefix_len h3)) (hg.o q h1)
  · exact absurd rfl h2
  · exact absurd rfl h2
  · exact h
end Go.Fv.W
