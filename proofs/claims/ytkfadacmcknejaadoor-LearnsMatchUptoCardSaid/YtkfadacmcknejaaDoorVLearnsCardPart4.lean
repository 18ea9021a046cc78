/-
  A part of the proof of the claim: walks over the program's functions and the plain laws that these need. No condition of its own.
-/
import Derived.Test.YtkfadacmcknejaaDoorFvPart9
import Derived.Test.YtkfadacmcknejaaDoorFvPart10
import Derived.Test.YtkfadacmcknejaaDoorVLearnsCardPart1
import Derived.Test.YtkfadacmcknejaaDoorVLearnsCardPart2
/- Distances of words: what the table, the script and their references compute, in plain words. -/
namespace Go.Fv.V
open Go
set_option linter.unusedSimpArgs false
set_option linter.unusedVariables false
set_option linter.unnecessarySimpa false

structure Mx where
  f : List UInt8
  t : List UInt8
  c : Int
deriving DecidableEq
/-- A mix in one direction. -/
structure Sw where
  o : List UInt8
  n : List UInt8
  c : Int
deriving DecidableEq
structure St where
  a : Nat
  b : Nat
  c : Int
deriving DecidableEq
def swL (l : List Mx) : List Sw := l.flatMap fun m => [⟨m.f, m.t, m.c⟩, ⟨m.t, m.f, m.c⟩]
structure GoodSw (sw : List Sw) : Prop where
  o : ∀ s, s ∈ sw → s.o ≠ []
  n : ∀ s, s ∈ sw → s.n ≠ []
  ne : ∀ s, s ∈ sw → s.o ≠ s.n
  c0 : ∀ s, s ∈ sw → 0 ≤ s.c
  c1 : ∀ s, s ∈ sw → s.c ≤ 100
  sy : ∀ s, s ∈ sw → (⟨s.n, s.o, s.c⟩ : Sw) ∈ sw

def swSteps (sw : List Sw) (x y : List UInt8) : List St := (sw.filter fun s => s.o.isPrefixOf x && s.n.isPrefixOf y).map fun s => ⟨s.o.length, s.n.length, s.c⟩
/-- The steps at two places, in their order. -/
def steps (sw : List Sw) (x y : List UInt8) : List St :=
  (if x ≠ [] ∧ y ≠ [] ∧ x.headD 0 = y.headD 0 then [⟨1, 1, 0⟩] else []) ++ swSteps sw x y ++ (if x ≠ [] ∧ y ≠ [] then [⟨1, 1, 100⟩] else []) ++ (if x ≠ [] then [⟨1, 0, 100⟩] else []) ++ (if y ≠ [] then [⟨0, 1, 100⟩] else [])
def minL : List Int → Int
  | [] => 0
  | [x] => x
  | x :: y :: l => min x (minL (y :: l))
theorem minL_le : ∀ (l : List Int) (v : Int), v ∈ l → minL l ≤ v
  | [x], v, h => by simp at h; subst h; exact Int.le_refl _
  | x :: y :: l, v, h => by
    simp only [minL]
    cases List.mem_cons.1 h with
    | inl e => subst e; omega
    | inr e => have := minL_le (y :: l) v e; omega
theorem minL_mem : ∀ (l : List Int), l ≠ [] → minL l ∈ l
  | [x], _ => by simp [minL]
  | x :: y :: l, _ => by
    simp only [minL]
    have := minL_mem (y :: l) (by simp)
    rcases Int.le_total x (minL (y :: l)) with h | h
    · rw [Int.min_eq_left h]; exact .head _
    · rw [Int.min_eq_right h]; exact .tail _ this
def distF (sw : List Sw) : Nat → List UInt8 → List UInt8 → Int
  | 0, _, _ => 0
  | k + 1, x, y => minL ((steps sw x y).map fun s => s.c + distF sw k (x.drop s.a) (y.drop s.b))
def dist (sw : List Sw) (x y : List UInt8) : Int := distF sw (x.length + y.length) x y

section
variable {sw : List Sw} (hg : GoodSw sw)
theorem step_cases {x y : List UInt8} {s : St} (h : s ∈ steps sw x y) :
    (x ≠ [] ∧ y ≠ [] ∧ x.headD 0 = y.headD 0 ∧ s = ⟨1, 1, 0⟩) ∨ (∃ q, q ∈ sw ∧ q.o.isPrefixOf x = true ∧ q.n.isPrefixOf y = true ∧ s = ⟨q.o.length, q.n.length, q.c⟩) ∨ (x ≠ [] ∧ y ≠ [] ∧ s = ⟨1, 1, 100⟩) ∨ (x ≠ [] ∧ s = ⟨1, 0, 100⟩) ∨ (y ≠ [] ∧ s = ⟨0, 1, 100⟩) := by
  simp only [steps, swSteps, List.mem_append, List.mem_map, List.mem_filter, Bool.and_eq_true] at h
  rcases h with (((h | ⟨q, ⟨h1, h2, h3⟩, rfl⟩) | h) | h) | h
  · split at h
    · rename_i hc; simp at h; exact .inl ⟨hc.1, hc.2.1, hc.2.2, h⟩
    · simp at h
  · exact .inr (.inl ⟨q, h1, h2, h3, rfl⟩)
  · split at h
    · rename_i hc; simp at h; exact .inr (.inr (.inl ⟨hc.1, hc.2, h⟩))
    · simp at h
  · split at h
    · rename_i hc; simp at h; exact .inr (.inr (.inr (.inl ⟨hc, h⟩)))
    · simp at h
  · split at h
    · rename_i hc; simp at h; exact .inr (.inr (.inr (.inr ⟨hc, h⟩)))
    · simp at h
theorem pos_of_ne {x : List UInt8} (h : x ≠ []) : 1 ≤ x.length := by cases x with
  | nil => exact absurd rfl h
  | cons => simp
theorem prefix_len {o x : List UInt8} (h : o.isPrefixOf x = true) : o.length ≤ x.length := (List.isPrefixOf_iff_prefix.1 h).length_le
include hg
theorem step_bd {x y : List UInt8} {s : St} (h : s ∈ steps sw x y) : s.a ≤ x.length ∧ s.b ≤ y.length ∧ 1 ≤ s.a + s.b ∧ 0 ≤ s.c ∧ s.c ≤ 100 := by
  rcases step_cases h with ⟨h1, h2, _, rfl⟩ | ⟨q, h1, h2, h3, rfl⟩ | ⟨h1, h2, rfl⟩ | ⟨h1, rfl⟩ | ⟨h1, rfl⟩
  · exact ⟨pos_of_ne h1, pos_of_ne h2, by simp, by simp, by simp⟩
  · have := pos_of_ne (hg.o q h1)
    exact ⟨prefix_len h2, prefix_len h3, by show 1 ≤ q.o.length + q.n.length; omega, hg.c0 q h1, hg.c1 q h1⟩
  · exact ⟨pos_of_ne h1, pos_of_ne h2, by simp, by simp, by simp⟩
  · exact ⟨pos_of_ne h1, by simp, by simp, by simp, by simp⟩
  · exact ⟨by simp, pos_of_ne h1, by simp, by simp, by simp⟩
omit hg in
theorem steps_nil (ho : ∀ s, s ∈ sw → s.o ≠ []) : steps sw [] [] = [] := by
  have : swSteps sw [] [] = [] := by
    unfold swSteps
    rw [List.map_eq_nil_iff, List.filter_eq_nil_iff]
    intro s hs
    have := ho s hs
    cases hq : s.o with
    | nil => exact absurd hq this
    | cons => simp [List.isPrefixOf]
  simp [steps, this]
theorem distF_fuel : ∀ (k : Nat) (x y : List UInt8), x.length + y.length ≤ k → distF sw k x y = dist sw x y
  | 0, x, y, h => by
    have e : x.length + y.length = 0 := by omega
    unfold dist; rw [e]
  | k + 1, x, y, h => by
    unfold dist
    cases hn : x.length + y.length with
    | zero =>
      have hx : x = [] := List.eq_nil_of_length_eq_zero (by omega)
      have hy : y = [] := List.eq_nil_of_length_eq_zero (by omega)
      subst hx; subst hy
      simp [distF, steps_nil hg.o, minL]
    | succ m =>
      simp only [distF]
      congr 1
      refine List.map_congr_left fun s hs => ?_
      have hb := step_bd hg hs
      have hl : (x.drop s.a).length + (y.drop s.b).length + (s.a + s.b) = x.length + y.length := by simp; omega
      rw [distF_fuel k _ _ (by omega), distF_fuel m _ _ (by omega)]
theorem dist_eq {x y : List UInt8} (h : ¬ (x = [] ∧ y = [])) : dist sw x y = minL ((steps sw x y).map fun s => s.c + dist sw (x.drop s.a) (y.drop s.b)) := by
  conv => lhs; unfold dist
  cases hn : x.length + y.length with
  | zero =>
    have hx : x = [] := List.eq_nil_of_length_eq_zero (by omega)
    have hy : y = [] := List.eq_nil_of_length_eq_zero (by omega)
    exact absurd ⟨hx, hy⟩ h
  | succ m =>
    simp only [distF]
    congr 1
    refine List.map_congr_left fun s hs => ?_
    have hb := step_bd hg hs
    have hl : (x.drop s.a).length + (y.drop s.b).length + (s.a + s.b) = x.length + y.length := by simp; omega
    rw [distF_fuel hg m _ _ (by omega)]
omit hg in
theorem dist_nil : dist sw [] [] = 0 := rfl
omit hg in
theorem steps_ne {x y : List UInt8} (h : ¬ (x = [] ∧ y = [])) : steps sw x y ≠ [] := by
  intro e
  by_cases hx : x = []
  · have hy : y ≠ [] := fun e => h ⟨hx, e⟩
    have : (⟨0, 1, 100⟩ : St) ∈ steps sw x y := by simp [steps, hy]
    rw [e] at this; simp at this
  · have : (⟨1, 0, 100⟩ : St) ∈ steps sw x y := by simp [steps, hx]
    rw [e] at this; simp at this
omit hg in
theorem steps_eq {x y : List UInt8} (h1 : x ≠ []) (h2 : y ≠ []) (h3 : x.headD 0 = y.headD 0) : (⟨1, 1, 0⟩ : St) ∈ steps sw x y := by
  have : (⟨1, 1, 0⟩ : St) ∈ (if x ≠ [] ∧ y ≠ [] ∧ x.headD 0 = y.headD 0 then [(⟨1, 1, 0⟩ : St)] else []) := by rw [if_pos ⟨h1, h2, h3⟩]; simp
  unfold steps
  simp only [List.mem_append]
  exact .inl (.inl (.inl (.inl this)))
/-- The distance is not more than by any step. -/
theorem dist_le {x y : List UInt8} {s : St} (h : s ∈ steps sw x y) : dist sw x y ≤ s.c + dist sw (x.drop s.a) (y.drop s.b) := by
  have hne : ¬ (x = [] ∧ y = []) := by
    rintro ⟨rfl, rfl⟩
    rw [steps_nil hg.o] at h; simp at h
  rw [dist_eq hg hne]
  exact minL_le _ _ (List.mem_map.2 ⟨s, h, rfl⟩)
theorem dist_step {x y : List UInt8} (h : ¬ (x = [] ∧ y = [])) : ∃ s, s ∈ steps sw x y ∧ s.c + dist sw (x.drop s.a) (y.drop s.b) = dist sw x y := by
  have := minL_mem ((steps sw x y).map fun s => s.c + dist sw (x.drop s.a) (y.drop s.b)) (by simpa using steps_ne h)
  rw [← dist_eq hg h] at this
  obtain ⟨s, hs, he⟩ := List.mem_map.1 this
  exact ⟨s, hs, he⟩
theorem dist_bd : ∀ (k : Nat) (x y : List UInt8), x.length + y.length ≤ k → 0 ≤ dist sw x y ∧ dist sw x y ≤ 100 * (x.length + y.length : Nat)
  | 0, x, y, h => by
    have hx : x = [] := List.eq_nil_of_length_eq_zero (by omega)
    have hy : y = [] := List.eq_nil_of_length_eq_zero (by omega)
    subst hx; subst hy
    simp [dist_nil]
  | k + 1, x, y, h => by
    by_cases hne : x = [] ∧ y = []
    · obtain ⟨rfl, rfl⟩ := hne; simp [dist_nil]
    · obtain ⟨s, hs, he⟩ := dist_step hg hne
      have hb := step_bd hg hs
      have hl : (x.drop s.a).length + (y.drop s.b).length + (s.a + s.b) = x.length + y.length := by simp; omega
      have ih := dist_bd k (x.drop s.a) (y.drop s.b) (by omega)
      refine ⟨by omega, ?_⟩
      have h1 : (∃ s, s ∈ steps sw x y ∧ (s = ⟨1, 0, 100⟩ ∨ s = ⟨0, 1, 100⟩)) := by
        by_cases hx : x = []
        · have hy : y ≠ [] := fun e => hne ⟨hx, e⟩
          exact ⟨⟨0, 1, 100⟩, by simp [steps, hy], .inr rfl⟩
        · exact ⟨⟨1, 0, 100⟩, by simp [steps, hx], .inl rfl⟩
      obtain ⟨q, hq, hq2⟩ := h1
      have hle := dist_le hg hq
      have hb2 := step_bd hg hq
      have hl2 : (x.drop q.a).length + (y.drop q.b).length + (q.a + q.b) = x.length + y.length := by simp; omega
      have ih2 := dist_bd k (x.drop q.a) (y.drop q.b) (by omega)
      have hc : q.c = 100 ∧ q.a + q.b = 1 := by rcases hq2 with rfl | rfl <;> exact ⟨rfl, rfl⟩
      omega
theorem dist_left (y : List UInt8) : dist sw [] y = 100 * (y.length : Int) := by
  induction y with
  | nil => rfl
  | cons c y ih =>
    have hsw : swSteps sw [] (c :: y) = [] := by
      unfold swSteps
      rw [List.map_eq_nil_iff, List.filter_eq_nil_iff]
      intro s hs
      have := hg.o s hs
      cases hq : s.o with
      | nil => exact absurd hq this
      | cons => simp [List.isPrefixOf]
    rw [dist_eq hg (by simp)]
    simp [steps, hsw, minL, ih]
    omega
theorem dist_right (x : List UInt8) : dist sw x [] = 100 * (x.length : Int) := by
  induction x with
  | nil => rfl
  | cons c x ih =>
    have hsw : swSteps sw (c :: x) [] = [] := by
      unfold swSteps
      rw [List.map_eq_nil_iff, List.filter_eq_nil_iff]
      intro s hs
      have := hg.n s hs
      cases hq : s.n with
      | nil => exact absurd hq this
      | cons => simp [List.isPrefixOf]
    rw [dist_eq hg (by simp)]
    simp [steps, hsw, minL, ih]
    omega
end

/-! ### The script -/
structure Sl where
  at_ : Nat
  o : List UInt8
  n : List UInt8
  c : Int
deriving DecidableEq
def pick (sw : List Sw) (x y : List UInt8) : St := ((steps sw x y).find? fun s => decide (s.c + dist sw (x.drop s.a) (y.drop s.b) = dist sw x y)).getD ⟨0, 1, 100⟩
def scr (sw : List Sw) : Nat → Nat → List UInt8 → List UInt8 → List Sl
  | 0, _, _, _ => []
  | k + 1, i, x, y => if x = [] ∧ y = [] then [] else
    (if x.take (pick sw x y).a = y.take (pick sw x y).b then [] else [⟨i, x.take (pick sw x y).a, y.take (pick sw x y).b, (pick sw x y).c⟩]) ++ scr sw k (i + (pick sw x y).a) (x.drop (pick sw x y).a) (y.drop (pick sw x y).b)
def script (sw : List Sw) (i : Nat) (x y : List UInt8) : List Sl := scr sw (x.length + y.length) i x y
section
variable {sw : List Sw} (hg : GoodSw sw)
include hg
theorem pick_mem {x y : List UInt8} (h : ¬ (x = [] ∧ y = [])) : pick sw x y ∈ steps sw x y ∧ (pick sw x y).c + dist sw (x.drop (pick sw x y).a) (y.drop (pick sw x y).b) = dist sw x y := by
  unfold pick
  obtain ⟨s, hs, he⟩ := dist_step hg h
  cases hq : (steps sw x y).find? fun s => decide (s.c + dist sw (x.drop s.a) (y.drop s.b) = dist sw x y) with
  | none =>
    rw [List.find?_eq_none] at hq
    exact absurd (by simpa using he) (hq s hs)
  | some q =>
    have h1 := List.mem_of_find?_eq_some hq
    have h2 := List.find?_some hq
    exact ⟨h1, by simpa using h2⟩
theorem pick_bd {x y : List UInt8} (h : ¬ (x = [] ∧ y = [])) : (pick sw x y).a ≤ x.length ∧ (pick sw x y).b ≤ y.length ∧ 1 ≤ (pick sw x y).a + (pick sw x y).b ∧ 0 ≤ (pick sw x y).c ∧ (pick sw x y).c ≤ 100 := step_bd hg (pick_mem hg h).1
theorem scr_fuel : ∀ (k i : Nat) (x y : List UInt8), x.length + y.length ≤ k → scr sw k i x y = script sw i x y
  | 0, i, x, y, h => by
    have e : x.length + y.length = 0 := by omega
    unfold script; rw [e]
  | k + 1, i, x, y, h => by
    unfold script
    cases hn : x.length + y.length with
    | zero =>
      have hx : x = [] := List.eq_nil_of_length_eq_zero (by omega)
      have hy : y = [] := List.eq_nil_of_length_eq_zero (by omega)
      subst hx; subst hy
      simp [scr]
    | succ m =>
      simp only [scr]
      split
      · rfl
      · rename_i hne
        have hb := pick_bd hg hne
        have hl : (x.drop (pick sw x y).a).length + (y.drop (pick sw x y).b).length + ((pick sw x y).a + (pick sw x y).b) = x.length + y.length := by simp; omega
        rw [scr_fuel k _ _ _ (by omega), scr_fuel m _ _ _ (by omega)]
omit hg in
theorem script_nil (i : Nat) : script sw i [] [] = [] := rfl
theorem script_eq {i : Nat} {x y : List UInt8} (h : ¬ (x = [] ∧ y = [])) : script sw i x y =
    (if x.take (pick sw x y).a = y.take (pick sw x y).b then [] else [⟨i, x.take (pick sw x y).a, y.take (pick sw x y).b, (pick sw x y).c⟩]) ++ script sw (i + (pick sw x y).a) (x.drop (pick sw x y).a) (y.drop (pick sw x y).b) := by
  conv => lhs; unfold script
  cases hn : x.length + y.length with
  | zero =>
    have hx : x = [] := List.eq_nil_of_length_eq_zero (by omega)
    have hy : y = [] := List.eq_nil_of_length_eq_zero (by omega)
    exact absurd ⟨hx, hy⟩ h
  | succ m =>
    simp only [scr, if_neg h]
    have hb := pick_bd hg h
    have hl : (x.drop (pick sw x y).a).length + (y.drop (pick sw x y).b).length + ((pick sw x y).a + (pick sw x y).b) = x.length + y.length := by simp; omega
    rw [scr_fuel hg m _ _ _ (by omega)]
end
end Go.Fv.V

/- Lists of mixes: what is wrong with them, in plain words. -/
namespace Go.Fv.V
open Go
set_option linter.unusedSimpArgs false
set_option linter.unusedVariables false
set_option linter.unnecessarySimpa false

abbrev Key := List UInt8 × List UInt8
def Mx.key (m : Mx) : Key := (m.f, m.t)
end Go.Fv.V

/- Swaps by the first byte of what is old, in plain words. -/
namespace Go.Fv.V
open Go
set_option linter.unusedSimpArgs false
set_option linter.unusedVariables false
set_option linter.unnecessarySimpa false

def Sw.zero : Sw := ⟨[], [], 0⟩
def Sw.av (s : Sw) : List AV := [.str s.o, .str s.n, .int .i64 s.c]
def sws (l : List Sw) : RowV := .objs 3 (l.map Sw.av)
instance : FNoId Sw.av := ⟨fun _ => rfl⟩
instance {l : List Sw} : RowNoId (sws l) := inferInstanceAs (RowNoId (.objs 3 (l.map Sw.av)))
/-- What stands under a byte. -/
def under (l : List Sw) (c : UInt8) : List Sw := l.filter fun s => decide (s.o.getD 0 0 = c)
theorem swL_len (l : List Mx) : (swL l).length = 2 * l.length := by
  induction l with
  | nil => rfl
  | cons m l ih => simp [swL] at ih ⊢; omega
end Go.Fv.V

/- The table of distances, in plain words. -/
namespace Go.Fv.V
open Go
set_option linter.unusedSimpArgs false
set_option linter.unusedVariables false
set_option linter.unnecessarySimpa false

def cellD (sw : List Sw) (a b : List UInt8) (k : Nat) : Int := dist sw (a.drop (k / (b.length + 1))) (b.drop (k % (b.length + 1)))
def tab (sw : List Sw) (a b : List UInt8) (p : Nat) : List Int := (List.range ((a.length + 1) * (b.length + 1))).map fun k => if p ≤ k then cellD sw a b k else 0
theorem tab_len (sw : List Sw) (a b : List UInt8) (p : Nat) : (tab sw a b p).length = (a.length + 1) * (b.length + 1) := by simp [tab]
theorem tab_get {sw : List Sw} {a b : List UInt8} {p k : Nat} (h : k < (a.length + 1) * (b.length + 1)) (hp : p ≤ k) : (tab sw a b p).getD k 0 = cellD sw a b k := by
  rw [getD_lt (by rw [tab_len]; exact h)]
  simp [tab, hp]
theorem tab_all (sw : List Sw) (a b : List UInt8) : tab sw a b ((a.length + 1) * (b.length + 1)) = List.replicate ((a.length + 1) * (b.length + 1)) 0 := by
  refine List.ext_getElem (by simp [tab]) fun i h1 h2 => ?_
  simp only [tab, List.length_map, List.length_range] at h1
  simp [tab]; omega
theorem tab_set {sw : List Sw} {a b : List UInt8} {p : Nat} {v : Int} (hv : v = cellD sw a b p) : (tab sw a b (p + 1)).set p v = tab sw a b p := by
  refine List.ext_getElem (by simp [tab]) fun i h1 h2 => ?_
  rw [List.getElem_set]
  split
  · rename_i e; subst e; simp [tab, hv]
  · rename_i e
    simp only [tab, List.getElem_map, List.getElem_range]
    by_cases h : p ≤ i
    · rw [if_pos (by omega), if_pos h]
    · rw [if_neg (by omega), if_neg h]
theorem cellD_at (sw : List Sw) (a b : List UInt8) {i j : Nat} (h : j < b.length + 1) : cellD sw a b (i * (b.length + 1) + j) = dist sw (a.drop i) (b.drop j) := by
  unfold cellD
  have h1 : (i * (b.length + 1) + j) / (b.length + 1) = i := by
    rw [Nat.mul_comm, Nat.mul_add_div (by omega), Nat.div_eq_of_lt h, Nat.add_zero]
  have h2 : (i * (b.length + 1) + j) % (b.length + 1) = j := by
    rw [Nat.mul_comm, Nat.mul_add_mod, Nat.mod_eq_of_lt h]
  rw [h1, h2]

/-- The least of some values, those that fit. -/
def minF (f : Sw → Bool) (g : Sw → Int) : Int → List Sw → Int
  | b, [] => b
  | b, s :: l => minF f g (if f s then min b (g s) else b) l
theorem minF_le (f : Sw → Bool) (g : Sw → Int) : ∀ (l : List Sw) (b : Int), minF f g b l ≤ b ∧ ∀ s, s ∈ l → f s = true → minF f g b l ≤ g s
  | [], b => ⟨Int.le_refl _, fun s h => by cases h⟩
  | x :: l, b => by
    obtain ⟨h1, h2⟩ := minF_le f g l (if f x then min b (g x) else b)
    simp only [minF]
    refine ⟨?_, fun s hs hf => ?_⟩
    · by_cases hf : f x = true
      · rw [if_pos hf] at *; omega
      · rw [if_neg hf] at *; omega
    · cases List.mem_cons.1 hs with
      | inl e => subst e; rw [if_pos hf] at *; omega
      | inr e => exact h2 s e hf
theorem minF_mem (f : Sw → Bool) (g : Sw → Int) : ∀ (l : List Sw) (b : Int), minF f g b l = b ∨ ∃ s, s ∈ l ∧ f s = true ∧ minF f g b l = g s
  | [], b => .inl rfl
  | x :: l, b => by
    simp only [minF]
    rcases minF_mem f g l (if f x then min b (g x) else b) with h | ⟨s, h1, h2, h3⟩
    · split at h
      · rename_i hf
        rcases Int.le_total b (g x) with hle | hle
        · rw [Int.min_eq_left hle] at h; left; rw [if_pos hf, Int.min_eq_left hle]; exact h
        · rw [Int.min_eq_right hle] at h; right; exact ⟨x, .head _, hf, by rw [if_pos hf, Int.min_eq_right hle]; exact h⟩
      · rename_i hf; left; rw [if_neg hf]; exact h
    · exact .inr ⟨s, .tail _ h1, h2, h3⟩
def fits (x y : List UInt8) (s : Sw) : Bool := s.o.isPrefixOf x && s.n.isPrefixOf y
def by_ (sw : List Sw) (x y : List UInt8) (s : Sw) : Int := s.c + dist sw (x.drop s.o.length) (y.drop s.n.length)
theorem pre_head {o x : List UInt8} (ho : o ≠ []) (h : o.isPrefixOf x = true) : o.getD 0 0 = x.getD 0 0 := by
  obtain ⟨z, rfl⟩ := List.isPrefixOf_iff_prefix.1 h
  cases o with
  | nil => exact absurd rfl ho
  | cons c o => rfl
theorem dist_prog {sw : List Sw} (hg : GoodSw sw) {x y : List UInt8} (hx : x ≠ []) (hy : y ≠ []) :
    minF (fits x y) (by_ sw x y) (if x.getD 0 0 = y.getD 0 0 then min (100 + min (min (dist sw (x.drop 1) (y.drop 1)) (dist sw (x.drop 1) y)) (dist sw x (y.drop 1))) (dist sw (x.drop 1) (y.drop 1)) else 100 + min (min (dist sw (x.drop 1) (y.drop 1)) (dist sw (x.drop 1) y)) (dist sw x (y.drop 1))) (under sw (x.getD 0 0)) = dist sw x y := by
  have hd : ∀ l : List UInt8, l.headD 0 = l.getD 0 0 := fun l => by cases l <;> rfl
  have h11 := dist_le hg (x := x) (y := y) (s := ⟨1, 1, 100⟩) (by simp [steps, hx, hy])
  have h10 := dist_le hg (x := x) (y := y) (s := ⟨1, 0, 100⟩) (by simp [steps, hx])
  have h01 := dist_le hg (x := x) (y := y) (s := ⟨0, 1, 100⟩) (by simp [steps, hy])
  simp only [List.drop_zero] at h10 h01 h11
  have hsw : ∀ s, s ∈ sw → fits x y s = true → (⟨s.o.length, s.n.length, s.c⟩ : St) ∈ steps sw x y := by
    intro s hs hf
    simp only [fits] at hf
    have : (⟨s.o.length, s.n.length, s.c⟩ : St) ∈ swSteps sw x y := List.mem_map.2 ⟨s, List.mem_filter.2 ⟨hs, hf⟩, rfl⟩
    simp [steps, this]
  generalize hb0 : (if x.getD 0 0 = y.getD 0 0 then min (100 + min (min (dist sw (x.drop 1) (y.drop 1)) (dist sw (x.drop 1) y)) (dist sw x (y.drop 1))) (dist sw (x.drop 1) (y.drop 1)) else 100 + min (min (dist sw (x.drop 1) (y.drop 1)) (dist sw (x.drop 1) y)) (dist sw x (y.drop 1))) = b0
  obtain ⟨m1, m2⟩ := minF_le (fits x y) (by_ sw x y) (under sw (x.getD 0 0)) b0
  have hge : dist sw x y ≤ b0 := by
    rw [← hb0]
    split
    · rename_i e
      have := dist_le hg (steps_eq (sw := sw) hx hy (by rw [hd, hd]; exact e))
      simp only at this
      omega
    · omega
  have hle : minF (fits x y) (by_ sw x y) b0 (under sw (x.getD 0 0)) ≤ dist sw x y := by
    obtain ⟨s, hs, he⟩ := dist_step hg (x := x) (y := y) (fun e => hx e.1)
    rcases step_cases hs with ⟨h1, h2, h3, rfl⟩ | ⟨q, h1, h2, h3, rfl⟩ | ⟨h1, h2, rfl⟩ | ⟨h1, rfl⟩ | ⟨h1, rfl⟩
    · rw [hd, hd] at h3
      rw [if_pos h3] at hb0
      simp only at he
      omega
    · have hq : q ∈ under sw (x.getD 0 0) := List.mem_filter.2 ⟨h1, by simpa using pre_head (hg.o q h1) h2⟩
      have := m2 q hq (by simp [fits, h2, h3])
      simp only [by_] at this
      simp only at he
      omega
    · simp only at he
      have : b0 ≤ 100 + dist sw (x.drop 1) (y.drop 1) := by rw [← hb0]; split <;> omega
      omega
    · simp only [List.drop_zero] at he
      have : b0 ≤ 100 + dist sw (x.drop 1) y := by rw [← hb0]; split <;> omega
      omega
    · simp only [List.drop_zero] at he
      have : b0 ≤ 100 + dist sw x (y.drop 1) := by rw [← hb0]; split <;> omega
      omega
  rcases minF_mem (fits x y) (by_ sw x y) (under sw (x.getD 0 0)) b0 with h | ⟨s, h1, h2, h3⟩
  · omega
  · have := dist_le hg (hsw s (List.mem_filter.1 h1).1 h2)
    simp only [by_] at h3
    simp only at this
    omega
end Go.Fv.V

namespace Go.Fv.V
open Go Go.Proofs
set_option linter.unusedSimpArgs false
set_option linter.unusedVariables false
set_option linter.unnecessarySimpa false
set_option maxRecDepth 8000

def Mx.av (m : Mx) : List AV := [.str m.f, .str m.t, .int .i64 m.c]
def Mx.zero : Mx := ⟨[], [], 0⟩
def mxs (l : List Mx) : RowV := .objs 3 (l.map Mx.av)
theorem mx_elem (l : List Mx) {i : Nat} (h : i < l.length) : (l.map Mx.av).getD i [] = [.str (l.getD i Mx.zero).f, .str (l.getD i Mx.zero).t, .int .i64 (l.getD i Mx.zero).c] := by
  rw [getD_lt (by simpa using h), getD_lt h, List.getElem_map]; rfl
theorem laidOut : laidOutB Tryd.prog = true := by kernel_rfl
end Go.Fv.V

/- strings.HasPrefix. -/
namespace Go.Fv.V
open Go Go.Proofs
set_option linter.unusedSimpArgs false
set_option linter.unusedVariables false
set_option linter.unnecessarySimpa false
set_option maxRecDepth 8000

theorem take_prefix (s p : List UInt8) : decide ((p.length : Int) ≤ (s.length : Int) ∧ s.take p.length = p) = p.isPrefixOf s := by
  rw [Bool.eq_iff_iff, decide_eq_true_eq, List.isPrefixOf_iff_prefix]
  constructor
  · rintro ⟨_, h⟩; exact List.prefix_iff_eq_take.2 h.symm
  · intro h; exact ⟨by have := h.length_le; omega, (List.prefix_iff_eq_take.1 h).symm⟩
theorem hasPrefix0_ok (s p : List UInt8) : FnOk Tryd.prog 56 [.str s, .str p] (.bool (p.isPrefixOf s)) [] := by
  rw [← take_prefix]
  refine FnOk.of_vc Tryd.func56 rfl (by decide) (by simp [Tryd.f56]) [.tmp 4] rfl fun w0 T0 _ => ?_
  simp only [Tryd.f56, argEnv]
  (repeat' first | with_reducible (first | intro _ | refine rc ?_ | refine rl ?_ | refine rh ?_ | refine rt ?_ | refine rf ?_ | refine rs ?_ | refine And.intro ?_ ?_) | omega | simp (maxSteps := 1000000) only [go_sem, simprocAttr, ↓reduceIte, Nat.sub_zero, List.drop_zero, Int.toNat_natCast, Int.toNat_zero])
  refine Ret.auto 0 ?_ rfl ?_ <;> simp only [go_sem, reduceCtorEq, reduceIte, Nat.reduceEqDiff, Nat.reduceLT, Nat.reduceLeDiff, Int.natCast_succ, Post]
theorem hasPrefix_ok (s p : List UInt8) : FnOk Tryd.prog 38 [.str s, .str p] (.bool (p.isPrefixOf s)) [] := by
  have k := hasPrefix0_ok s p
  refine FnOk.of_vc Tryd.func38 rfl (by decide) (by simp [Tryd.f38]) [.tmp 4] rfl fun w0 T0 _ => ?_
  simp only [Tryd.f38, argEnv]
  (repeat' first | with_reducible (first | intro _ | refine rc ?_ | refine rl ?_ | refine rh ?_ | refine rt ?_ | refine rf ?_ | refine rs ?_ | refine And.intro ?_ ?_) | omega | simp (maxSteps := 1000000) only [go_sem, simprocAttr, ↓reduceIte])
  refine VcCall.k k ?_
  (repeat' first | with_reducible (first | intro _ | refine rc ?_ | refine rl ?_ | refine rh ?_ | refine rt ?_ | refine rf ?_ | refine rs ?_ | refine And.intro ?_ ?_) | omega | simp (maxSteps := 1000000) only [go_sem, simprocAttr, ↓reduceIte])
  refine Ret.auto 0 ?_ rfl ?_ <;> simp only [go_sem, reduceCtorEq, reduceIte, Nat.reduceEqDiff, Nat.reduceLT, Nat.reduceLeDiff, Int.natCast_succ, Post]
end Go.Fv.V

namespace Go.Fv.V
open Go Go.Proofs
set_option linter.unusedSimpArgs false
set_option linter.unusedVariables false
set_option linter.unnecessarySimpa false
set_option maxRecDepth 8000

end Go.Fv.V

/- The distance of equal letters where no swap is known. -/
namespace Go.Fv.V
open Go
set_option linter.unusedSimpArgs false
set_option linter.unusedVariables false
set_option linter.unnecessarySimpa false
theorem goodSw_nil : GoodSw [] := by constructor <;> (intro s h; cases h)
end Go.Fv.V

/- The table where no swap is known. -/
namespace Go.Fv.V
open Go Go.Proofs
set_option linter.unusedSimpArgs false
set_option linter.unusedVariables false
set_option linter.unnecessarySimpa false
set_option maxRecDepth 8000

theorem keysT_nil : KeysT Tryd.prog 5 [] := fun x hx => by cases hx
set_option maxHeartbeats 16000000 in
theorem tableN_ok (a b : List UInt8) (ha : a.length ≤ 2000) (hb : b.length ≤ 2000) :
    FnOk Tryd.prog 30 [.str a, .str b, .raw (.map none)] (.own 0) [(0, .row 3 (.ints .i64 (tab [] a b 0)))] := by
  refine FnOk.of_vc Tryd.func30 rfl (by decide) (by simp [Tryd.f30]) [.tmp 6] rfl fun w0 T0 _ => ?_
  simp only [Tryd.f30, argEnv]
  have hnn : (a.length + 1) * (b.length + 1) ≤ 2001 * 2001 := Nat.mul_le_mul (by omega) (by omega)
  have up1 : ((a.length : Int) + 1) * ((b.length : Int) + 1) = (((a.length + 1) * (b.length + 1) : Nat) : Int) := by simp
  have hg := goodSw_nil
  have hall := tab_all [] a b
  generalize hN : (a.length + 1) * (b.length + 1) = N at *
  (repeat' first | with_reducible (first | intro _ | refine rc ?_ | refine rl ?_ | refine rh ?_ | refine rt ?_ | refine rf ?_ | refine rs ?_ | refine And.intro ?_ ?_) | omega | simp (maxSteps := 1000000) only [go_sem, simprocAttr, ↓reduceIte, up1, Int.toNat_natCast])
  refine VcLoop.intro (fun r : Nat => ⟨173, [(9, .int .i64 ((r : Int) - 1)), (8, .own 0), (7, .int .i64 ((b.length : Int) + 1)), (0, .str a), (1, .str b), (2, .raw (.map none))], [(0, .row 3 (.ints .i64 (tab [] a b (r * (b.length + 1)))))], 1⟩) (fun r => r ≤ a.length + 1) (fun r => r) (a.length + 1) ?_ (Nat.le_refl _) fun r hr => ?_
  · refine Ent.auto0 rfl ?_ ?_ <;> simp only [go_sem, reduceCtorEq, reduceIte, Nat.reduceEqDiff, Nat.reduceLT, Nat.reduceLeDiff, Int.natCast_succ, hall, hN]
    omega
  cases r with
  | zero =>
    (repeat' first | with_reducible (first | intro _ | refine rc ?_ | refine rl ?_ | refine rh ?_ | refine rt ?_ | refine rf ?_ | refine rs ?_ | refine And.intro ?_ ?_) | omega | simp (maxSteps := 1000000) only [go_sem, simprocAttr, ↓reduceIte])
    refine Ret.auto 1 ?_ rfl ?_ <;> simp only [go_sem, reduceCtorEq, reduceIte, Nat.reduceEqDiff, Nat.reduceLT, Nat.reduceLeDiff, Int.natCast_succ, Post, Nat.zero_mul]
  | succ i =>
    have er : (((i + 1 : Nat) : Int)) - 1 = (i : Int) := by omega
    (repeat' first | with_reducible (first | intro _ | refine rc ?_ | refine rl ?_ | refine rh ?_ | refine rt ?_ | refine rf ?_ | refine rs ?_ | refine And.intro ?_ ?_) | omega | simp (maxSteps := 1000000) only [go_sem, simprocAttr, ↓reduceIte, er])
    have hPw : (i + 1) * (b.length + 1) = i * (b.length + 1) + (b.length + 1) := by rw [Nat.succ_mul]
    have hPN : i * (b.length + 1) + (b.length + 1) ≤ N := by rw [← hPw, ← hN]; exact Nat.mul_le_mul_right _ hr
    have hPn : i < a.length → i * (b.length + 1) + (b.length + 1) + (b.length + 1) ≤ N := fun h => by
      have : (i + 2) * (b.length + 1) ≤ N := by rw [← hN]; exact Nat.mul_le_mul_right _ (by omega)
      have e : (i + 2) * (b.length + 1) = i * (b.length + 1) + (b.length + 1) + (b.length + 1) := by rw [Nat.succ_mul, Nat.succ_mul]
      omega
    have mul1 : (i : Int) * ((b.length : Int) + 1) = ((i * (b.length + 1) : Nat) : Int) := by simp
    have mul2 : ((i : Int) + 1) * ((b.length : Int) + 1) = ((i * (b.length + 1) + (b.length + 1) : Nat) : Int) := by rw [← hPw]; simp
    have hD0 : ∀ j, j < b.length + 1 → cellD [] a b (i * (b.length + 1) + j) = dist [] (a.drop i) (b.drop j) := fun j h => cellD_at [] a b h
    have hD1 : ∀ j, j < b.length + 1 → cellD [] a b (i * (b.length + 1) + (b.length + 1) + j) = dist [] (a.drop (i + 1)) (b.drop j) := fun j h => by rw [← hPw]; exact cellD_at [] a b h
    rw [hPw]
    refine VcLoop.intro (fun c : Nat => ⟨173, [(10, .int .i64 ((c : Int) - 1)), (9, .int .i64 i), (8, .own 0), (7, .int .i64 ((b.length : Int) + 1)), (0, .str a), (1, .str b), (2, .raw (.map none))], [(0, .row 3 (.ints .i64 (tab [] a b (i * (b.length + 1) + c))))], 1⟩) (fun c => c ≤ b.length + 1) (fun c => c) (b.length + 1) ?_ (Nat.le_refl _) fun c hc => ?_
    · refine Ent.auto0 rfl ?_ ?_ <;> simp only [go_sem, reduceCtorEq, reduceIte, Nat.reduceEqDiff, Nat.reduceLT, Nat.reduceLeDiff, Int.natCast_succ, hall, hN]
      omega
    generalize hP : i * (b.length + 1) = P at *
    cases c with
    | zero =>
      (repeat' first | with_reducible (first | intro _ | refine rc ?_ | refine rl ?_ | refine rh ?_ | refine rt ?_ | refine rf ?_ | refine rs ?_ | refine And.intro ?_ ?_) | omega | simp (maxSteps := 1000000) only [go_sem, simprocAttr, ↓reduceIte])
      refine ⟨i, Ent.auto0 rfl ?_ ?_, by omega, by omega⟩ <;> simp only [go_sem, reduceCtorEq, reduceIte, Nat.reduceEqDiff, Nat.reduceLT, Nat.reduceLeDiff, Int.natCast_succ, hP, Nat.add_zero]
    | succ j =>
      have ej : (((j + 1 : Nat) : Int)) - 1 = (j : Int) := by omega
      have hlen := tab_len [] a b (P + (j + 1))
      rw [hN] at hlen
      have hst : ∀ v, v = dist [] (a.drop i) (b.drop j) → (tab [] a b (P + (j + 1))).set (P + j) v = tab [] a b (P + j) := fun v hv => tab_set (hv.trans (hD0 j (by omega)).symm)
      have tn0 : ((P : Int) + j).toNat = P + j := by omega
      by_cases hia : i = a.length
      · have hv : 100 * ((b.length : Int) - j) = dist [] (a.drop i) (b.drop j) := by
          rw [hia, List.drop_length, dist_left hg]; simp; omega
        have hc1 : decide ((i : Int) = (a.length : Int)) = true := by simp [hia]
        (repeat' first | with_reducible (first | intro _ | refine rc ?_ | refine rl ?_ | refine rh ?_ | refine rt ?_ | refine rf ?_ | refine rs ?_ | refine And.intro ?_ ?_) | omega | simp (maxSteps := 1000000) only [go_sem, simprocAttr, ↓reduceIte, ej, mul1, tn0, hlen, hst _ hv, hc1])
        refine ⟨j, Ent.auto0 rfl ?_ ?_, by omega, by omega⟩ <;> simp only [go_sem, reduceCtorEq, reduceIte, Nat.reduceEqDiff, Nat.reduceLT, Nat.reduceLeDiff, Int.natCast_succ]
      · have hc1 : decide ((i : Int) = (a.length : Int)) = false := by simp; omega
        by_cases hjb : j = b.length
        · have hv : 100 * ((a.length : Int) - i) = dist [] (a.drop i) (b.drop j) := by
            rw [hjb, List.drop_length, dist_right hg]; simp; omega
          have hc2 : decide ((j : Int) = (b.length : Int)) = true := by simp [hjb]
          (repeat' first | with_reducible (first | intro _ | refine rc ?_ | refine rl ?_ | refine rh ?_ | refine rt ?_ | refine rf ?_ | refine rs ?_ | refine And.intro ?_ ?_) | omega | simp (maxSteps := 1000000) only [go_sem, simprocAttr, ↓reduceIte, ej, mul1, tn0, hlen, hst _ hv, hc1, hc2])
          refine ⟨j, Ent.auto0 rfl ?_ ?_, by omega, by omega⟩ <;> simp only [go_sem, reduceCtorEq, reduceIte, Nat.reduceEqDiff, Nat.reduceLT, Nat.reduceLeDiff, Int.natCast_succ]
        · have hc2 : decide ((j : Int) = (b.length : Int)) = false := by simp; omega
          have hPn' := hPn (by omega)
          have hxn : a.drop i ≠ [] := by simp; omega
          have hyn : b.drop j ≠ [] := by simp; omega
          have hprog := dist_prog hg hxn hyn
          simp only [List.drop_drop] at hprog
          have hxg : (a.drop i).getD 0 0 = a.getD i 0 := by simp [List.getD]
          have hyg : (b.drop j).getD 0 0 = b.getD j 0 := by simp [List.getD]
          rw [hxg, hyg] at hprog
          have r11 : (tab [] a b (P + (j + 1))).getD (P + (b.length + 1) + j + 1) 0 = dist [] (a.drop (i + 1)) (b.drop (j + 1)) := by rw [tab_get (by omega) (by omega)]; exact hD1 (j + 1) (by omega)
          have r10 : (tab [] a b (P + (j + 1))).getD (P + (b.length + 1) + j) 0 = dist [] (a.drop (i + 1)) (b.drop j) := by rw [tab_get (by omega) (by omega)]; exact hD1 j (by omega)
          have r01 : (tab [] a b (P + (j + 1))).getD (P + j + 1) 0 = dist [] (a.drop i) (b.drop (j + 1)) := by rw [tab_get (by omega) (by omega)]; exact hD0 (j + 1) (by omega)
          have t11 : (((P + (b.length + 1) : Nat) : Int) + j + 1).toNat = P + (b.length + 1) + j + 1 := by omega
          have t10 : (((P + (b.length + 1) : Nat) : Int) + j).toNat = P + (b.length + 1) + j := by omega
          have t01 : ((P : Int) + j + 1).toNat = P + j + 1 := by omega
          have b11 := dist_bd hg _ (a.drop (i + 1)) (b.drop (j + 1)) (Nat.le_refl _)
          have b10 := dist_bd hg _ (a.drop (i + 1)) (b.drop j) (Nat.le_refl _)
          have b01 := dist_bd hg _ (a.drop i) (b.drop (j + 1)) (Nat.le_refl _)
          simp only [List.length_drop] at b11 b10 b01
          generalize dist [] (a.drop (i + 1)) (b.drop (j + 1)) = d11 at *
          generalize dist [] (a.drop (i + 1)) (b.drop j) = d10 at *
          generalize dist [] (a.drop i) (b.drop (j + 1)) = d01 at *
          have hmm : ∀ x y : Int, minmax false x y = min x y := fun _ _ => rfl
          (repeat' first | with_reducible (first | intro _ | refine rc ?_ | refine rl ?_ | refine rh ?_ | refine rt ?_ | refine rf ?_ | refine rs ?_ | refine And.intro ?_ ?_) | omega | simp (maxSteps := 1000000) only [go_sem, simprocAttr, ↓reduceIte, ej, mul1, mul2, tn0, hlen, hc1, hc2])
          refine VcDraw.lex [] [] (by kernel_rfl) (by kernel_rfl) ?_
          (repeat' first | with_reducible (first | intro _ | refine rc ?_ | refine rl ?_ | refine rh ?_ | refine rt ?_ | refine rf ?_ | refine rs ?_ | refine And.intro ?_ ?_) | omega | simp (maxSteps := 1000000) only [go_sem, simprocAttr, ↓reduceIte, mul1, mul2, hlen, t11, t10, t01, elemA, r11, r10, r01])
          have hil : (i : Int) < (a.length : Int) := by omega
          have hjl : (j : Int) < (b.length : Int) := by omega
          have hsa : List.take (a.length - i) (a.drop i) = a.drop i := List.take_of_length_le (by simp)
          have hsb : List.take (b.length - j) (b.drop j) = b.drop j := List.take_of_length_le (by simp)
          have hO : getO [] [] (.int .u8 ((a.getD i 0).toNat : Int)) .nilS = .nilS := rfl
          have hks : KeysT Tryd.prog 5 [] := keysT_nil
          have hun : ∀ c, under [] c = [] := fun _ => rfl
          refine VcDraw.lex [] [] (by kernel_rfl) (by kernel_rfl) ?_
          by_cases hce : a.getD i 0 = b.getD j 0
          case' pos =>
            have hcd : decide (((a.getD i 0).toNat : Int) = ((b.getD j 0).toNat : Int)) = true := decide_eq_true (by rw [hce])
            rw [if_pos hce] at hprog
            (repeat' first | with_reducible (first | intro _ | refine rc ?_ | refine rl ?_ | refine rh ?_ | refine rt ?_ | refine rf ?_ | refine rs ?_ | refine And.intro ?_ ?_) | omega | simp (maxSteps := 1000000) only [go_sem, simprocAttr, ↓reduceIte, hcd, mul2, t11, hlen, elemA, r11, hO, eq_true hks])
            have hb0 : 0 ≤ min (100 + min (min d11 d10) d01) d11 ∧ min (100 + min (min d11 d10) d01) d11 ≤ 1000000 := by omega
            generalize min (100 + min (min d11 d10) d01) d11 = b0 at *
          case' neg =>
            have hcd : decide (((a.getD i 0).toNat : Int) = ((b.getD j 0).toNat : Int)) = false := by
              refine decide_eq_false fun e => hce (UInt8.toNat_inj.1 ?_)
              omega
            rw [if_neg hce] at hprog
            (repeat' first | with_reducible (first | intro _ | refine rc ?_ | refine rl ?_ | refine rh ?_ | refine rt ?_ | refine rf ?_ | refine rs ?_ | refine And.intro ?_ ?_) | omega | simp (maxSteps := 1000000) only [go_sem, simprocAttr, ↓reduceIte, hcd, mul2, t11, hlen, elemA, r11, hO, eq_true hks])
            have hb0 : 0 ≤ 100 + min (min d11 d10) d01 ∧ 100 + min (min d11 d10) d01 ≤ 1000000 := by omega
            generalize 100 + min (min d11 d10) d01 = b0 at *
          all_goals
            have hd : b0 = dist [] (a.drop i) (b.drop j) := hprog
            (repeat' first | with_reducible (first | intro _ | refine rc ?_ | refine rl ?_ | refine rh ?_ | refine rt ?_ | refine rf ?_ | refine rs ?_ | refine And.intro ?_ ?_) | omega | simp (maxSteps := 1000000) only [go_sem, simprocAttr, ↓reduceIte])
            refine VcLoop.intro (fun x : Unit => ⟨173, [(124, .int .i64 0), (123, .int .i64 0), (11, .int .i64 b0), (10, .int .i64 j), (9, .int .i64 i), (8, .own 0), (7, .int .i64 ((b.length : Int) + 1)), (0, .str a), (1, .str b), (2, .raw (.map none))], [(0, .row 3 (.ints .i64 (tab [] a b (P + (j + 1)))))], 1⟩) (fun x => True) (fun x => 0) () ?_ trivial fun x hx => ?_
            · refine Ent.auto0 rfl ?_ ?_ <;> simp only [go_sem, reduceCtorEq, reduceIte, Nat.reduceEqDiff, Nat.reduceLT, Nat.reduceLeDiff, Int.natCast_succ]
            (repeat' first | with_reducible (first | intro _ | refine rc ?_ | refine rl ?_ | refine rh ?_ | refine rt ?_ | refine rf ?_ | refine rs ?_ | refine And.intro ?_ ?_) | omega | simp (maxSteps := 1000000) only [go_sem, simprocAttr, ↓reduceIte, mul1, tn0, hlen, hst _ hd])
            refine ⟨j, Ent.auto0 rfl ?_ ?_, by omega, by omega⟩ <;> simp only [go_sem, reduceCtorEq, reduceIte, Nat.reduceEqDiff, Nat.reduceLT, Nat.reduceLeDiff, Int.natCast_succ]
end Go.Fv.V

/- Errors of two texts. -/
namespace Go.Fv.V
open Go Go.Proofs
set_option linter.unusedSimpArgs false
set_option linter.unusedVariables false
set_option linter.unnecessarySimpa false
set_option maxRecDepth 8000

/-- Words of the second that are not in their place in the first. -/
def wrongN (a b : List Bytes) : Nat → Int
  | 0 => 0
  | i + 1 => if (a.length : Int) ≤ i ∨ ¬ a.getD i [] = b.getD i [] then wrongN a b i + 1 else wrongN a b i
theorem wrongN_bd (a b : List Bytes) : ∀ i : Nat, 0 ≤ wrongN a b i ∧ wrongN a b i ≤ i
  | 0 => ⟨Int.le_refl _, Int.le_refl _⟩
  | i + 1 => by
    have := wrongN_bd a b i
    simp only [wrongN]; split <;> omega
set_option maxHeartbeats 8000000 in
theorem errors_ok (x y : List UInt8) (hx : x.length ≤ 2000) (hy : y.length ≤ 2000) (a b : List Bytes) (ha : wds (toks x [] []) = a) (hb : wds (toks y [] []) = b) :
    FnOk Tryd.prog 9 [.str x, .str y] (.tup [.int .i64 (Int.tdiv (dist [] x y) 100), .int .i64 (wrongN a b b.length), .int .i64 0]) [] := by
  have c1 := wordsOf_ok x (by omega) _ rfl
  have c2 := wordsOf_ok y (by omega) _ rfl
  have l1 := wds_len (toks x [] [])
  have l2 := wds_len (toks y [] [])
  have t1 := toks_len _ x [] [] (Nat.le_refl _)
  have t2 := toks_len _ y [] [] (Nat.le_refl _)
  simp only [List.length_nil] at t1 t2
  rw [ha] at c1 l1
  rw [hb] at c2 l2
  have c3 := tableN_ok x y hx hy
  have hp : 0 < (x.length + 1) * (y.length + 1) := Nat.mul_pos (by omega) (by omega)
  have htl := tab_len [] x y 0
  have ht0 : (tab [] x y 0).getD 0 0 = dist [] x y := by
    rw [tab_get hp (Nat.le_refl _)]
    have := cellD_at [] x y (i := 0) (j := 0) (by omega)
    simpa using this
  have hdb := dist_bd goodSw_nil _ x y (Nat.le_refl _)
  generalize tab [] x y 0 = tb at *
  generalize dist [] x y = d at *
  have hq0 : 0 ≤ d.tdiv 100 ∧ d.tdiv 100 ≤ 100000 := by
    rw [Int.tdiv_eq_ediv_of_nonneg hdb.1]; omega
  obtain ⟨q, hq⟩ : ∃ q, d.tdiv 100 = q := ⟨_, rfl⟩
  rw [hq] at hq0
  rw [hq]
  refine FnOk.of_vc Tryd.func9 rfl (by decide) (by simp [Tryd.f9]) [.tmp 4, .tmp 5, .tmp 6] rfl fun w0 T0 _ => ?_
  simp only [Tryd.f9, argEnv]
  have hx1 : ¬ (2000 : Int) < x.length := by omega
  have hy1 : ¬ (2000 : Int) < y.length := by omega
  (repeat' first | with_reducible (first | intro _ | refine rc ?_ | refine rl ?_ | refine rh ?_ | refine rt ?_ | refine rf ?_ | refine rs ?_ | refine And.intro ?_ ?_) | omega | simp (maxSteps := 1000000) only [go_sem, simprocAttr, ↓reduceIte, hx1, hy1])
  refine VcCall.ro (.ro (.strs a)) (FnFr.of_ok c1 rfl rfl) (by simp only [noIdR_ok, argOkL, argOk, allOk, argOkN, List.drop_zero, lk, reduceIte, reduceCtorEq, Nat.reduceEqDiff, Option.some.injEq, Item.row.injEq, Item.box.injEq, AV.ro.injEq, exists_eq_left, exists_and_left, exists_eq_left', exists_eq_right, and_assoc, and_true, true_and, List.cons.injEq, exists_eq', exists_eq]) (by simp [outOk, argOkL, allOk, argOk, argOkN, lk, noIdR_ok]) rfl ?_
  (repeat' first | with_reducible (first | intro _ | refine rc ?_ | refine rl ?_ | refine rh ?_ | refine rt ?_ | refine rf ?_ | refine rs ?_ | refine And.intro ?_ ?_) | omega | simp (maxSteps := 1000000) only [go_sem, simprocAttr, ↓reduceIte])
  refine VcCall.ro (.ro (.strs b)) (FnFr.of_ok c2 rfl rfl) (by simp only [noIdR_ok, argOkL, argOk, allOk, argOkN, List.drop_zero, lk, reduceIte, reduceCtorEq, Nat.reduceEqDiff, Option.some.injEq, Item.row.injEq, Item.box.injEq, AV.ro.injEq, exists_eq_left, exists_and_left, exists_eq_left', exists_eq_right, and_assoc, and_true, true_and, List.cons.injEq, exists_eq', exists_eq]) (by simp [outOk, argOkL, allOk, argOk, argOkN, lk, noIdR_ok]) rfl ?_
  (repeat' first | with_reducible (first | intro _ | refine rc ?_ | refine rl ?_ | refine rh ?_ | refine rt ?_ | refine rf ?_ | refine rs ?_ | refine And.intro ?_ ?_) | omega | simp (maxSteps := 1000000) only [go_sem, simprocAttr, ↓reduceIte])
  refine VcLoop.intro (fun i : Nat => ⟨53, [(26, .int .i64 i), (25, .int .i64 b.length), (24, .ro (.strs b)), (9, .int .i64 (wrongN a b i)), (8, .ro (.strs b)), (7, .ro (.strs a)), (0, .str x), (1, .str y)], [], 0⟩) (fun i => i ≤ b.length) (fun i => b.length - i) 0 ?_ (Nat.zero_le _) fun i hi => ?_
  · refine Ent.auto0 rfl ?_ ?_ <;> simp only [go_sem, reduceCtorEq, reduceIte, Nat.reduceEqDiff, Nat.reduceLT, Nat.reduceLeDiff, Int.natCast_succ, wrongN]
  have hwb := wrongN_bd a b i
  have hst : wrongN a b (i + 1) = if (a.length : Int) ≤ i ∨ ¬ a.getD i [] = b.getD i [] then wrongN a b i + 1 else wrongN a b i := rfl
  by_cases hlt : i < b.length
  · by_cases hal : (a.length : Int) ≤ i
    · rw [if_pos (.inl hal)] at hst
      (repeat' first | with_reducible (first | intro _ | refine rc ?_ | refine rl ?_ | refine rh ?_ | refine rt ?_ | refine rf ?_ | refine rs ?_ | refine And.intro ?_ ?_) | omega | simp (maxSteps := 1000000) only [go_sem, simprocAttr, ↓reduceIte, hal, elemA, Int.toNat_natCast])
      refine ⟨i + 1, Ent.auto0 rfl ?_ ?_, by omega, by omega⟩ <;> simp only [go_sem, reduceCtorEq, reduceIte, Nat.reduceEqDiff, Nat.reduceLT, Nat.reduceLeDiff, Int.natCast_succ, hst]
    · by_cases he : a.getD i [] = b.getD i []
      · rw [if_neg (fun h => h.elim hal (fun h => h he))] at hst
        (repeat' first | with_reducible (first | intro _ | refine rc ?_ | refine rl ?_ | refine rh ?_ | refine rt ?_ | refine rf ?_ | refine rs ?_ | refine And.intro ?_ ?_) | omega | simp (maxSteps := 1000000) only [go_sem, simprocAttr, ↓reduceIte, hal, he, elemA, Int.toNat_natCast])
        refine ⟨i + 1, Ent.auto0 rfl ?_ ?_, by omega, by omega⟩ <;> simp only [go_sem, reduceCtorEq, reduceIte, Nat.reduceEqDiff, Nat.reduceLT, Nat.reduceLeDiff, Int.natCast_succ, hst]
      · rw [if_pos (.inr he)] at hst
        (repeat' first | with_reducible (first | intro _ | refine rc ?_ | refine rl ?_ | refine rh ?_ | refine rt ?_ | refine rf ?_ | refine rs ?_ | refine And.intro ?_ ?_) | omega | simp (maxSteps := 1000000) only [go_sem, simprocAttr, ↓reduceIte, hal, he, elemA, Int.toNat_natCast])
        refine ⟨i + 1, Ent.auto0 rfl ?_ ?_, by omega, by omega⟩ <;> simp only [go_sem, reduceCtorEq, reduceIte, Nat.reduceEqDiff, Nat.reduceLT, Nat.reduceLeDiff, Int.natCast_succ, hst]
  · have e : i = b.length := by omega
    subst e
    (repeat' first | with_reducible (first | intro _ | refine rc ?_ | refine rl ?_ | refine rh ?_ | refine rt ?_ | refine rf ?_ | refine rs ?_ | refine And.intro ?_ ?_) | omega | simp (maxSteps := 1000000) only [go_sem, simprocAttr, ↓reduceIte])
    refine VcCall.fr (FnFr.of_ok c3 rfl rfl) (by simp only [noIdR_ok, argOkL, argOk, allOk, argOkN, List.drop_zero, lk, reduceIte, reduceCtorEq, Nat.reduceEqDiff, Option.some.injEq, Item.row.injEq, Item.box.injEq, AV.ro.injEq, exists_eq_left, exists_and_left, exists_eq_left', exists_eq_right, and_assoc, and_true, true_and, List.cons.injEq, exists_eq', exists_eq]) 1 rfl (by simp [rowsB, Item.below, belowR]) ?_
    (repeat' first | with_reducible (first | intro _ | refine rc ?_ | refine rl ?_ | refine rh ?_ | refine rt ?_ | refine rf ?_ | refine rs ?_ | refine And.intro ?_ ?_) | omega | simp (maxSteps := 1000000) only [go_sem, simprocAttr, ↓reduceIte, elemA, ht0, htl, hq])
    refine Ret.auto 0 ?_ rfl ?_ <;> simp only [go_sem, reduceCtorEq, reduceIte, Nat.reduceEqDiff, Nat.reduceLT, Nat.reduceLeDiff, Int.natCast_succ, Post]
end Go.Fv.V

/- The first step of a script, in plain words. -/
namespace Go.Fv.V
open Go
set_option linter.unusedSimpArgs false
set_option linter.unusedVariables false
set_option linter.unnecessarySimpa false

end Go.Fv.V

namespace Go.Fv.V
open Go Go.Proofs
set_option linter.unusedSimpArgs false
set_option linter.unusedVariables false
set_option linter.unnecessarySimpa false
set_option maxRecDepth 8000

def St.av (s : St) : List AV := [.int .i64 s.a, .int .i64 s.b, .int .i64 s.c]
def St.zero : St := ⟨0, 0, 0⟩
def sts (l : List St) : RowV := .objs 3 (l.map St.av)
instance : FNoId St.av := ⟨fun _ => rfl⟩
instance {l : List St} : RowNoId (sts l) := inferInstanceAs (RowNoId (.objs 3 (l.map St.av)))
theorem st_elem (l : List St) {i : Nat} (h : i < l.length) : (l.map St.av).getD i [] = [.int .i64 (l.getD i St.zero).a, .int .i64 (l.getD i St.zero).b, .int .i64 (l.getD i St.zero).c] := by
  rw [getD_lt (by simpa using h), getD_lt h, List.getElem_map]; rfl
theorem sts_snoc (l : List St) (a b : Nat) (c : Int) : l.map St.av ++ [[.int .i64 a, .int .i64 b, .int .i64 c]] = (l ++ [(⟨a, b, c⟩ : St)]).map St.av := by simp [St.av]
/-- What a swap gives at two places. -/
def one (x y : List UInt8) (s : Sw) : List St := if fits x y s = true then [⟨s.o.length, s.n.length, s.c⟩] else []
def two (x y : List UInt8) (m : Mx) : List St := one x y ⟨m.f, m.t, m.c⟩ ++ one x y ⟨m.t, m.f, m.c⟩
theorem swSteps_flat (x y : List UInt8) (l : List Mx) : swSteps (swL l) x y = l.flatMap (two x y) := by
  induction l with
  | nil => rfl
  | cons m l ih =>
    have e : swL (m :: l) = ⟨m.f, m.t, m.c⟩ :: ⟨m.t, m.f, m.c⟩ :: swL l := rfl
    have hc : ∀ (s : Sw) (q : List Sw), swSteps (s :: q) x y = one x y s ++ swSteps q x y := by
      intro s q
      unfold swSteps one
      by_cases h : fits x y s = true
      · have h' : (s.o.isPrefixOf x && s.n.isPrefixOf y) = true := h
        simp only [List.filter_cons, h', h, if_true]; rfl
      · have h' : ¬ (s.o.isPrefixOf x && s.n.isPrefixOf y) = true := h
        simp only [List.filter_cons, if_neg h', if_neg h]; rfl
    rw [e, hc, hc, ih, List.flatMap_cons, ← List.append_assoc]; rfl
theorem two_len (x y : List UInt8) (m : Mx) : (two x y m).length ≤ 2 := by
  unfold two one
  split <;> split <;> simp
theorem flat_len (x y : List UInt8) : ∀ l : List Mx, (l.flatMap (two x y)).length ≤ 2 * l.length
  | [] => by simp
  | m :: l => by
    rw [List.flatMap_cons, List.length_append]
    have h1 := two_len x y m
    have h2 := flat_len x y l
    rw [List.length_cons]; omega

set_option maxHeartbeats 16000000 in
theorem steps_ok (l : List Mx) (hl : l.length ≤ 1000) (a b : List UInt8) (i j : Nat) (hi : i ≤ a.length) (hj : j ≤ b.length) :
    FnOk Tryd.prog 53 [.str a, .str b, .int .i64 i, .int .i64 j, .ro (mxs l)] (.own 0) [(0, .row 90 (sts (steps (swL l) (a.drop i) (b.drop j))))] := by
  have hxne : a.drop i ≠ [] ↔ i < a.length := by simp
  have hyne : b.drop j ≠ [] ↔ j < b.length := by simp
  have hhd : ∀ l : List UInt8, l.headD 0 = l.getD 0 0 := fun l => by cases l <;> rfl
  have hgx : (a.drop i).headD 0 = a.getD i 0 := by rw [hhd]; simp [List.getD]
  have hgy : (b.drop j).headD 0 = b.getD j 0 := by rw [hhd]; simp [List.getD]
  have hst : steps (swL l) (a.drop i) (b.drop j) = (if i < a.length ∧ j < b.length ∧ a.getD i 0 = b.getD j 0 then [(⟨1, 1, 0⟩ : St)] else []) ++ l.flatMap (two (a.drop i) (b.drop j)) ++ (if i < a.length ∧ j < b.length then [⟨1, 1, 100⟩] else []) ++ (if i < a.length then [⟨1, 0, 100⟩] else []) ++ (if j < b.length then [⟨0, 1, 100⟩] else []) := by
    unfold steps
    rw [swSteps_flat]
    simp only [hxne, hyne, hgx, hgy]
  have hsa : List.take (a.length - i) (a.drop i) = a.drop i := List.take_of_length_le (by simp)
  have hsb : List.take (b.length - j) (b.drop j) = b.drop j := List.take_of_length_le (by simp)
  rw [hst]
  refine FnOk.of_vc Tryd.func53 rfl (by decide) (by simp [Tryd.f53]) [.tmp 10] rfl fun w0 T0 _ => ?_
  simp only [Tryd.f53, argEnv]
  (repeat' first | with_reducible (first | intro _ | refine rc ?_ | refine rl ?_ | refine rh ?_ | refine rt ?_ | refine rf ?_ | refine rs ?_ | refine And.intro ?_ ?_) | omega | simp (maxSteps := 1000000) only [go_sem, simprocAttr, ↓reduceIte])
  refine VcDraw.lex [] [] (by kernel_rfl) (by kernel_rfl) ?_
  generalize hE : (if i < a.length ∧ j < b.length ∧ a.getD i 0 = b.getD j 0 then [(⟨1, 1, 0⟩ : St)] else []) = E at *
  (repeat' first | with_reducible (first | intro _ | refine rc ?_ | refine rl ?_ | refine rh ?_ | refine rt ?_ | refine rf ?_ | refine rs ?_ | refine And.intro ?_ ?_) | omega | simp (maxSteps := 1000000) only [go_sem, simprocAttr, ↓reduceIte, Int.toNat_natCast])
  case' refine_1 =>
    rename_i hc _
    rw [if_pos ⟨by omega, by omega, UInt8.toNat_inj.1 (by omega)⟩] at hE
  case' refine_2 =>
    rename_i hc _
    rw [if_neg (fun h => hc ⟨⟨by omega, by omega⟩, by rw [h.2.2]⟩)] at hE
  all_goals
    have hEl : E.length ≤ 1 := by rw [← hE]; simp
    refine VcLoop.intro (fun k : Nat => ⟨118, [(41, .int .i64 k), (40, .int .i64 l.length), (39, .ro (mxs l)), (11, .own 0), (0, .str a), (1, .str b), (2, .int .i64 i), (3, .int .i64 j)], [(0, .row 90 (sts (E ++ (l.take k).flatMap (two (a.drop i) (b.drop j)))))], 1⟩) (fun k => k ≤ l.length) (fun k => l.length - k) 0 ?_ (Nat.zero_le _) fun k hk => ?_
    · refine Ent.auto0 rfl ?_ ?_ <;> simp only [go_sem, reduceCtorEq, reduceIte, Nat.reduceEqDiff, Nat.reduceLT, Nat.reduceLeDiff, Int.natCast_succ, mxs, List.take_zero, List.flatMap_nil, sts, List.length_map, St.av, zrow, List.replicate_zero, ← hE]
      all_goals rfl
    have hfl := flat_len (a.drop i) (b.drop j) (l.take k)
    by_cases hlt : k < l.length
    · have he := mx_elem l hlt
      have htk : (l.take (k + 1)).flatMap (two (a.drop i) (b.drop j)) = (l.take k).flatMap (two (a.drop i) (b.drop j)) ++ two (a.drop i) (b.drop j) (l.getD k Mx.zero) := by
        rw [List.take_succ_eq_append_getElem hlt, List.flatMap_append, getD_lt hlt]; simp
      generalize l.getD k Mx.zero = m at *
      (repeat' first | with_reducible (first | intro _ | refine rc ?_ | refine rl ?_ | refine rh ?_ | refine rt ?_ | refine rf ?_ | refine rs ?_ | refine And.intro ?_ ?_) | omega | simp (maxSteps := 1000000) only [go_sem, simprocAttr, ↓reduceIte, elemA, he, mxs, List.length_map])
      obtain ⟨part, hp0, hp1q, hp2q⟩ : ∃ part : Nat → List St, part 0 = [] ∧ part 1 = one (a.drop i) (b.drop j) ⟨m.f, m.t, m.c⟩ ∧ part 2 = one (a.drop i) (b.drop j) ⟨m.f, m.t, m.c⟩ ++ one (a.drop i) (b.drop j) ⟨m.t, m.f, m.c⟩ := ⟨fun q => if q = 0 then [] else if q = 1 then one (a.drop i) (b.drop j) ⟨m.f, m.t, m.c⟩ else one (a.drop i) (b.drop j) ⟨m.f, m.t, m.c⟩ ++ one (a.drop i) (b.drop j) ⟨m.t, m.f, m.c⟩, rfl, rfl, rfl⟩
      have htwo : two (a.drop i) (b.drop j) m = part 2 := hp2q.symm
      have hpl : (part 1).length ≤ 2 := by rw [hp1q]; unfold one; split <;> simp
      have hpl0 : (part 0).length ≤ 2 := by rw [hp0]; simp
      have hGl : (E ++ (l.take k).flatMap (two (a.drop i) (b.drop j))).length ≤ 3000 := by simp at hfl ⊢; omega
      rw [htwo] at htk
      generalize hG : E ++ (l.take k).flatMap (two (a.drop i) (b.drop j)) = G at *
      refine VcLoop.intro (fun q : Nat => ⟨118, [(56, .int .i64 q), (55, .agg [.str m.f, .str m.t, .str m.t, .str m.f]), (13, .ptr 1 0), (41, .int .i64 k), (40, .int .i64 l.length), (39, .ro (mxs l)), (11, .own 0), (0, .str a), (1, .str b), (2, .int .i64 i), (3, .int .i64 j)], [(0, .row 90 (sts (G ++ part q))), (1, .box 113 [.str m.f, .str m.t, .int .i64 m.c])], 2⟩) (fun q => q ≤ 2) (fun q => 2 - q) 0 ?_ (Nat.zero_le _) fun q hq => ?_
      · refine Ent.auto0 rfl ?_ ?_ <;> simp only [go_sem, reduceCtorEq, reduceIte, Nat.reduceEqDiff, Nat.reduceLT, Nat.reduceLeDiff, Int.natCast_succ, mxs, hp0, List.append_nil, Int.natCast_zero]
      rcases (by omega : q = 0 ∨ q = 1 ∨ q = 2) with rfl | rfl | rfl
      · have k1 := hasPrefix_ok (a.drop i) m.f
        have k2 := hasPrefix_ok (b.drop j) m.t
        have hone : one (a.drop i) (b.drop j) ⟨m.f, m.t, m.c⟩ = if (m.f.isPrefixOf (a.drop i) && m.t.isPrefixOf (b.drop j)) = true then [⟨m.f.length, m.t.length, m.c⟩] else [] := rfl
        (repeat' first | with_reducible (first | intro _ | refine rc ?_ | refine rl ?_ | refine rh ?_ | refine rt ?_ | refine rf ?_ | refine rs ?_ | refine And.intro ?_ ?_) | omega | simp (maxSteps := 1000000) only [go_sem, simprocAttr, ↓reduceIte, Int.cast_ofNat_Int, Int.natCast_zero, Int.natCast_one, Int.toNat_zero, Int.toNat_one, Int.reduceToNat, List.getD_cons_zero, List.getD_cons_succ])
        refine VcDraw.lex [] [] (by kernel_rfl) (by kernel_rfl) ?_
        (repeat' first | with_reducible (first | intro _ | refine rc ?_ | refine rl ?_ | refine rh ?_ | refine rt ?_ | refine rf ?_ | refine rs ?_ | refine And.intro ?_ ?_) | omega | simp (maxSteps := 1000000) only [go_sem, simprocAttr, ↓reduceIte, hsa, hsb, Int.toNat_natCast])
        refine QV.intro (.bool (m.f.isPrefixOf (a.drop i))) ?_ ?_
        · (repeat' first | with_reducible (first | intro _ | refine rc ?_ | refine rl ?_ | refine rh ?_ | refine rt ?_ | refine rf ?_ | refine rs ?_ | refine And.intro ?_ ?_) | omega | simp (maxSteps := 1000000) only [go_sem, simprocAttr, ↓reduceIte])
          refine VcCall.k k1 ?_
          (repeat' first | with_reducible (first | intro _ | refine rc ?_ | refine rl ?_ | refine rh ?_ | refine rt ?_ | refine rf ?_ | refine rs ?_ | refine And.intro ?_ ?_) | omega | simp (maxSteps := 1000000) only [go_sem, simprocAttr, ↓reduceIte])
        cases hp1 : m.f.isPrefixOf (a.drop i) with
        | false =>
          rw [hp1, Bool.false_and] at hone
          (repeat' first | with_reducible (first | intro _ | refine rc ?_ | refine rl ?_ | refine rh ?_ | refine rt ?_ | refine rf ?_ | refine rs ?_ | refine And.intro ?_ ?_) | omega | simp (maxSteps := 1000000) only [go_sem, simprocAttr, ↓reduceIte, hsa, hsb, Int.toNat_natCast])
          refine QV.intro (.bool false) ?_ ?_
          · (repeat' first | with_reducible (first | intro _ | refine rc ?_ | refine rl ?_ | refine rh ?_ | refine rt ?_ | refine rf ?_ | refine rs ?_ | refine And.intro ?_ ?_) | omega | simp (maxSteps := 1000000) only [go_sem, simprocAttr, ↓reduceIte])
          (repeat' first | with_reducible (first | intro _ | refine rc ?_ | refine rl ?_ | refine rh ?_ | refine rt ?_ | refine rf ?_ | refine rs ?_ | refine And.intro ?_ ?_) | omega | simp (maxSteps := 1000000) only [go_sem, simprocAttr, ↓reduceIte])
          refine ⟨1, Ent.auto0 rfl ?_ ?_, by omega, by omega⟩ <;> simp only [go_sem, reduceCtorEq, reduceIte, Nat.reduceEqDiff, Nat.reduceLT, Nat.reduceLeDiff, Int.natCast_succ, mxs, hp0, hp1q, hone, List.append_nil, Bool.false_eq_true, if_false]
          all_goals rfl
        | true =>
          have hl1 := prefix_len hp1
          rw [hp1, Bool.true_and] at hone
          (repeat' first | with_reducible (first | intro _ | refine rc ?_ | refine rl ?_ | refine rh ?_ | refine rt ?_ | refine rf ?_ | refine rs ?_ | refine And.intro ?_ ?_) | omega | simp (maxSteps := 1000000) only [go_sem, simprocAttr, ↓reduceIte, hsa, hsb, Int.toNat_natCast])
          refine QV.intro (.bool (m.t.isPrefixOf (b.drop j))) ?_ ?_
          · (repeat' first | with_reducible (first | intro _ | refine rc ?_ | refine rl ?_ | refine rh ?_ | refine rt ?_ | refine rf ?_ | refine rs ?_ | refine And.intro ?_ ?_) | omega | simp (maxSteps := 1000000) only [go_sem, simprocAttr, ↓reduceIte, hsa, hsb, Int.toNat_natCast])
            refine VcCall.k k2 ?_
            (repeat' first | with_reducible (first | intro _ | refine rc ?_ | refine rl ?_ | refine rh ?_ | refine rt ?_ | refine rf ?_ | refine rs ?_ | refine And.intro ?_ ?_) | omega | simp (maxSteps := 1000000) only [go_sem, simprocAttr, ↓reduceIte])
          cases hp2 : m.t.isPrefixOf (b.drop j) with
          | false =>
            rw [hp2] at hone
            (repeat' first | with_reducible (first | intro _ | refine rc ?_ | refine rl ?_ | refine rh ?_ | refine rt ?_ | refine rf ?_ | refine rs ?_ | refine And.intro ?_ ?_) | omega | simp (maxSteps := 1000000) only [go_sem, simprocAttr, ↓reduceIte])
            refine ⟨1, Ent.auto0 rfl ?_ ?_, by omega, by omega⟩ <;> simp only [go_sem, reduceCtorEq, reduceIte, Nat.reduceEqDiff, Nat.reduceLT, Nat.reduceLeDiff, Int.natCast_succ, mxs, hp0, hp1q, hone, List.append_nil, Bool.false_eq_true, if_false]
            all_goals rfl
          | true =>
            rw [hp2] at hone
            simp only [if_true] at hone
            have hsn := sts_snoc (G ++ part 0) m.f.length m.t.length m.c
            (repeat' first | with_reducible (first | intro _ | refine rc ?_ | refine rl ?_ | refine rh ?_ | refine rt ?_ | refine rf ?_ | refine rs ?_ | refine And.intro ?_ ?_) | omega | simp (maxSteps := 1000000) only [go_sem, simprocAttr, ↓reduceIte, sts, hsn, List.length_map, Int.toNat_zero, Int.toNat_one, List.drop_zero])
            refine ⟨1, Ent.auto0 rfl ?_ ?_, by omega, by omega⟩ <;> simp only [go_sem, reduceCtorEq, reduceIte, Nat.reduceEqDiff, Nat.reduceLT, Nat.reduceLeDiff, Int.natCast_succ, mxs, sts, hp0, hp1q, hone, List.append_nil, List.append_assoc]
            all_goals rfl
      · have k1 := hasPrefix_ok (a.drop i) m.t
        have k2 := hasPrefix_ok (b.drop j) m.f
        have hone : one (a.drop i) (b.drop j) ⟨m.t, m.f, m.c⟩ = if (m.t.isPrefixOf (a.drop i) && m.f.isPrefixOf (b.drop j)) = true then [⟨m.t.length, m.f.length, m.c⟩] else [] := rfl
        (repeat' first | with_reducible (first | intro _ | refine rc ?_ | refine rl ?_ | refine rh ?_ | refine rt ?_ | refine rf ?_ | refine rs ?_ | refine And.intro ?_ ?_) | omega | simp (maxSteps := 1000000) only [go_sem, simprocAttr, ↓reduceIte, Int.cast_ofNat_Int, Int.natCast_zero, Int.natCast_one, Int.toNat_zero, Int.toNat_one, Int.reduceToNat, List.getD_cons_zero, List.getD_cons_succ])
        refine VcDraw.lex [] [] (by kernel_rfl) (by kernel_rfl) ?_
        (repeat' first | with_reducible (first | intro _ | refine rc ?_ | refine rl ?_ | refine rh ?_ | refine rt ?_ | refine rf ?_ | refine rs ?_ | refine And.intro ?_ ?_) | omega | simp (maxSteps := 1000000) only [go_sem, simprocAttr, ↓reduceIte, hsa, hsb, Int.toNat_natCast])
        refine QV.intro (.bool (m.t.isPrefixOf (a.drop i))) ?_ ?_
        · (repeat' first | with_reducible (first | intro _ | refine rc ?_ | refine rl ?_ | refine rh ?_ | refine rt ?_ | refine rf ?_ | refine rs ?_ | refine And.intro ?_ ?_) | omega | simp (maxSteps := 1000000) only [go_sem, simprocAttr, ↓reduceIte])
          refine VcCall.k k1 ?_
          (repeat' first | with_reducible (first | intro _ | refine rc ?_ | refine rl ?_ | refine rh ?_ | refine rt ?_ | refine rf ?_ | refine rs ?_ | refine And.intro ?_ ?_) | omega | simp (maxSteps := 1000000) only [go_sem, simprocAttr, ↓reduceIte])
        cases hp1 : m.t.isPrefixOf (a.drop i) with
        | false =>
          rw [hp1, Bool.false_and] at hone
          (repeat' first | with_reducible (first | intro _ | refine rc ?_ | refine rl ?_ | refine rh ?_ | refine rt ?_ | refine rf ?_ | refine rs ?_ | refine And.intro ?_ ?_) | omega | simp (maxSteps := 1000000) only [go_sem, simprocAttr, ↓reduceIte, hsa, hsb, Int.toNat_natCast])
          refine QV.intro (.bool false) ?_ ?_
          · (repeat' first | with_reducible (first | intro _ | refine rc ?_ | refine rl ?_ | refine rh ?_ | refine rt ?_ | refine rf ?_ | refine rs ?_ | refine And.intro ?_ ?_) | omega | simp (maxSteps := 1000000) only [go_sem, simprocAttr, ↓reduceIte])
          (repeat' first | with_reducible (first | intro _ | refine rc ?_ | refine rl ?_ | refine rh ?_ | refine rt ?_ | refine rf ?_ | refine rs ?_ | refine And.intro ?_ ?_) | omega | simp (maxSteps := 1000000) only [go_sem, simprocAttr, ↓reduceIte])
          refine ⟨2, Ent.auto0 rfl ?_ ?_, by omega, by omega⟩ <;> simp only [go_sem, reduceCtorEq, reduceIte, Nat.reduceEqDiff, Nat.reduceLT, Nat.reduceLeDiff, Int.natCast_succ, mxs, hp1q, hp2q, hone, List.append_nil, Bool.false_eq_true, if_false]
          all_goals rfl
        | true =>
          have hl1 := prefix_len hp1
          rw [hp1, Bool.true_and] at hone
          (repeat' first | with_reducible (first | intro _ | refine rc ?_ | refine rl ?_ | refine rh ?_ | refine rt ?_ | refine rf ?_ | refine rs ?_ | refine And.intro ?_ ?_) | omega | simp (maxSteps := 1000000) only [go_sem, simprocAttr, ↓reduceIte, hsa, hsb, Int.toNat_natCast])
          refine QV.intro (.bool (m.f.isPrefixOf (b.drop j))) ?_ ?_
          · (repeat' first | with_reducible (first | intro _ | refine rc ?_ | refine rl ?_ | refine rh ?_ | refine rt ?_ | refine rf ?_ | refine rs ?_ | refine And.intro ?_ ?_) | omega | simp (maxSteps := 1000000) only [go_sem, simprocAttr, ↓reduceIte, hsa, hsb, Int.toNat_natCast])
            refine VcCall.k k2 ?_
            (repeat' first | with_reducible (first | intro _ | refine rc ?_ | refine rl ?_ | refine rh ?_ | refine rt ?_ | refine rf ?_ | refine rs ?_ | refine And.intro ?_ ?_) | omega | simp (maxSteps := 1000000) only [go_sem, simprocAttr, ↓reduceIte])
          cases hp2 : m.f.isPrefixOf (b.drop j) with
          | false =>
            rw [hp2] at hone
            (repeat' first | with_reducible (first | intro _ | refine rc ?_ | refine rl ?_ | refine rh ?_ | refine rt ?_ | refine rf ?_ | refine rs ?_ | refine And.intro ?_ ?_) | omega | simp (maxSteps := 1000000) only [go_sem, simprocAttr, ↓reduceIte])
            refine ⟨2, Ent.auto0 rfl ?_ ?_, by omega, by omega⟩ <;> simp only [go_sem, reduceCtorEq, reduceIte, Nat.reduceEqDiff, Nat.reduceLT, Nat.reduceLeDiff, Int.natCast_succ, mxs, hp1q, hp2q, hone, List.append_nil, Bool.false_eq_true, if_false]
            all_goals rfl
          | true =>
            rw [hp2] at hone
            simp only [if_true] at hone
            have hsn := sts_snoc (G ++ part 1) m.t.length m.f.length m.c
            (repeat' first | with_reducible (first | intro _ | refine rc ?_ | refine rl ?_ | refine rh ?_ | refine rt ?_ | refine rf ?_ | refine rs ?_ | refine And.intro ?_ ?_) | omega | simp (maxSteps := 1000000) only [go_sem, simprocAttr, ↓reduceIte, sts, hsn, List.length_map, Int.toNat_zero, Int.toNat_one, List.drop_zero])
            refine ⟨2, Ent.auto0 rfl ?_ ?_, by omega, by omega⟩ <;> simp only [go_sem, reduceCtorEq, reduceIte, Nat.reduceEqDiff, Nat.reduceLT, Nat.reduceLeDiff, Int.natCast_succ, mxs, sts, hp1q, hp2q, hone, List.append_nil, List.append_assoc]
            all_goals rfl
      · (repeat' first | with_reducible (first | intro _ | refine rc ?_ | refine rl ?_ | refine rh ?_ | refine rt ?_ | refine rf ?_ | refine rs ?_ | refine And.intro ?_ ?_) | omega | simp (maxSteps := 1000000) only [go_sem, simprocAttr, ↓reduceIte, Int.cast_ofNat_Int])
        refine ⟨k + 1, Ent.auto0 rfl ?_ ?_, by omega, by omega⟩ <;> simp only [go_sem, reduceCtorEq, reduceIte, Nat.reduceEqDiff, Nat.reduceLT, Nat.reduceLeDiff, Int.natCast_succ, mxs, htk, ← hG, List.append_assoc]
    · have ek : k = l.length := by omega
      subst ek
      rw [List.take_length] at *
      clear hst
      have hGl : (E ++ l.flatMap (two (a.drop i) (b.drop j))).length ≤ 3000 := by simp at hfl ⊢; omega
      generalize E ++ l.flatMap (two (a.drop i) (b.drop j)) = G at *
      (repeat' first | with_reducible (first | intro _ | refine rc ?_ | refine rl ?_ | refine rh ?_ | refine rt ?_ | refine rf ?_ | refine rs ?_ | refine And.intro ?_ ?_) | omega | simp (maxSteps := 1000000) only [go_sem, simprocAttr, ↓reduceIte, mxs, List.length_map, sts])
      all_goals
        by_cases hi2 : i < a.length <;> by_cases hj2 : j < b.length <;> first
          | (exfalso; omega)
          | (refine Ret.auto 1 ?_ rfl ?_ <;> simp only [go_sem, reduceCtorEq, reduceIte, Nat.reduceEqDiff, Nat.reduceLT, Nat.reduceLeDiff, Int.natCast_succ, Post, hi2, hj2, List.map_append, St.av, List.append_assoc, Int.natCast_zero, Int.natCast_one, if_true, if_false])
        all_goals rfl
end Go.Fv.V
