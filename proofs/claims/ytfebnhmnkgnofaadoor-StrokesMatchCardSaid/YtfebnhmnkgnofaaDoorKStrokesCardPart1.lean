/-
  A part of the proof of the claim: walks over the program's functions and the plain laws that these need. No condition of its own.
-/
import Derived.Test.YtfebnhmnkgnofaaDoorFvPart9
namespace Go.Fv.K
set_option linter.unusedSimpArgs false
set_option linter.unusedVariables false

theorem set_range {α : Type} {n i : Nat} (q : Nat → α) (d : α) (h : i < n) : ((List.range i).map q ++ List.replicate (n - i) d).set i (q i) = (List.range (i + 1)).map q ++ List.replicate (n - (i + 1)) d := by
  have e : n - i = (n - (i + 1)) + 1 := by omega
  rw [e, List.replicate_succ, List.set_append_right _ _ (by simp), List.range_succ, List.map_append]
  simp
def sumTo (f : Nat → Int) : Nat → Int
  | 0 => 0
  | n + 1 => sumTo f n + f n
theorem sumTo_bd {f : Nat → Int} {c : Int} (h : ∀ i, 0 ≤ f i ∧ f i ≤ c) : ∀ n : Nat, 0 ≤ sumTo f n ∧ sumTo f n ≤ n * c
  | 0 => by simp [sumTo]
  | n + 1 => by
    have := sumTo_bd h n
    have := h n
    simp only [sumTo]
    have e : ((n + 1 : Nat) : Int) * c = n * c + c := by rw [Int.natCast_add, Int.add_mul]; simp
    omega
def tab (v : Nat → Int) (w x y : Nat) : Int := sumTo (fun j => sumTo (fun i => v (j * w + i)) x) y
theorem tab_zero (v : Nat → Int) (w y : Nat) : tab v w 0 y = 0 := by
  unfold tab
  induction y with
  | zero => rfl
  | succ y ih => rw [sumTo, ih]; rfl
theorem tab_succ (v : Nat → Int) (w x y : Nat) : tab v w x (y + 1) = tab v w x y + sumTo (fun i => v (y * w + i)) x := rfl
theorem tab_bd {v : Nat → Int} (hv : ∀ i, 0 ≤ v i ∧ v i ≤ 255) {w x y : Nat} (hx : x ≤ 4001) (hy : y ≤ 4001) : 0 ≤ tab v w x y ∧ tab v w x y ≤ 4100000000 := by
  have h1 : ∀ j : Nat, 0 ≤ sumTo (fun i => v (j * w + i)) x ∧ sumTo (fun i => v (j * w + i)) x ≤ 1020255 := by
    intro j
    have := sumTo_bd (f := fun i => v (j * w + i)) (c := 255) (fun i => hv _) x
    omega
  have := sumTo_bd h1 y
  unfold tab
  omega
def tabAt (v : Nat → Int) (w k : Nat) : Int := tab v w (k % (w + 1)) (k / (w + 1))
theorem tabAt_mk (v : Nat → Int) {w x y : Nat} (hx : x ≤ w) : tabAt v w (y * (w + 1) + x) = tab v w x y := by
  unfold tabAt
  have e1 : (y * (w + 1) + x) % (w + 1) = x := by rw [Nat.mul_comm, Nat.mul_add_mod, Nat.mod_eq_of_lt (by omega)]
  have e2 : (y * (w + 1) + x) / (w + 1) = y := by rw [Nat.mul_comm, Nat.mul_add_div (by omega), Nat.div_eq_of_lt (by omega), Nat.add_zero]
  rw [e1, e2]
/-- The table when its first m values are there. -/
def sumsAt (v : Nat → Int) (w n m : Nat) : List Int := (List.range m).map (tabAt v w) ++ List.replicate (n - m) 0
theorem sumsAt_len {v : Nat → Int} {w n m : Nat} (h : m ≤ n) : (sumsAt v w n m).length = n := by simp [sumsAt]; omega
theorem sumsAt_set {v : Nat → Int} {w n m : Nat} (h : m < n) : (sumsAt v w n m).set m (tabAt v w m) = sumsAt v w n (m + 1) := set_range _ _ h
theorem sumsAt_get {v : Nat → Int} {w n m k : Nat} (h : k < m) : (sumsAt v w n m).getD k 0 = tabAt v w k := by
  unfold sumsAt
  rw [List.getD_eq_getElem?_getD, List.getElem?_append_left (by simpa using h)]
  simp [h]
theorem sumsAt_zero {v : Nat → Int} {w n m : Nat} (h : m < n) (hz : tabAt v w m = 0) : sumsAt v w n m = sumsAt v w n (m + 1) := by
  unfold sumsAt
  have e : n - m = (n - (m + 1)) + 1 := by omega
  rw [e, List.replicate_succ, List.range_succ, List.map_append]
  simp [hz]
theorem sumsAt_first {v : Nat → Int} {w n : Nat} : ∀ m, m ≤ w + 1 → m ≤ n → sumsAt v w n 0 = sumsAt v w n m
  | 0, _, _ => rfl
  | m + 1, h, h2 => by
    rw [sumsAt_first m (by omega) (by omega)]
    refine sumsAt_zero (by omega) ?_
    have := tabAt_mk v (w := w) (x := m) (y := 0) (by omega)
    rw [Nat.zero_mul, Nat.zero_add] at this
    rw [this]; rfl
/-- The sum over a part of the page. -/
def rect (v : Nat → Int) (w l r t b : Nat) : Int := tab v w r b - tab v w r t - tab v w l b + tab v w l t
end Go.Fv.K
