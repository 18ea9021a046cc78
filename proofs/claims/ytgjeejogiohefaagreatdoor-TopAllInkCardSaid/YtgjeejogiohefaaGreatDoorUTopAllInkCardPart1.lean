/-
  A part of the proof of the claim: walks over the program's functions and the plain laws that these need. No condition of its own.
-/
import Derived.Test.YtgjeejogiohefaaGreatDoorFvPart9
import Derived.Test.YtgjeejogiohefaaGreatDoorFvPart10
import Derived.Test.YtgjeejogiohefaaGreatDoorProg
namespace Go.Fv.U
set_option linter.unusedSimpArgs false
set_option linter.unusedVariables false

theorem set_range {α : Type} {n i : Nat} (q : Nat → α) (d : α) (h : i < n) : ((List.range i).map q ++ List.replicate (n - i) d).set i (q i) = (List.range (i + 1)).map q ++ List.replicate (n - (i + 1)) d := by
  have e : n - i = (n - (i + 1)) + 1 := by omega
  rw [e, List.replicate_succ, List.set_append_right _ _ (by simp), List.range_succ, List.map_append]
  simp
def sumTo (f : Nat → Int) : Nat → Int
  | 0 => 0
  | n + 1 => sumTo f n + f n
theorem sumTo_bd {f : Nat → Int} {c : Int} (h : ∀ i, 0 ≤ f i ∧ f i ≤ c) : ∀ n : Nat, 0 ≤ sumTo f n ∧ sumTo f n ≤ n * c
  | 0 => by simp [sumTo]
  | n + 1 => by
    have := sumTo_bd h n
    have := h n
    simp only [sumTo]
    have e : ((n + 1 : Nat) : Int) * c = n * c + c := by rw [Int.natCast_add, Int.add_mul]; simp
    omega
def tab (v : Nat → Int) (w x y : Nat) : Int := sumTo (fun j => sumTo (fun i => v (j * w + i)) x) y
theorem tab_zero (v : Nat → Int) (w y : Nat) : tab v w 0 y = 0 := by
  unfold tab
  induction y with
  | zero => rfl
  | succ y ih => rw [sumTo, ih]; rfl
theorem tab_succ (v : Nat → Int) (w x y : Nat) : tab v w x (y + 1) = tab v w x y + sumTo (fun i => v (y * w + i)) x := rfl
theorem tab_bd {v : Nat → Int} (hv : ∀ i, 0 ≤ v i ∧ v i ≤ 255) {w x y : Nat} (hx : x ≤ 4001) (hy : y ≤ 4001) : 0 ≤ tab v w x y ∧ tab v w x y ≤ 4100000000 := by
  have h1 : ∀ j : Nat, 0 ≤ sumTo (fun i => v (j * w + i)) x ∧ sumTo (fun i => v (j * w + i)) x ≤ 1020255 := by
    intro j
    have := sumTo_bd (f := fun i => v (j * w + i)) (c := 255) (fun i => hv _) x
    omega
  have := sumTo_bd h1 y
  unfold tab
  omega
def tabAt (v : Nat → Int) (w k : Nat) : Int := tab v w (k % (w + 1)) (k / (w + 1))
theorem tabAt_mk (v : Nat → Int) {w x y : Nat} (hx : x ≤ w) : tabAt v w (y * (w + 1) + x) = tab v w x y := by
  unfold tabAt
  have e1 : (y * (w + 1) + x) % (w + 1) = x := by rw [Nat.mul_comm, Nat.mul_add_mod, Nat.mod_eq_of_lt (by omega)]
  have e2 : (y * (w + 1) + x) / (w + 1) = y := by rw [Nat.mul_comm, Nat.mul_add_div (by omega), Nat.div_eq_of_lt (by omega), Nat.add_zero]
  rw [e1, e2]
/-- The table when its first m values are there. -/
def sumsAt (v : Nat → Int) (w n m : Nat) : List Int := (List.range m).map (tabAt v w) ++ List.replicate (n - m) 0
theorem sumsAt_len {v : Nat → Int} {w n m : Nat} (h : m ≤ n) : (sumsAt v w n m).length = n := by simp [sumsAt]; omega
theorem sumsAt_set {v : Nat → Int} {w n m : Nat} (h : m < n) : (sumsAt v w n m).set m (tabAt v w m) = sumsAt v w n (m + 1) := set_range _ _ h
theorem sumsAt_get {v : Nat → Int} {w n m k : Nat} (h : k < m) : (sumsAt v w n m).getD k 0 = tabAt v w k := by
  unfold sumsAt
  rw [List.getD_eq_getElem?_getD, List.getElem?_append_left (by simpa using h)]
  simp [h]
theorem sumsAt_zero {v : Nat → Int} {w n m : Nat} (h : m < n) (hz : tabAt v w m = 0) : sumsAt v w n m = sumsAt v w n (m + 1) := by
  unfold sumsAt
  have e : n - m = (n - (m + 1)) + 1 := by omega
  rw [e, List.replicate_succ, List.range_succ, List.map_append]
  simp [hz]
theorem sumsAt_first {v : Nat → Int} {w n : Nat} : ∀ m, m ≤ w + 1 → m ≤ n → sumsAt v w n 0 = sumsAt v w n m
  | 0, _, _ => rfl
  | m + 1, h, h2 => by
    rw [sumsAt_first m (by omega) (by omega)]
    refine sumsAt_zero (by omega) ?_
    have := tabAt_mk v (w := w) (x := m) (y := 0) (by omega)
    rw [Nat.zero_mul, Nat.zero_add] at this
    rw [this]; rfl
/-- The sum over a part of the page. -/
def rect (v : Nat → Int) (w l r t b : Nat) : Int := tab v w r b - tab v w r t - tab v w l b + tab v w l t
end Go.Fv.U

/- Facts about the program's types: each shown by reckoning it out. -/
namespace Go.Fv.U
open Go Go.Proofs
theorem e1 : ElemZ Tryz.prog 1 (.nilFunc) := .of (by kernel_rfl) (by kernel_rfl)
theorem z1 : zeroOf Tryz.prog 1 = some (.nilFunc) := e1.zero
theorem c1 : Tryz.prog.cellsOf 1 = 1 := e1.cellsOf
theorem e2 : ElemZ Tryz.prog 2 (.int .i64 0) := .of (by kernel_rfl) (by kernel_rfl)
theorem z2 : zeroOf Tryz.prog 2 = some (.int .i64 0) := e2.zero
theorem c2 : Tryz.prog.cellsOf 2 = 1 := e2.cellsOf
theorem e3 : ElemZ Tryz.prog 3 (.int .i64 0) := .of (by kernel_rfl) (by kernel_rfl)
theorem z3 : zeroOf Tryz.prog 3 = some (.int .i64 0) := e3.zero
theorem c3 : Tryz.prog.cellsOf 3 = 1 := e3.cellsOf
theorem e4 : ElemZ Tryz.prog 4 (.bool false) := .of (by kernel_rfl) (by kernel_rfl)
theorem z4 : zeroOf Tryz.prog 4 = some (.bool false) := e4.zero
theorem c4 : Tryz.prog.cellsOf 4 = 1 := e4.cellsOf
theorem e5 : ElemZ Tryz.prog 5 (.int .u8 0) := .of (by kernel_rfl) (by kernel_rfl)
theorem z5 : zeroOf Tryz.prog 5 = some (.int .u8 0) := e5.zero
theorem c5 : Tryz.prog.cellsOf 5 = 1 := e5.cellsOf
theorem e6 : ElemZ Tryz.prog 6 (.int .u8 0) := .of (by kernel_rfl) (by kernel_rfl)
theorem e9 : ElemZ Tryz.prog 9 (.string ⟨#[]⟩) := .of (by kernel_rfl) (by kernel_rfl)
theorem z9 : zeroOf Tryz.prog 9 = some (.string ⟨#[]⟩) := e9.zero
theorem e12 : ElemZ Tryz.prog 12 (.int .u64 0) := .of (by kernel_rfl) (by kernel_rfl)
theorem e17 : ElemZ Tryz.prog 17 (.pointer none) := .of (by kernel_rfl) (by kernel_rfl)
theorem e20 : ElemZ Tryz.prog 20 (.nilIface) := .of (by kernel_rfl) (by kernel_rfl)
theorem z20 : zeroOf Tryz.prog 20 = some (.nilIface) := e20.zero
theorem e22 : ElemZ Tryz.prog 22 (.slice none 0 0) := .of (by kernel_rfl) (by kernel_rfl)
theorem z22 : zeroOf Tryz.prog 22 = some (.slice none 0 0) := e22.zero
theorem e23 : ElemZ Tryz.prog 23 (.agg #[.string ⟨#[]⟩, .string ⟨#[]⟩, .int .i64 0]) := .of (by kernel_rfl) (by kernel_rfl)
theorem z23 : zeroOf Tryz.prog 23 = some (.agg #[.string ⟨#[]⟩, .string ⟨#[]⟩, .int .i64 0]) := e23.zero
theorem e24 : ElemZ Tryz.prog 24 (.agg #[.string ⟨#[]⟩, .string ⟨#[]⟩, .int .i64 0]) := .of (by kernel_rfl) (by kernel_rfl)
theorem z24 : zeroOf Tryz.prog 24 = some (.agg #[.string ⟨#[]⟩, .string ⟨#[]⟩, .int .i64 0]) := e24.zero
theorem e25 : ElemZ Tryz.prog 25 (.nilFunc) := .of (by kernel_rfl) (by kernel_rfl)
theorem z25 : zeroOf Tryz.prog 25 = some (.nilFunc) := e25.zero
theorem e32 : ElemZ Tryz.prog 32 (.nilFunc) := .of (by kernel_rfl) (by kernel_rfl)
theorem z32 : zeroOf Tryz.prog 32 = some (.nilFunc) := e32.zero
theorem e35 : ElemZ Tryz.prog 35 (.slice none 0 0) := .of (by kernel_rfl) (by kernel_rfl)
theorem z35 : zeroOf Tryz.prog 35 = some (.slice none 0 0) := e35.zero
theorem e39 : ElemZ Tryz.prog 39 (.nilFunc) := .of (by kernel_rfl) (by kernel_rfl)
theorem z39 : zeroOf Tryz.prog 39 = some (.nilFunc) := e39.zero
theorem e41 : ElemZ Tryz.prog 41 (.slice none 0 0) := .of (by kernel_rfl) (by kernel_rfl)
theorem z41 : zeroOf Tryz.prog 41 = some (.slice none 0 0) := e41.zero
theorem e44 : ElemZ Tryz.prog 44 (.agg #[.string ⟨#[]⟩, .bool false]) := .of (by kernel_rfl) (by kernel_rfl)
theorem z44 : zeroOf Tryz.prog 44 = some (.agg #[.string ⟨#[]⟩, .bool false]) := e44.zero
theorem e45 : ElemZ Tryz.prog 45 (.nilFunc) := .of (by kernel_rfl) (by kernel_rfl)
theorem z45 : zeroOf Tryz.prog 45 = some (.nilFunc) := e45.zero
theorem e50 : ElemZ Tryz.prog 50 (.nilFunc) := .of (by kernel_rfl) (by kernel_rfl)
theorem z50 : zeroOf Tryz.prog 50 = some (.nilFunc) := e50.zero
theorem e51 : ElemZ Tryz.prog 51 (.slice none 0 0) := .of (by kernel_rfl) (by kernel_rfl)
theorem c51 : Tryz.prog.cellsOf 51 = 1 := e51.cellsOf
theorem e53 : ElemZ Tryz.prog 53 (.agg #[.int .i64 0, .int .i64 0, .slice none 0 0]) := .of (by kernel_rfl) (by kernel_rfl)
theorem z53 : zeroOf Tryz.prog 53 = some (.agg #[.int .i64 0, .int .i64 0, .slice none 0 0]) := e53.zero
theorem c53 : Tryz.prog.cellsOf 53 = 3 := e53.cellsOf
theorem e55 : ElemZ Tryz.prog 55 (.agg #[.int .i64 0, .int .i64 0, .int .i64 0, .int .i64 0, .int .i64 0]) := .of (by kernel_rfl) (by kernel_rfl)
theorem z55 : zeroOf Tryz.prog 55 = some (.agg #[.int .i64 0, .int .i64 0, .int .i64 0, .int .i64 0, .int .i64 0]) := e55.zero
theorem c55 : Tryz.prog.cellsOf 55 = 5 := e55.cellsOf
theorem e57 : ElemZ Tryz.prog 57 (.slice none 0 0) := .of (by kernel_rfl) (by kernel_rfl)
theorem z57 : zeroOf Tryz.prog 57 = some (.slice none 0 0) := e57.zero
theorem e63 : ElemZ Tryz.prog 63 (.nilFunc) := .of (by kernel_rfl) (by kernel_rfl)
theorem z63 : zeroOf Tryz.prog 63 = some (.nilFunc) := e63.zero
theorem e64 : ElemZ Tryz.prog 64 (.agg #[.int .i64 0, .int .i64 0, .int .i64 0, .int .i64 0]) := .of (by kernel_rfl) (by kernel_rfl)
theorem z64 : zeroOf Tryz.prog 64 = some (.agg #[.int .i64 0, .int .i64 0, .int .i64 0, .int .i64 0]) := e64.zero
theorem e65 : ElemZ Tryz.prog 65 (.agg #[.int .i64 0, .int .i64 0, .int .i64 0, .int .i64 0]) := .of (by kernel_rfl) (by kernel_rfl)
theorem z65 : zeroOf Tryz.prog 65 = some (.agg #[.int .i64 0, .int .i64 0, .int .i64 0, .int .i64 0]) := e65.zero
theorem c65 : Tryz.prog.cellsOf 65 = 4 := e65.cellsOf
theorem e66 : ElemZ Tryz.prog 66 (.slice none 0 0) := .of (by kernel_rfl) (by kernel_rfl)
theorem z66 : zeroOf Tryz.prog 66 = some (.slice none 0 0) := e66.zero
theorem e70 : ElemZ Tryz.prog 70 (.agg #[.int .i64 0, .int .i64 0]) := .of (by kernel_rfl) (by kernel_rfl)
theorem z70 : zeroOf Tryz.prog 70 = some (.agg #[.int .i64 0, .int .i64 0]) := e70.zero
theorem c70 : Tryz.prog.cellsOf 70 = 2 := e70.cellsOf
theorem e72 : ElemZ Tryz.prog 72 (.agg #[.int .i64 0, .int .i64 0, .int .i64 0, .int .i64 0, .int .i64 0, .int .i64 0, .int .i64 0]) := .of (by kernel_rfl) (by kernel_rfl)
theorem z72 : zeroOf Tryz.prog 72 = some (.agg #[.int .i64 0, .int .i64 0, .int .i64 0, .int .i64 0, .int .i64 0, .int .i64 0, .int .i64 0]) := e72.zero
theorem c72 : Tryz.prog.cellsOf 72 = 7 := e72.cellsOf
theorem e73 : ElemZ Tryz.prog 73 (.nilFunc) := .of (by kernel_rfl) (by kernel_rfl)
theorem c73 : Tryz.prog.cellsOf 73 = 1 := e73.cellsOf
theorem e74 : ElemZ Tryz.prog 74 (.slice none 0 0) := .of (by kernel_rfl) (by kernel_rfl)
theorem c74 : Tryz.prog.cellsOf 74 = 1 := e74.cellsOf
theorem e76 : ElemZ Tryz.prog 76 (.agg #[.int .i64 0, .int .i64 0, .int .i64 0, .int .i64 0, .slice none 0 0]) := .of (by kernel_rfl) (by kernel_rfl)
theorem z76 : zeroOf Tryz.prog 76 = some (.agg #[.int .i64 0, .int .i64 0, .int .i64 0, .int .i64 0, .slice none 0 0]) := e76.zero
theorem c76 : Tryz.prog.cellsOf 76 = 5 := e76.cellsOf
theorem e77 : ElemZ Tryz.prog 77 (.slice none 0 0) := .of (by kernel_rfl) (by kernel_rfl)
theorem z77 : zeroOf Tryz.prog 77 = some (.slice none 0 0) := e77.zero
theorem c77 : Tryz.prog.cellsOf 77 = 1 := e77.cellsOf
theorem e79 : ElemZ Tryz.prog 79 (.agg #[.int .i64 0, .int .i64 0, .int .i64 0, .int .i64 0, .int .i64 0, .slice none 0 0]) := .of (by kernel_rfl) (by kernel_rfl)
theorem z79 : zeroOf Tryz.prog 79 = some (.agg #[.int .i64 0, .int .i64 0, .int .i64 0, .int .i64 0, .int .i64 0, .slice none 0 0]) := e79.zero
theorem c79 : Tryz.prog.cellsOf 79 = 6 := e79.cellsOf
theorem e81 : ElemZ Tryz.prog 81 (.slice none 0 0) := .of (by kernel_rfl) (by kernel_rfl)
theorem z81 : zeroOf Tryz.prog 81 = some (.slice none 0 0) := e81.zero
theorem c81 : Tryz.prog.cellsOf 81 = 1 := e81.cellsOf
theorem e118 : ElemZ Tryz.prog 118 (.pointer none) := .of (by kernel_rfl) (by kernel_rfl)
theorem e119 : ElemZ Tryz.prog 119 (.slice none 0 0) := .of (by kernel_rfl) (by kernel_rfl)
theorem e141 : ElemZ Tryz.prog 141 (.pointer none) := .of (by kernel_rfl) (by kernel_rfl)
theorem c141 : Tryz.prog.cellsOf 141 = 1 := e141.cellsOf
theorem e142 : ElemZ Tryz.prog 142 (.pointer none) := .of (by kernel_rfl) (by kernel_rfl)
theorem c142 : Tryz.prog.cellsOf 142 = 1 := e142.cellsOf
theorem e145 : ElemZ Tryz.prog 145 (.agg #[.int .i64 0, .int .i64 0, .slice none 0 0, .pointer none, .int .i64 0, .int .i64 0, .slice none 0 0]) := .of (by kernel_rfl) (by kernel_rfl)
theorem z145 : zeroOf Tryz.prog 145 = some (.agg #[.int .i64 0, .int .i64 0, .slice none 0 0, .pointer none, .int .i64 0, .int .i64 0, .slice none 0 0]) := e145.zero
theorem e154 : ElemZ Tryz.prog 154 (.nilFunc) := .of (by kernel_rfl) (by kernel_rfl)
theorem z154 : zeroOf Tryz.prog 154 = some (.nilFunc) := e154.zero
theorem c154 : Tryz.prog.cellsOf 154 = 1 := e154.cellsOf
theorem e156 : ElemZ Tryz.prog 156 (.agg #[.int .i64 0, .int .i64 0]) := .of (by kernel_rfl) (by kernel_rfl)
theorem z156 : zeroOf Tryz.prog 156 = some (.agg #[.int .i64 0, .int .i64 0]) := e156.zero
theorem c156 : Tryz.prog.cellsOf 156 = 2 := e156.cellsOf
theorem e252 : ElemZ Tryz.prog 252 (.agg #[.int .i64 0, .int .i64 0, .slice none 0 0]) := .of (by kernel_rfl) (by kernel_rfl)
theorem z252 : zeroOf Tryz.prog 252 = some (.agg #[.int .i64 0, .int .i64 0, .slice none 0 0]) := e252.zero
theorem f7 : fieldsOkT Tryz.prog 7 := by
  intro d hd; rw [Tryz.underlying7] at hd; cases hd
  intro f hf; simp only [List.mem_cons, List.not_mem_nil, or_false] at hf
  rcases hf with rfl | rfl | rfl | rfl
  · obtain ⟨i, h, _⟩ := e2.ex; exact ⟨i, h⟩
  · obtain ⟨i, h, _⟩ := e3.ex; exact ⟨i, h⟩
  · obtain ⟨i, h, _⟩ := e4.ex; exact ⟨i, h⟩
  · obtain ⟨i, h, _⟩ := e6.ex; exact ⟨i, h⟩
theorem f8 : fieldsOkT Tryz.prog 8 := by
  intro d hd; rw [Tryz.underlying8] at hd; cases hd
  intro f hf; simp only [List.mem_cons, List.not_mem_nil, or_false] at hf
  rcases hf with rfl | rfl | rfl | rfl
  · obtain ⟨i, h, _⟩ := e2.ex; exact ⟨i, h⟩
  · obtain ⟨i, h, _⟩ := e3.ex; exact ⟨i, h⟩
  · obtain ⟨i, h, _⟩ := e4.ex; exact ⟨i, h⟩
  · obtain ⟨i, h, _⟩ := e6.ex; exact ⟨i, h⟩
theorem f13 : fieldsOkT Tryz.prog 13 := by
  intro d hd; rw [Tryz.underlying13] at hd; cases hd
  intro f hf; simp only [List.mem_cons, List.not_mem_nil, or_false] at hf
  rcases hf with rfl | rfl
  · obtain ⟨i, h, _⟩ := e9.ex; exact ⟨i, h⟩
  · obtain ⟨i, h, _⟩ := e12.ex; exact ⟨i, h⟩
theorem f14 : fieldsOkT Tryz.prog 14 := by
  intro d hd; rw [Tryz.underlying14] at hd; cases hd
  intro f hf; simp only [List.mem_cons, List.not_mem_nil, or_false] at hf
  rcases hf with rfl | rfl
  · obtain ⟨i, h, _⟩ := e9.ex; exact ⟨i, h⟩
  · obtain ⟨i, h, _⟩ := e12.ex; exact ⟨i, h⟩
theorem f18 : fieldsOkT Tryz.prog 18 := by
  intro d hd; rw [Tryz.underlying18] at hd; cases hd
  intro f hf; simp only [List.mem_cons, List.not_mem_nil, or_false] at hf
  rcases hf with rfl
  · obtain ⟨i, h, _⟩ := e17.ex; exact ⟨i, h⟩
theorem f19 : fieldsOkT Tryz.prog 19 := by
  intro d hd; rw [Tryz.underlying19] at hd; cases hd
  intro f hf; simp only [List.mem_cons, List.not_mem_nil, or_false] at hf
  rcases hf with rfl
  · obtain ⟨i, h, _⟩ := e17.ex; exact ⟨i, h⟩
theorem f23 : fieldsOkT Tryz.prog 23 := by
  intro d hd; rw [Tryz.underlying23] at hd; cases hd
  intro f hf; simp only [List.mem_cons, List.not_mem_nil, or_false] at hf
  rcases hf with rfl | rfl | rfl
  · obtain ⟨i, h, _⟩ := e9.ex; exact ⟨i, h⟩
  · obtain ⟨i, h, _⟩ := e9.ex; exact ⟨i, h⟩
  · obtain ⟨i, h, _⟩ := e3.ex; exact ⟨i, h⟩
theorem f24 : fieldsOkT Tryz.prog 24 := by
  intro d hd; rw [Tryz.underlying24] at hd; cases hd
  intro f hf; simp only [List.mem_cons, List.not_mem_nil, or_false] at hf
  rcases hf with rfl | rfl | rfl
  · obtain ⟨i, h, _⟩ := e9.ex; exact ⟨i, h⟩
  · obtain ⟨i, h, _⟩ := e9.ex; exact ⟨i, h⟩
  · obtain ⟨i, h, _⟩ := e3.ex; exact ⟨i, h⟩
theorem f26 : fieldsOkT Tryz.prog 26 := by
  intro d hd; rw [Tryz.underlying26] at hd; cases hd
  intro f hf; simp only [List.mem_cons, List.not_mem_nil, or_false] at hf
  rcases hf with rfl | rfl
  · obtain ⟨i, h, _⟩ := e9.ex; exact ⟨i, h⟩
  · obtain ⟨i, h, _⟩ := e3.ex; exact ⟨i, h⟩
theorem f27 : fieldsOkT Tryz.prog 27 := by
  intro d hd; rw [Tryz.underlying27] at hd; cases hd
  intro f hf; simp only [List.mem_cons, List.not_mem_nil, or_false] at hf
  rcases hf with rfl | rfl
  · obtain ⟨i, h, _⟩ := e9.ex; exact ⟨i, h⟩
  · obtain ⟨i, h, _⟩ := e3.ex; exact ⟨i, h⟩
theorem f48 : fieldsOkT Tryz.prog 48 := by
  intro d hd; rw [Tryz.underlying48] at hd; cases hd
  intro f hf; simp only [List.mem_cons, List.not_mem_nil, or_false] at hf
  rcases hf with rfl | rfl | rfl
  · obtain ⟨i, h, _⟩ := e3.ex; exact ⟨i, h⟩
  · obtain ⟨i, h, _⟩ := e9.ex; exact ⟨i, h⟩
  · obtain ⟨i, h, _⟩ := e9.ex; exact ⟨i, h⟩
theorem f49 : fieldsOkT Tryz.prog 49 := by
  intro d hd; rw [Tryz.underlying49] at hd; cases hd
  intro f hf; simp only [List.mem_cons, List.not_mem_nil, or_false] at hf
  rcases hf with rfl | rfl | rfl
  · obtain ⟨i, h, _⟩ := e3.ex; exact ⟨i, h⟩
  · obtain ⟨i, h, _⟩ := e9.ex; exact ⟨i, h⟩
  · obtain ⟨i, h, _⟩ := e9.ex; exact ⟨i, h⟩
theorem f52 : fieldsOkT Tryz.prog 52 := by
  intro d hd; rw [Tryz.underlying52] at hd; cases hd
  intro f hf; simp only [List.mem_cons, List.not_mem_nil, or_false] at hf
  rcases hf with rfl | rfl | rfl
  · obtain ⟨i, h, _⟩ := e3.ex; exact ⟨i, h⟩
  · obtain ⟨i, h, _⟩ := e3.ex; exact ⟨i, h⟩
  · obtain ⟨i, h, _⟩ := e51.ex; exact ⟨i, h⟩
theorem f53 : fieldsOkT Tryz.prog 53 := by
  intro d hd; rw [Tryz.underlying53] at hd; cases hd
  intro f hf; simp only [List.mem_cons, List.not_mem_nil, or_false] at hf
  rcases hf with rfl | rfl | rfl
  · obtain ⟨i, h, _⟩ := e3.ex; exact ⟨i, h⟩
  · obtain ⟨i, h, _⟩ := e3.ex; exact ⟨i, h⟩
  · obtain ⟨i, h, _⟩ := e51.ex; exact ⟨i, h⟩
theorem f54 : fieldsOkT Tryz.prog 54 := by
  intro d hd; rw [Tryz.underlying54] at hd; cases hd
  intro f hf; simp only [List.mem_cons, List.not_mem_nil, or_false] at hf
  rcases hf with rfl | rfl | rfl | rfl | rfl
  · obtain ⟨i, h, _⟩ := e3.ex; exact ⟨i, h⟩
  · obtain ⟨i, h, _⟩ := e3.ex; exact ⟨i, h⟩
  · obtain ⟨i, h, _⟩ := e3.ex; exact ⟨i, h⟩
  · obtain ⟨i, h, _⟩ := e3.ex; exact ⟨i, h⟩
  · obtain ⟨i, h, _⟩ := e3.ex; exact ⟨i, h⟩
theorem f55 : fieldsOkT Tryz.prog 55 := by
  intro d hd; rw [Tryz.underlying55] at hd; cases hd
  intro f hf; simp only [List.mem_cons, List.not_mem_nil, or_false] at hf
  rcases hf with rfl | rfl | rfl | rfl | rfl
  · obtain ⟨i, h, _⟩ := e3.ex; exact ⟨i, h⟩
  · obtain ⟨i, h, _⟩ := e3.ex; exact ⟨i, h⟩
  · obtain ⟨i, h, _⟩ := e3.ex; exact ⟨i, h⟩
  · obtain ⟨i, h, _⟩ := e3.ex; exact ⟨i, h⟩
  · obtain ⟨i, h, _⟩ := e3.ex; exact ⟨i, h⟩
theorem f64 : fieldsOkT Tryz.prog 64 := by
  intro d hd; rw [Tryz.underlying64] at hd; cases hd
  intro f hf; simp only [List.mem_cons, List.not_mem_nil, or_false] at hf
  rcases hf with rfl | rfl | rfl | rfl
  · obtain ⟨i, h, _⟩ := e3.ex; exact ⟨i, h⟩
  · obtain ⟨i, h, _⟩ := e3.ex; exact ⟨i, h⟩
  · obtain ⟨i, h, _⟩ := e3.ex; exact ⟨i, h⟩
  · obtain ⟨i, h, _⟩ := e3.ex; exact ⟨i, h⟩
theorem f65 : fieldsOkT Tryz.prog 65 := by
  intro d hd; rw [Tryz.underlying65] at hd; cases hd
  intro f hf; simp only [List.mem_cons, List.not_mem_nil, or_false] at hf
  rcases hf with rfl | rfl | rfl | rfl
  · obtain ⟨i, h, _⟩ := e3.ex; exact ⟨i, h⟩
  · obtain ⟨i, h, _⟩ := e3.ex; exact ⟨i, h⟩
  · obtain ⟨i, h, _⟩ := e3.ex; exact ⟨i, h⟩
  · obtain ⟨i, h, _⟩ := e3.ex; exact ⟨i, h⟩
theorem f69 : fieldsOkT Tryz.prog 69 := by
  intro d hd; rw [Tryz.underlying69] at hd; cases hd
  intro f hf; simp only [List.mem_cons, List.not_mem_nil, or_false] at hf
  rcases hf with rfl | rfl
  · obtain ⟨i, h, _⟩ := e3.ex; exact ⟨i, h⟩
  · obtain ⟨i, h, _⟩ := e3.ex; exact ⟨i, h⟩
theorem f70 : fieldsOkT Tryz.prog 70 := by
  intro d hd; rw [Tryz.underlying70] at hd; cases hd
  intro f hf; simp only [List.mem_cons, List.not_mem_nil, or_false] at hf
  rcases hf with rfl | rfl
  · obtain ⟨i, h, _⟩ := e3.ex; exact ⟨i, h⟩
  · obtain ⟨i, h, _⟩ := e3.ex; exact ⟨i, h⟩
theorem f71 : fieldsOkT Tryz.prog 71 := by
  intro d hd; rw [Tryz.underlying71] at hd; cases hd
  intro f hf; simp only [List.mem_cons, List.not_mem_nil, or_false] at hf
  rcases hf with rfl | rfl | rfl
  · obtain ⟨i, h, _⟩ := e65.ex; exact ⟨i, h⟩
  · obtain ⟨i, h, _⟩ := e3.ex; exact ⟨i, h⟩
  · obtain ⟨i, h, _⟩ := e70.ex; exact ⟨i, h⟩
theorem f72 : fieldsOkT Tryz.prog 72 := by
  intro d hd; rw [Tryz.underlying72] at hd; cases hd
  intro f hf; simp only [List.mem_cons, List.not_mem_nil, or_false] at hf
  rcases hf with rfl | rfl | rfl
  · obtain ⟨i, h, _⟩ := e65.ex; exact ⟨i, h⟩
  · obtain ⟨i, h, _⟩ := e3.ex; exact ⟨i, h⟩
  · obtain ⟨i, h, _⟩ := e70.ex; exact ⟨i, h⟩
theorem f75 : fieldsOkT Tryz.prog 75 := by
  intro d hd; rw [Tryz.underlying75] at hd; cases hd
  intro f hf; simp only [List.mem_cons, List.not_mem_nil, or_false] at hf
  rcases hf with rfl | rfl
  · obtain ⟨i, h, _⟩ := e65.ex; exact ⟨i, h⟩
  · obtain ⟨i, h, _⟩ := e74.ex; exact ⟨i, h⟩
theorem f76 : fieldsOkT Tryz.prog 76 := by
  intro d hd; rw [Tryz.underlying76] at hd; cases hd
  intro f hf; simp only [List.mem_cons, List.not_mem_nil, or_false] at hf
  rcases hf with rfl | rfl
  · obtain ⟨i, h, _⟩ := e65.ex; exact ⟨i, h⟩
  · obtain ⟨i, h, _⟩ := e74.ex; exact ⟨i, h⟩
theorem f78 : fieldsOkT Tryz.prog 78 := by
  intro d hd; rw [Tryz.underlying78] at hd; cases hd
  intro f hf; simp only [List.mem_cons, List.not_mem_nil, or_false] at hf
  rcases hf with rfl | rfl | rfl
  · obtain ⟨i, h, _⟩ := e65.ex; exact ⟨i, h⟩
  · obtain ⟨i, h, _⟩ := e3.ex; exact ⟨i, h⟩
  · obtain ⟨i, h, _⟩ := e77.ex; exact ⟨i, h⟩
theorem f79 : fieldsOkT Tryz.prog 79 := by
  intro d hd; rw [Tryz.underlying79] at hd; cases hd
  intro f hf; simp only [List.mem_cons, List.not_mem_nil, or_false] at hf
  rcases hf with rfl | rfl | rfl
  · obtain ⟨i, h, _⟩ := e65.ex; exact ⟨i, h⟩
  · obtain ⟨i, h, _⟩ := e3.ex; exact ⟨i, h⟩
  · obtain ⟨i, h, _⟩ := e77.ex; exact ⟨i, h⟩
theorem f110 : fieldsOkT Tryz.prog 110 := by
  intro d hd; rw [Tryz.underlying110] at hd; cases hd
  intro f hf; simp only [List.mem_cons, List.not_mem_nil, or_false] at hf
  rcases hf with rfl | rfl | rfl
  · obtain ⟨i, h, _⟩ := e9.ex; exact ⟨i, h⟩
  · obtain ⟨i, h, _⟩ := e3.ex; exact ⟨i, h⟩
  · obtain ⟨i, h, _⟩ := e3.ex; exact ⟨i, h⟩
theorem f111 : fieldsOkT Tryz.prog 111 := by
  intro d hd; rw [Tryz.underlying111] at hd; cases hd
  intro f hf; simp only [List.mem_cons, List.not_mem_nil, or_false] at hf
  rcases hf with rfl | rfl | rfl
  · obtain ⟨i, h, _⟩ := e9.ex; exact ⟨i, h⟩
  · obtain ⟨i, h, _⟩ := e3.ex; exact ⟨i, h⟩
  · obtain ⟨i, h, _⟩ := e3.ex; exact ⟨i, h⟩
theorem f120 : fieldsOkT Tryz.prog 120 := by
  intro d hd; rw [Tryz.underlying120] at hd; cases hd
  intro f hf; simp only [List.mem_cons, List.not_mem_nil, or_false] at hf
  rcases hf with rfl | rfl
  · obtain ⟨i, h, _⟩ := e118.ex; exact ⟨i, h⟩
  · obtain ⟨i, h, _⟩ := e119.ex; exact ⟨i, h⟩
theorem f121 : fieldsOkT Tryz.prog 121 := by
  intro d hd; rw [Tryz.underlying121] at hd; cases hd
  intro f hf; simp only [List.mem_cons, List.not_mem_nil, or_false] at hf
  rcases hf with rfl | rfl
  · obtain ⟨i, h, _⟩ := e118.ex; exact ⟨i, h⟩
  · obtain ⟨i, h, _⟩ := e119.ex; exact ⟨i, h⟩
theorem f145 : fieldsOkT Tryz.prog 145 := by
  intro d hd; rw [Tryz.underlying145] at hd; cases hd
  intro f hf; simp only [List.mem_cons, List.not_mem_nil, or_false] at hf
  rcases hf with rfl | rfl | rfl | rfl | rfl
  · obtain ⟨i, h, _⟩ := e53.ex; exact ⟨i, h⟩
  · obtain ⟨i, h, _⟩ := e142.ex; exact ⟨i, h⟩
  · obtain ⟨i, h, _⟩ := e3.ex; exact ⟨i, h⟩
  · obtain ⟨i, h, _⟩ := e3.ex; exact ⟨i, h⟩
  · obtain ⟨i, h, _⟩ := e77.ex; exact ⟨i, h⟩
theorem f156 : fieldsOkT Tryz.prog 156 := by
  intro d hd; rw [Tryz.underlying156] at hd; cases hd
  intro f hf; simp only [List.mem_cons, List.not_mem_nil, or_false] at hf
  rcases hf with rfl | rfl
  · obtain ⟨i, h, _⟩ := e3.ex; exact ⟨i, h⟩
  · obtain ⟨i, h, _⟩ := e3.ex; exact ⟨i, h⟩
theorem f168 : fieldsOkT Tryz.prog 168 := by
  intro d hd; rw [Tryz.underlying168] at hd; cases hd
  intro f hf; simp only [List.mem_cons, List.not_mem_nil, or_false] at hf
  rcases hf with rfl | rfl
  · obtain ⟨i, h, _⟩ := e9.ex; exact ⟨i, h⟩
  · obtain ⟨i, h, _⟩ := e9.ex; exact ⟨i, h⟩
theorem f169 : fieldsOkT Tryz.prog 169 := by
  intro d hd; rw [Tryz.underlying169] at hd; cases hd
  intro f hf; simp only [List.mem_cons, List.not_mem_nil, or_false] at hf
  rcases hf with rfl | rfl
  · obtain ⟨i, h, _⟩ := e9.ex; exact ⟨i, h⟩
  · obtain ⟨i, h, _⟩ := e9.ex; exact ⟨i, h⟩
theorem f174 : fieldsOkT Tryz.prog 174 := by
  intro d hd; rw [Tryz.underlying174] at hd; cases hd
  intro f hf; simp only [List.mem_cons, List.not_mem_nil, or_false] at hf
  rcases hf with rfl | rfl | rfl
  · obtain ⟨i, h, _⟩ := e9.ex; exact ⟨i, h⟩
  · obtain ⟨i, h, _⟩ := e3.ex; exact ⟨i, h⟩
  · obtain ⟨i, h, _⟩ := e3.ex; exact ⟨i, h⟩
theorem f175 : fieldsOkT Tryz.prog 175 := by
  intro d hd; rw [Tryz.underlying175] at hd; cases hd
  intro f hf; simp only [List.mem_cons, List.not_mem_nil, or_false] at hf
  rcases hf with rfl | rfl | rfl
  · obtain ⟨i, h, _⟩ := e9.ex; exact ⟨i, h⟩
  · obtain ⟨i, h, _⟩ := e3.ex; exact ⟨i, h⟩
  · obtain ⟨i, h, _⟩ := e3.ex; exact ⟨i, h⟩
theorem f181 : fieldsOkT Tryz.prog 181 := by
  intro d hd; rw [Tryz.underlying181] at hd; cases hd
  intro f hf; simp only [List.mem_cons, List.not_mem_nil, or_false] at hf
  rcases hf with rfl | rfl | rfl
  · obtain ⟨i, h, _⟩ := e9.ex; exact ⟨i, h⟩
  · obtain ⟨i, h, _⟩ := e9.ex; exact ⟨i, h⟩
  · obtain ⟨i, h, _⟩ := e3.ex; exact ⟨i, h⟩
theorem f182 : fieldsOkT Tryz.prog 182 := by
  intro d hd; rw [Tryz.underlying182] at hd; cases hd
  intro f hf; simp only [List.mem_cons, List.not_mem_nil, or_false] at hf
  rcases hf with rfl | rfl | rfl
  · obtain ⟨i, h, _⟩ := e9.ex; exact ⟨i, h⟩
  · obtain ⟨i, h, _⟩ := e9.ex; exact ⟨i, h⟩
  · obtain ⟨i, h, _⟩ := e3.ex; exact ⟨i, h⟩
theorem f251 : fieldsOkT Tryz.prog 251 := by
  intro d hd; rw [Tryz.underlying251] at hd; cases hd
  intro f hf; simp only [List.mem_cons, List.not_mem_nil, or_false] at hf
  rcases hf with rfl | rfl | rfl
  · obtain ⟨i, h, _⟩ := e3.ex; exact ⟨i, h⟩
  · obtain ⟨i, h, _⟩ := e3.ex; exact ⟨i, h⟩
  · obtain ⟨i, h, _⟩ := e81.ex; exact ⟨i, h⟩
theorem f252 : fieldsOkT Tryz.prog 252 := by
  intro d hd; rw [Tryz.underlying252] at hd; cases hd
  intro f hf; simp only [List.mem_cons, List.not_mem_nil, or_false] at hf
  rcases hf with rfl | rfl | rfl
  · obtain ⟨i, h, _⟩ := e3.ex; exact ⟨i, h⟩
  · obtain ⟨i, h, _⟩ := e3.ex; exact ⟨i, h⟩
  · obtain ⟨i, h, _⟩ := e81.ex; exact ⟨i, h⟩
theorem q65 : EqT Tryz.prog 65 [.i .i64, .i .i64, .i .i64, .i .i64] := ⟨by kernel_rfl, by kernel_rfl⟩
theorem kqt65 : (EqT Tryz.prog 65 [.i .i64, .i .i64, .i .i64, .i .i64]) = True := eq_true q65
theorem k1 {K : Prop} : Chk (ElemZ Tryz.prog 1 (.nilFunc)) K = K := Chk_of e1
theorem k2 {K : Prop} : Chk (ElemZ Tryz.prog 2 (.int .i64 0)) K = K := Chk_of e2
theorem k3 {K : Prop} : Chk (ElemZ Tryz.prog 3 (.int .i64 0)) K = K := Chk_of e3
theorem ke3 : (ElemZ Tryz.prog 3 (.int .i64 0)) = True := eq_true e3
theorem k4 {K : Prop} : Chk (ElemZ Tryz.prog 4 (.bool false)) K = K := Chk_of e4
theorem ke4 : (ElemZ Tryz.prog 4 (.bool false)) = True := eq_true e4
theorem k5 {K : Prop} : Chk (ElemZ Tryz.prog 5 (.int .u8 0)) K = K := Chk_of e5
theorem ke65 : (ElemZ Tryz.prog 65 (.agg #[.int .i64 0, .int .i64 0, .int .i64 0, .int .i64 0])) = True := eq_true e65
theorem ke72 : (ElemZ Tryz.prog 72 (.agg #[.int .i64 0, .int .i64 0, .int .i64 0, .int .i64 0, .int .i64 0, .int .i64 0, .int .i64 0])) = True := eq_true e72
theorem ke76 : (ElemZ Tryz.prog 76 (.agg #[.int .i64 0, .int .i64 0, .int .i64 0, .int .i64 0, .slice none 0 0])) = True := eq_true e76
theorem ke77 : (ElemZ Tryz.prog 77 (.slice none 0 0)) = True := eq_true e77
theorem ke79 : (ElemZ Tryz.prog 79 (.agg #[.int .i64 0, .int .i64 0, .int .i64 0, .int .i64 0, .int .i64 0, .slice none 0 0])) = True := eq_true e79
theorem ke81 : (ElemZ Tryz.prog 81 (.slice none 0 0)) = True := eq_true e81
theorem ke156 : (ElemZ Tryz.prog 156 (.agg #[.int .i64 0, .int .i64 0])) = True := eq_true e156
theorem kt53 : (fieldsOkT Tryz.prog 53) = True := eq_true f53
theorem kt65 : (fieldsOkT Tryz.prog 65) = True := eq_true f65
theorem kt70 : (fieldsOkT Tryz.prog 70) = True := eq_true f70
theorem kt72 : (fieldsOkT Tryz.prog 72) = True := eq_true f72
theorem kt76 : (fieldsOkT Tryz.prog 76) = True := eq_true f76
theorem kt79 : (fieldsOkT Tryz.prog 79) = True := eq_true f79
theorem kt145 : (fieldsOkT Tryz.prog 145) = True := eq_true f145
theorem kt156 : (fieldsOkT Tryz.prog 156) = True := eq_true f156
theorem kt252 : (fieldsOkT Tryz.prog 252) = True := eq_true f252
theorem ky3 : Maps.Keyed Tryz.prog 3 = True := eq_true (Maps.int_keyed Tryz.underlying3)
theorem kt_3 (n : Int) : KeyT Tryz.prog 3 (.int .i64 n) = True := eq_true (.int Tryz.underlying3 n)
attribute [go_sem] kqt65
attribute [go_sem] Tryz.underlying0 Tryz.underlying1 Tryz.underlying2 Tryz.underlying3 Tryz.underlying4 Tryz.underlying5 Tryz.underlying6 Tryz.underlying7 Tryz.underlying8 Tryz.underlying9
attribute [go_sem] Tryz.underlying10 Tryz.underlying11 Tryz.underlying12 Tryz.underlying13 Tryz.underlying14 Tryz.underlying15 Tryz.underlying16 Tryz.underlying17 Tryz.underlying18 Tryz.underlying19 Tryz.underlying20 Tryz.underlying21
attribute [go_sem] Tryz.underlying22 Tryz.underlying23 Tryz.underlying24 Tryz.underlying25 Tryz.underlying26 Tryz.underlying27 Tryz.underlying28 Tryz.underlying29 Tryz.underlying30 Tryz.underlying31 Tryz.underlying32 Tryz.underlying33
attribute [go_sem] Tryz.underlying34 Tryz.underlying35 Tryz.underlying36 Tryz.underlying37 Tryz.underlying38 Tryz.underlying39 Tryz.underlying40 Tryz.underlying41 Tryz.underlying42 Tryz.underlying43 Tryz.underlying44 Tryz.underlying45
attribute [go_sem] Tryz.underlying46 Tryz.underlying47 Tryz.underlying48 Tryz.underlying49 Tryz.underlying50 Tryz.underlying51 Tryz.underlying52 Tryz.underlying53 Tryz.underlying54 Tryz.underlying55 Tryz.underlying56 Tryz.underlying57
attribute [go_sem] Tryz.underlying58 Tryz.underlying59 Tryz.underlying60 Tryz.underlying61 Tryz.underlying62 Tryz.underlying63 Tryz.underlying64 Tryz.underlying65 Tryz.underlying66 Tryz.underlying67 Tryz.underlying68 Tryz.underlying69
attribute [go_sem] Tryz.underlying70 Tryz.underlying71 Tryz.underlying72 Tryz.underlying73 Tryz.underlying74 Tryz.underlying75 Tryz.underlying76 Tryz.underlying77 Tryz.underlying78 Tryz.underlying79 Tryz.underlying80 Tryz.underlying81
attribute [go_sem] Tryz.underlying82 Tryz.underlying83 Tryz.underlying84 Tryz.underlying85 Tryz.underlying86 Tryz.underlying87 Tryz.underlying88 Tryz.underlying89 Tryz.underlying90 Tryz.underlying91 Tryz.underlying92 Tryz.underlying93
attribute [go_sem] Tryz.underlying94 Tryz.underlying95 Tryz.underlying96 Tryz.underlying97 Tryz.underlying98 Tryz.underlying99 Tryz.underlying100 Tryz.underlying101 Tryz.underlying102 Tryz.underlying103 Tryz.underlying104 Tryz.underlying105
attribute [go_sem] Tryz.underlying106 Tryz.underlying107 Tryz.underlying108 Tryz.underlying109 Tryz.underlying110 Tryz.underlying111 Tryz.underlying112 Tryz.underlying113 Tryz.underlying114 Tryz.underlying115 Tryz.underlying116 Tryz.underlying117
attribute [go_sem] Tryz.underlying118 Tryz.underlying119 Tryz.underlying120 Tryz.underlying121 Tryz.underlying122 Tryz.underlying123 Tryz.underlying124 Tryz.underlying125 Tryz.underlying126 Tryz.underlying127 Tryz.underlying128 Tryz.underlying129
attribute [go_sem] Tryz.underlying130 Tryz.underlying131 Tryz.underlying132 Tryz.underlying133 Tryz.underlying134 Tryz.underlying135 Tryz.underlying136 Tryz.underlying137 Tryz.underlying138 Tryz.underlying139 Tryz.underlying140 Tryz.underlying141
attribute [go_sem] Tryz.underlying142 Tryz.underlying143 Tryz.underlying144 Tryz.underlying145 Tryz.underlying146 Tryz.underlying147 Tryz.underlying148 Tryz.underlying149 Tryz.underlying150 Tryz.underlying151 Tryz.underlying152 Tryz.underlying153
attribute [go_sem] Tryz.underlying154 Tryz.underlying155 Tryz.underlying156 Tryz.underlying157 Tryz.underlying158 Tryz.underlying159 Tryz.underlying160 Tryz.underlying161 Tryz.underlying162 Tryz.underlying163 Tryz.underlying164 Tryz.underlying165
attribute [go_sem] Tryz.underlying166 Tryz.underlying167 Tryz.underlying168 Tryz.underlying169 Tryz.underlying170 Tryz.underlying171 Tryz.underlying172 Tryz.underlying173 Tryz.underlying174 Tryz.underlying175 Tryz.underlying176 Tryz.underlying177
attribute [go_sem] Tryz.underlying178 Tryz.underlying179 Tryz.underlying180 Tryz.underlying181 Tryz.underlying182 Tryz.underlying183 Tryz.underlying184 Tryz.underlying185 Tryz.underlying186 Tryz.underlying187 Tryz.underlying188 Tryz.underlying189
attribute [go_sem] Tryz.underlying190 Tryz.underlying191 Tryz.underlying192 Tryz.underlying193 Tryz.underlying194 Tryz.underlying195 Tryz.underlying196 Tryz.underlying197 Tryz.underlying198 Tryz.underlying199 Tryz.underlying200 Tryz.underlying201
attribute [go_sem] Tryz.underlying202 Tryz.underlying203 Tryz.underlying204 Tryz.underlying205 Tryz.underlying206 Tryz.underlying207 Tryz.underlying208 Tryz.underlying209 Tryz.underlying210 Tryz.underlying211 Tryz.underlying212 Tryz.underlying213
attribute [go_sem] Tryz.underlying214 Tryz.underlying215 Tryz.underlying216 Tryz.underlying217 Tryz.underlying218 Tryz.underlying219 Tryz.underlying220 Tryz.underlying221 Tryz.underlying222 Tryz.underlying223 Tryz.underlying224 Tryz.underlying225
attribute [go_sem] Tryz.underlying226 Tryz.underlying227 Tryz.underlying228 Tryz.underlying229 Tryz.underlying230 Tryz.underlying231 Tryz.underlying232 Tryz.underlying233 Tryz.underlying234 Tryz.underlying235 Tryz.underlying236 Tryz.underlying237
attribute [go_sem] Tryz.underlying238 Tryz.underlying239 Tryz.underlying240 Tryz.underlying241 Tryz.underlying242 Tryz.underlying243 Tryz.underlying244 Tryz.underlying245 Tryz.underlying246 Tryz.underlying247 Tryz.underlying248 Tryz.underlying249
attribute [go_sem] Tryz.underlying250 Tryz.underlying251 Tryz.underlying252 Tryz.underlying253 Tryz.underlying254 Tryz.underlying255 Tryz.underlying256 Tryz.underlying257 Tryz.underlying258 Tryz.underlying259 Tryz.underlying260 Tryz.underlying261
attribute [go_sem] Tryz.underlying262 Tryz.underlying263 Tryz.underlying264 Tryz.underlying265 Tryz.underlying266 Tryz.underlying267 Tryz.underlying268 Tryz.underlying269 Tryz.underlying270 Tryz.underlying271 Tryz.underlying272 Tryz.underlying273
attribute [go_sem] Tryz.underlying274 Tryz.underlying275 Tryz.underlying276 Tryz.underlying277 Tryz.underlying278 Tryz.underlying279 Tryz.underlying280 Tryz.underlying281 Tryz.underlying282 Tryz.underlying283 Tryz.underlying284 Tryz.underlying285
attribute [go_sem] Tryz.underlying286 Tryz.underlying287 Tryz.underlying288 Tryz.underlying289 Tryz.underlying290 Tryz.underlying291 Tryz.underlying292 Tryz.underlying293 Tryz.underlying294 Tryz.underlying295 Tryz.underlying296 Tryz.underlying297
attribute [go_sem] Tryz.underlying298 Tryz.underlying299 Tryz.underlying300 Tryz.underlying301 Tryz.underlying302 Tryz.underlying303 Tryz.underlying304 Tryz.underlying305 Tryz.underlying306 Tryz.underlying307 Tryz.underlying308 Tryz.underlying309
attribute [go_sem] Tryz.underlying310 Tryz.underlying311 Tryz.underlying312 Tryz.underlying313 Tryz.underlying314 Tryz.underlying315 Tryz.underlying316 Tryz.underlying317 Tryz.underlying318 Tryz.underlying319 Tryz.underlying320 Tryz.underlying321
attribute [go_sem] Tryz.underlying322 Tryz.underlying323 Tryz.underlying324 Tryz.underlying325 Tryz.underlying326 Tryz.underlying327 Tryz.underlying328 Tryz.underlying329 Tryz.underlying330 Tryz.underlying331 Tryz.underlying332 Tryz.underlying333
attribute [go_sem] Tryz.underlying334 Tryz.underlying335 Tryz.underlying336 Tryz.underlying337 Tryz.underlying338 Tryz.underlying339 Tryz.underlying340 Tryz.underlying341 Tryz.underlying342 Tryz.underlying343 Tryz.underlying344 Tryz.underlying345
attribute [go_sem] Tryz.underlying346 Tryz.underlying347 Tryz.underlying348 Tryz.underlying349 Tryz.underlying350 Tryz.underlying351 Tryz.underlying352 Tryz.underlying353 Tryz.underlying354 k1 z1
attribute [go_sem] c1 k2 z2 c2 k3 ke3 z3 c3 k4 ke4 z4
attribute [go_sem] c4 k5 z5 c5
attribute [go_sem] z9
attribute [go_sem] z20 z22
attribute [go_sem] z23 z24 z25
attribute [go_sem] z32
attribute [go_sem] z35
attribute [go_sem] z39
attribute [go_sem] z41
attribute [go_sem] z44 z45
attribute [go_sem] z50 c51
attribute [go_sem] z53 c53 z55
attribute [go_sem] c55 z57
attribute [go_sem] z63 z64
attribute [go_sem] ke65 z65 c65 z66
attribute [go_sem] z70 c70
attribute [go_sem] ke72 z72 c72 c73
attribute [go_sem] c74 ke76 z76 c76 ke77 z77
attribute [go_sem] c77 ke79 z79 c79
attribute [go_sem] ke81 z81 c81
attribute [go_sem] c141 c142
attribute [go_sem] z145
attribute [go_sem] z154 c154 ke156 z156
attribute [go_sem] c156
attribute [go_sem] z252
attribute [go_sem] kt53
attribute [go_sem] kt65 kt70
attribute [go_sem] kt72 kt76 kt79
attribute [go_sem] kt145 kt156
attribute [go_sem] kt252
attribute [go_sem] ky3
attribute [go_sem] kt_3
end Go.Fv.U

namespace Go.Fv.U
open Go Go.Proofs
set_option linter.unusedSimpArgs false
set_option linter.unusedVariables false
set_option maxRecDepth 8000
end Go.Fv.U

namespace Go.Fv.U
open Go Go.Proofs
set_option linter.unusedSimpArgs false
set_option linter.unusedVariables false
set_option maxRecDepth 8000
def sizeErr (w h : Int) : Int := if w < 1 ∨ 4000 < w ∨ h < 1 ∨ 4000 < h then 3 else if 1048576 < w * h then 4 else 0
set_option maxHeartbeats 1000000 in
theorem checkSize_ok (w h : Int) : FnOk Tryz.prog 90 [.int .i64 w, .int .i64 h] (.int .i64 (sizeErr w h)) [] := by
  refine FnOk.of_vc Tryz.func90 rfl (by decide) (by simp [Tryz.f90]) [.tmp 4] rfl fun w0 T0 _ => ?_
  simp only [Tryz.f90, argEnv]
  simp (maxSteps := 1000000) only [go_sem, simprocAttr, ↓reduceIte]
  (repeat' first | (with_reducible refine Asm.intro fun _ => ?_) | ((with_reducible refine Chk.intro ?_ ?_); (· first | omega | (with_reducible refine Chk.intro ?_ ?_ <;> omega) | (simp; done) | (simp; omega))) | ((with_reducible refine LetW.i64 ?_ ?_ ?_); (· omega); (· omega)) | ((with_reducible refine Ite.decide (fun _ => ?_) (fun _ => ?_)) <;> first | (exfalso; omega) | simp (maxSteps := 1000000) only [go_sem, simprocAttr, ↓reduceIte]) | ((with_reducible refine Ite.bool (fun _ => ?_) (fun _ => ?_)) <;> simp (maxSteps := 1000000) only [go_sem, simprocAttr, ↓reduceIte]) | (with_reducible refine And.intro ?_ ?_))
  · rename_i h1
    refine Ret.auto 0 ?_ rfl ?_ <;> simp only [go_sem, reduceCtorEq, reduceIte, Nat.reduceEqDiff, Nat.reduceLT, Nat.reduceLeDiff, Int.natCast_succ, Post, sizeErr]
    rw [if_pos (by omega)]
  · rename_i h1
    have hm1 : 0 ≤ w * h := Int.mul_nonneg (by omega) (by omega)
    have hm2 : w * h ≤ 4000 * 4000 := Int.mul_le_mul (by omega) (by omega) (by omega) (by omega)
    refine LetW.i64 (by omega) (by omega) ?_
    (repeat' first | (with_reducible refine Asm.intro fun _ => ?_) | ((with_reducible refine Chk.intro ?_ ?_); (· first | omega | (with_reducible refine Chk.intro ?_ ?_ <;> omega) | (simp; done) | (simp; omega))) | ((with_reducible refine LetW.i64 ?_ ?_ ?_); (· omega); (· omega)) | ((with_reducible refine Ite.decide (fun _ => ?_) (fun _ => ?_)) <;> first | (exfalso; omega) | simp (maxSteps := 1000000) only [go_sem, simprocAttr, ↓reduceIte]) | ((with_reducible refine Ite.bool (fun _ => ?_) (fun _ => ?_)) <;> simp (maxSteps := 1000000) only [go_sem, simprocAttr, ↓reduceIte]) | (with_reducible refine And.intro ?_ ?_))
    · refine Ret.auto 0 ?_ rfl ?_ <;> simp only [go_sem, reduceCtorEq, reduceIte, Nat.reduceEqDiff, Nat.reduceLT, Nat.reduceLeDiff, Int.natCast_succ, Post, sizeErr]
      rw [if_neg (by omega), if_pos (by omega)]
    · refine Ret.auto 0 ?_ rfl ?_ <;> simp only [go_sem, reduceCtorEq, reduceIte, Nat.reduceEqDiff, Nat.reduceLT, Nat.reduceLeDiff, Int.natCast_succ, Post, sizeErr]
      rw [if_neg (by omega), if_neg (by omega)]
def grayErr (w h : Int) (n : Nat) : Int := if sizeErr w h = 0 then (if (n : Int) = w * h then 0 else 2) else sizeErr w h
theorem sizeErr_zero {w h : Int} (e : sizeErr w h = 0) : 1 ≤ w ∧ w ≤ 4000 ∧ 1 ≤ h ∧ h ≤ 4000 ∧ w * h ≤ 1048576 ∧ 1 ≤ w * h := by
  unfold sizeErr at e
  split at e
  · omega
  · split at e
    · omega
    · rename_i h1 h2
      have : 1 * 1 ≤ w * h := Int.mul_le_mul (by omega) (by omega) (by omega) (by omega)
      omega
theorem sizeErr_of {w h : Int} (h1 : 1 ≤ w) (h2 : w ≤ 4000) (h3 : 1 ≤ h) (h4 : h ≤ 4000) (hm2 : w * h ≤ 1048576) : sizeErr w h = 0 := by
  unfold sizeErr
  rw [if_neg (by omega), if_neg (by omega)]
set_option maxHeartbeats 1000000 in
theorem checkBits_ok (w h : Int) (p : List Bool) : FnOk Tryz.prog 54 [.agg [.int .i64 w, .int .i64 h, .ro (.bools p)]] (.int .i64 (grayErr w h p.length)) [] := by
  refine FnOk.of_vc Tryz.func54 rfl (by decide) (by simp [Tryz.f54]) [.tmp 2] rfl fun w0 T0 _ => ?_
  simp only [Tryz.f54, argEnv]
  simp (maxSteps := 1000000) only [go_sem, simprocAttr, ↓reduceIte]
  (repeat' first | (with_reducible refine Asm.intro fun _ => ?_) | ((with_reducible refine Chk.intro ?_ ?_); (· first | omega | (with_reducible refine Chk.intro ?_ ?_ <;> omega) | (simp; done) | (simp; omega))) | ((with_reducible refine LetW.i64 ?_ ?_ ?_); (· omega); (· omega)) | ((with_reducible refine Ite.decide (fun _ => ?_) (fun _ => ?_)) <;> first | (exfalso; omega) | simp (maxSteps := 1000000) only [go_sem, simprocAttr, ↓reduceIte]) | ((with_reducible refine Ite.bool (fun _ => ?_) (fun _ => ?_)) <;> simp (maxSteps := 1000000) only [go_sem, simprocAttr, ↓reduceIte]) | (with_reducible refine And.intro ?_ ?_))
  refine VcCall.fr (args' := [.int .i64 w, .int .i64 h]) (FnFr.of_ok (checkSize_ok w h) rfl rfl) (by simp [argOkL, allOk, argOkN]) 0 rfl (by simp [rowsB]) ?_
  simp (maxSteps := 1000000) only [go_sem, simprocAttr, ↓reduceIte]
  (repeat' first | (with_reducible refine Asm.intro fun _ => ?_) | ((with_reducible refine Chk.intro ?_ ?_); (· first | omega | (with_reducible refine Chk.intro ?_ ?_ <;> omega) | (simp; done) | (simp; omega))) | ((with_reducible refine LetW.i64 ?_ ?_ ?_); (· omega); (· omega)) | ((with_reducible refine Ite.decide (fun _ => ?_) (fun _ => ?_)) <;> first | (exfalso; omega) | simp (maxSteps := 1000000) only [go_sem, simprocAttr, ↓reduceIte]) | ((with_reducible refine Ite.bool (fun _ => ?_) (fun _ => ?_)) <;> simp (maxSteps := 1000000) only [go_sem, simprocAttr, ↓reduceIte]) | (with_reducible refine And.intro ?_ ?_))

  · rename_i h1
    refine Ret.auto 0 ?_ rfl ?_ <;> simp only [go_sem, reduceCtorEq, reduceIte, Nat.reduceEqDiff, Nat.reduceLT, Nat.reduceLeDiff, Int.natCast_succ, Post, grayErr, h1, reduceIte]
  · have h1 : sizeErr w h = 0 := by omega
    have hs := sizeErr_zero h1
    refine LetW.i64 (by omega) (by omega) ?_
    (repeat' first | (with_reducible refine Asm.intro fun _ => ?_) | ((with_reducible refine Chk.intro ?_ ?_); (· first | omega | (with_reducible refine Chk.intro ?_ ?_ <;> omega) | (simp; done) | (simp; omega))) | ((with_reducible refine LetW.i64 ?_ ?_ ?_); (· omega); (· omega)) | ((with_reducible refine Ite.decide (fun _ => ?_) (fun _ => ?_)) <;> first | (exfalso; omega) | simp (maxSteps := 1000000) only [go_sem, simprocAttr, ↓reduceIte]) | ((with_reducible refine Ite.bool (fun _ => ?_) (fun _ => ?_)) <;> simp (maxSteps := 1000000) only [go_sem, simprocAttr, ↓reduceIte]) | (with_reducible refine And.intro ?_ ?_))
    · rename_i h2
      refine Ret.auto 0 ?_ rfl ?_ <;> simp only [go_sem, reduceCtorEq, reduceIte, Nat.reduceEqDiff, Nat.reduceLT, Nat.reduceLeDiff, Int.natCast_succ, Post, grayErr, h1, h2, reduceIte]
    · rename_i h2
      refine Ret.auto 0 ?_ rfl ?_ <;> simp only [go_sem, reduceCtorEq, reduceIte, Nat.reduceEqDiff, Nat.reduceLT, Nat.reduceLeDiff, Int.natCast_succ, Post, grayErr, h1, reduceIte]
      rw [if_pos (by omega)]
end Go.Fv.U

namespace Go.Fv.U
open Go Go.Proofs
set_option linter.unusedSimpArgs false
set_option linter.unusedVariables false
set_option maxRecDepth 8000

set_option maxHeartbeats 2000000 in
theorem sumsOf_ok (w h : Nat) (hw : w ≤ 4000) (hh : h ≤ 4000) (f : Nat) (caps : List AV) [CapsOk caps] (v : Nat → Int) (hv : ∀ i, 0 ≤ v i ∧ v i ≤ 255) (hq : ∀ i : Nat, i < w * h → FnFr Tryz.prog f ([.int .i64 i] ++ caps) (.int .i64 (v i)) []) :
    FnOk Tryz.prog 119 [.int .i64 w, .int .i64 h, .fn f caps] (.ptr 0 0) [(0, .box 252 [.int .i64 w, .int .i64 h, .own 1]), (1, .row 3 (.ints .i64 (sumsAt v w ((w + 1) * (h + 1)) ((w + 1) * (h + 1)))))] := by
  have hc : ((w : Int) + 1) * ((h : Int) + 1) = (((w + 1) * (h + 1) : Nat) : Int) := (Int.natCast_mul _ _).symm
  have hlast : ∀ y : Nat, y < h → (y + 2) * (w + 1) ≤ (w + 1) * (h + 1) := fun y hy => by rw [Nat.mul_comm]; exact Nat.mul_le_mul_left _ (by omega)
  have hb : (w + 1) * (h + 1) ≤ 4001 * 4001 := Nat.mul_le_mul (by omega) (by omega)
  generalize hn : (w + 1) * (h + 1) = n at hc hb hlast ⊢
  refine FnOk.of_vc Tryz.func119 rfl (by decide) (by simp [Tryz.f119]) [.tmp 6] rfl fun w0 T0 _ => ?_
  simp only [Tryz.f119, argEnv]
  simp (maxSteps := 1000000) only [go_sem, simprocAttr, ↓reduceIte]
  (repeat' first | (with_reducible refine Asm.intro fun _ => ?_) | ((with_reducible refine Chk.intro ?_ ?_); (· first | omega | (with_reducible refine Chk.intro ?_ ?_ <;> omega) | (simp; done) | (simp; omega))) | ((with_reducible refine LetW.i64 ?_ ?_ ?_); (· omega); (· omega)) | ((with_reducible refine Ite.decide (fun _ => ?_) (fun _ => ?_)) <;> first | (exfalso; omega) | simp (maxSteps := 1000000) only [go_sem, simprocAttr, ↓reduceIte]) | ((with_reducible refine Ite.bool (fun _ => ?_) (fun _ => ?_)) <;> simp (maxSteps := 1000000) only [go_sem, simprocAttr, ↓reduceIte]) | (with_reducible refine And.intro ?_ ?_))
  rw [hc]
  (repeat' first | (with_reducible refine Asm.intro fun _ => ?_) | ((with_reducible refine Chk.intro ?_ ?_); (· first | omega | (with_reducible refine Chk.intro ?_ ?_ <;> omega) | (simp; done) | (simp; omega))) | ((with_reducible refine LetW.i64 ?_ ?_ ?_); (· omega); (· omega)) | ((with_reducible refine Ite.decide (fun _ => ?_) (fun _ => ?_)) <;> first | (exfalso; omega) | simp (maxSteps := 1000000) only [go_sem, simprocAttr, ↓reduceIte]) | ((with_reducible refine Ite.bool (fun _ => ?_) (fun _ => ?_)) <;> simp (maxSteps := 1000000) only [go_sem, simprocAttr, ↓reduceIte]) | (with_reducible refine And.intro ?_ ?_))
  refine VcLoop.intro (fun y : Nat => ⟨69, [(22, .int .i64 y), (21, .int .i64 h), (7, .ptr 1 0), (0, .int .i64 w), (1, .int .i64 h), (2, .fn f caps)], [(1, .box 252 [.int .i64 w, .int .i64 h, .own 0]), (0, .row 3 (.ints .i64 (sumsAt v w n ((y + 1) * (w + 1)))))], 2⟩) (fun y => y ≤ h) (fun y => h - y) 0 ?_ (Nat.zero_le _) fun y hy => ?_
  · have e := sumsAt_first (v := v) (w := w) (n := n) (w + 1) (Nat.le_refl _) (by rw [← hn]; exact Nat.le_mul_of_pos_right _ (by omega))
    refine Ent.auto0 rfl ?_ ?_ <;> simp only [go_sem, reduceCtorEq, reduceIte, Nat.reduceEqDiff, Nat.reduceLT, Nat.reduceLeDiff, Int.natCast_succ, Nat.zero_add, Nat.one_mul, ← e, Int.toNat_natCast]
    simp [sumsAt]
  simp (maxSteps := 1000000) only [go_sem, simprocAttr, ↓reduceIte]
  (repeat' first | (with_reducible refine Asm.intro fun _ => ?_) | ((with_reducible refine Chk.intro ?_ ?_); (· first | omega | (with_reducible refine Chk.intro ?_ ?_ <;> omega) | (simp; done) | (simp; omega))) | ((with_reducible refine LetW.i64 ?_ ?_ ?_); (· omega); (· omega)) | ((with_reducible refine Ite.decide (fun _ => ?_) (fun _ => ?_)) <;> first | (exfalso; omega) | simp (maxSteps := 1000000) only [go_sem, simprocAttr, ↓reduceIte]) | ((with_reducible refine Ite.bool (fun _ => ?_) (fun _ => ?_)) <;> simp (maxSteps := 1000000) only [go_sem, simprocAttr, ↓reduceIte]) | (with_reducible refine And.intro ?_ ?_))
  · have hl := hlast y (by omega)
    have e2 : (y + 2) * (w + 1) = (y + 1) * (w + 1) + (w + 1) := by rw [← Nat.succ_mul]
    have z := tabAt_mk v (w := w) (x := 0) (y := y + 1) (by omega)
    rw [tab_zero, Nat.add_zero] at z
    have e := sumsAt_zero (v := v) (w := w) (n := n) (m := (y + 1) * (w + 1)) (by omega) z
    refine VcLoop.intro (fun x : Nat => ⟨69, [(26, .int .i64 x), (25, .int .i64 w), (9, .int .i64 (sumTo (fun i => v (y * w + i)) x)), (8, .int .i64 y), (22, .int .i64 y), (21, .int .i64 h), (7, .ptr 1 0), (0, .int .i64 w), (1, .int .i64 h), (2, .fn f caps)], [(1, .box 252 [.int .i64 w, .int .i64 h, .own 0]), (0, .row 3 (.ints .i64 (sumsAt v w n ((y + 1) * (w + 1) + x + 1))))], 2⟩) (fun x => x ≤ w) (fun x => w - x) 0 ?_ (Nat.zero_le _) fun x hx => ?_
    · refine Ent.auto0 rfl ?_ ?_ <;> simp only [go_sem, reduceCtorEq, reduceIte, Nat.reduceEqDiff, Nat.reduceLT, Nat.reduceLeDiff, Int.natCast_succ, Nat.add_zero, ← e]
      rfl
    simp (maxSteps := 1000000) only [go_sem, simprocAttr, ↓reduceIte]
    (repeat' first | (with_reducible refine Asm.intro fun _ => ?_) | ((with_reducible refine Chk.intro ?_ ?_); (· first | omega | (with_reducible refine Chk.intro ?_ ?_ <;> omega) | (simp; done) | (simp; omega))) | ((with_reducible refine LetW.i64 ?_ ?_ ?_); (· omega); (· omega)) | ((with_reducible refine Ite.decide (fun _ => ?_) (fun _ => ?_)) <;> first | (exfalso; omega) | simp (maxSteps := 1000000) only [go_sem, simprocAttr, ↓reduceIte]) | ((with_reducible refine Ite.bool (fun _ => ?_) (fun _ => ?_)) <;> simp (maxSteps := 1000000) only [go_sem, simprocAttr, ↓reduceIte]) | (with_reducible refine And.intro ?_ ?_))
    · have hyw : y * w ≤ 4000 * 4000 := Nat.mul_le_mul (by omega) hw
      have hin : y * w + x < w * h := by
        have : y * w + w ≤ h * w := by rw [← Nat.succ_mul]; exact Nat.mul_le_mul_right _ (by omega)
        rw [Nat.mul_comm w h]; omega
      have hs := sumTo_bd (f := fun i => v (y * w + i)) (c := 255) (fun i => hv _) x
      have hvi := hv (y * w + x)
      simp (maxSteps := 1000000) only [go_sem, simprocAttr, ↓reduceIte, up_add, up_mul]
      (repeat' first | (with_reducible refine Asm.intro fun _ => ?_) | ((with_reducible refine Chk.intro ?_ ?_); (· first | omega | (with_reducible refine Chk.intro ?_ ?_ <;> omega) | (simp; done) | (simp; omega))) | ((with_reducible refine LetW.i64 ?_ ?_ ?_); (· omega); (· omega)) | ((with_reducible refine Ite.decide (fun _ => ?_) (fun _ => ?_)) <;> first | (exfalso; omega) | simp (maxSteps := 1000000) only [go_sem, simprocAttr, ↓reduceIte]) | ((with_reducible refine Ite.bool (fun _ => ?_) (fun _ => ?_)) <;> simp (maxSteps := 1000000) only [go_sem, simprocAttr, ↓reduceIte]) | (with_reducible refine And.intro ?_ ?_))
      refine VcCall.fr (args' := [.int .i64 ((y * w + x : Nat) : Int)] ++ caps) (hq (y * w + x) hin) (by simp [argOkL, allOk, argOkN, allOk_caps]) 0 rfl (by simp [rowsB]) ?_
      simp (maxSteps := 1000000) only [go_sem, simprocAttr, ↓reduceIte]
      (repeat' first | (with_reducible refine Asm.intro fun _ => ?_) | ((with_reducible refine Chk.intro ?_ ?_); (· first | omega | (with_reducible refine Chk.intro ?_ ?_ <;> omega) | (simp; done) | (simp; omega))) | ((with_reducible refine LetW.i64 ?_ ?_ ?_); (· omega); (· omega)) | ((with_reducible refine Ite.decide (fun _ => ?_) (fun _ => ?_)) <;> first | (exfalso; omega) | simp (maxSteps := 1000000) only [go_sem, simprocAttr, ↓reduceIte]) | ((with_reducible refine Ite.bool (fun _ => ?_) (fun _ => ?_)) <;> simp (maxSteps := 1000000) only [go_sem, simprocAttr, ↓reduceIte]) | (with_reducible refine And.intro ?_ ?_))
      refine VcDraw.lex [28] [] (by kernel_rfl) (by kernel_rfl) ?_
      (repeat' first | with_reducible (first | intro _ | refine rc ?_ | refine rl ?_ | refine rh ?_ | refine rt ?_ | refine rf ?_ | refine rs ?_ | refine And.intro ?_ ?_) | omega | simp (maxSteps := 1000000) only [go_sem, simprocAttr, ↓reduceIte])
      have hA : (y + 1) * (w + 1) + x + 1 < n := by omega
      have e4 : (y + 1) * (w + 1) = y * (w + 1) + (w + 1) := Nat.succ_mul _ _
      have hB : y * (w + 1) + x + 1 < (y + 1) * (w + 1) + x + 1 := by omega
      have hlen := sumsAt_len (v := v) (w := w) (n := n) (m := (y + 1) * (w + 1) + x + 1) (by omega)
      have hget := sumsAt_get (v := v) (w := w) (n := n) hB
      rw [show y * (w + 1) + x + 1 = y * (w + 1) + (x + 1) from rfl, tabAt_mk v (by omega)] at hget
      have htb := tab_bd hv (w := w) (x := x + 1) (y := y) (by omega) (by omega)
      have hset := sumsAt_set (v := v) (w := w) (n := n) hA
      rw [show (y + 1) * (w + 1) + x + 1 = (y + 1) * (w + 1) + (x + 1) from rfl, tabAt_mk v (by omega), tab_succ] at hset
      simp only [up_add, up_one, up_mul, Int.toNat_natCast, hlen, hget, show y * (w + 1) + x + 1 = y * (w + 1) + (x + 1) from rfl]
      (repeat' first | (with_reducible refine Asm.intro fun _ => ?_) | ((with_reducible refine Chk.intro ?_ ?_); (· first | omega | (with_reducible refine Chk.intro ?_ ?_ <;> omega) | (simp; done) | (simp; omega))) | ((with_reducible refine LetW.i64 ?_ ?_ ?_); (· omega); (· omega)) | ((with_reducible refine Ite.decide (fun _ => ?_) (fun _ => ?_)) <;> first | (exfalso; omega) | simp (maxSteps := 1000000) only [go_sem, simprocAttr, ↓reduceIte]) | ((with_reducible refine Ite.bool (fun _ => ?_) (fun _ => ?_)) <;> simp (maxSteps := 1000000) only [go_sem, simprocAttr, ↓reduceIte]) | (with_reducible refine And.intro ?_ ?_))
      refine ⟨x + 1, Ent.auto0 rfl ?_ ?_, by omega, by omega⟩ <;> simp only [go_sem, reduceCtorEq, reduceIte, Nat.reduceEqDiff, Nat.reduceLT, Nat.reduceLeDiff, Int.natCast_succ]
      all_goals first | rfl | exact hset
    · refine ⟨y + 1, Ent.auto0 rfl ?_ ?_, by omega, by omega⟩ <;> simp only [go_sem, reduceCtorEq, reduceIte, Nat.reduceEqDiff, Nat.reduceLT, Nat.reduceLeDiff, Int.natCast_succ]
      have e3 : x = w := by omega
      all_goals first | rfl | (rw [e3, show y + 1 + 1 = y + 2 from rfl, e2]; rfl)
  · have e : y = h := by omega
    subst e
    rw [Nat.mul_comm] at hn
    refine Ret.auto 2 ?_ rfl ?_ <;> simp only [go_sem, reduceCtorEq, reduceIte, Nat.reduceEqDiff, Nat.reduceLT, Nat.reduceLeDiff, Int.natCast_succ, Post, hn]
end Go.Fv.U

namespace Go.Fv.U
open Go Go.Proofs
set_option linter.unusedSimpArgs false
set_option linter.unusedVariables false
set_option maxRecDepth 8000
theorem place_le {w h x y : Nat} (hx : x ≤ w) (hy : y ≤ h) : y * (w + 1) + x < (w + 1) * (h + 1) := by
  have : y * (w + 1) + (w + 1) ≤ (h + 1) * (w + 1) := by rw [← Nat.succ_mul]; exact Nat.mul_le_mul_right _ (by omega)
  rw [Nat.mul_comm (w + 1)]; omega

set_option maxHeartbeats 2000000 in
theorem in_ok (w h : Nat) (hw : w ≤ 4000) (hh : h ≤ 4000) (v : Nat → Int) (hv : ∀ i, 0 ≤ v i ∧ v i ≤ 255) (X Y W H : Nat) (hX : X + W ≤ w) (hY : Y + H ≤ h) :
    FnOk Tryz.prog 173 [.cell [.int .i64 w, .int .i64 h, .ro (.ints .i64 (sumsAt v w ((w + 1) * (h + 1)) ((w + 1) * (h + 1))))], .agg [.int .i64 X, .int .i64 Y, .int .i64 W, .int .i64 H]] (.int .i64 (rect v w X (X + W) Y (Y + H))) [] := by
  have p1 := place_le (w := w) (h := h) (x := X + W) (y := Y + H) hX hY
  have p2 := place_le (w := w) (h := h) (x := X + W) (y := Y) hX (by omega)
  have p3 := place_le (w := w) (h := h) (x := X) (y := Y + H) (by omega) hY
  have p4 := place_le (w := w) (h := h) (x := X) (y := Y) (by omega) (by omega)
  have hb : (w + 1) * (h + 1) ≤ 4001 * 4001 := Nat.mul_le_mul (by omega) (by omega)
  generalize (w + 1) * (h + 1) = n at p1 p2 p3 p4 hb ⊢
  refine FnOk.of_vc Tryz.func173 rfl (by decide) (by simp [Tryz.f173]) [.tmp 4] rfl fun w0 T0 _ => ?_
  simp only [Tryz.f173, argEnv]
  (repeat' first | with_reducible (first | intro _ | refine rc ?_ | refine rl ?_ | refine rh ?_ | refine rt ?_ | refine rf ?_ | refine rs ?_ | refine And.intro ?_ ?_) | omega | simp (maxSteps := 1000000) only [go_sem, simprocAttr, ↓reduceIte])
  refine VcDraw.lex [] [] (by kernel_rfl) (by kernel_rfl) ?_
  (repeat' first | with_reducible (first | intro _ | refine rc ?_ | refine rl ?_ | refine rh ?_ | refine rt ?_ | refine rf ?_ | refine rs ?_ | refine And.intro ?_ ?_) | omega | simp (maxSteps := 1000000) only [go_sem, simprocAttr, ↓reduceIte])
  simp only [up_add, up_one]
  refine VcDraw.lex [] [] (by kernel_rfl) (by kernel_rfl) ?_
  (repeat' first | with_reducible (first | intro _ | refine rc ?_ | refine rl ?_ | refine rh ?_ | refine rt ?_ | refine rf ?_ | refine rs ?_ | refine And.intro ?_ ?_) | omega | simp (maxSteps := 1000000) only [go_sem, simprocAttr, ↓reduceIte])
  have hlen := sumsAt_len (v := v) (w := w) (n := n) (m := n) (Nat.le_refl _)
  have g1 := sumsAt_get (v := v) (w := w) (n := n) p1
  have g2 := sumsAt_get (v := v) (w := w) (n := n) p2
  have g3 := sumsAt_get (v := v) (w := w) (n := n) p3
  have g4 := sumsAt_get (v := v) (w := w) (n := n) p4
  rw [tabAt_mk v (by omega)] at g1 g2 g3 g4
  have b1 := tab_bd hv (w := w) (x := X + W) (y := Y + H) (by omega) (by omega)
  have b2 := tab_bd hv (w := w) (x := X + W) (y := Y) (by omega) (by omega)
  have b3 := tab_bd hv (w := w) (x := X) (y := Y + H) (by omega) (by omega)
  have b4 := tab_bd hv (w := w) (x := X) (y := Y) (by omega) (by omega)
  simp only [up_add, up_one, up_mul, Int.toNat_natCast, hlen, g1, g2, g3, g4]
  (repeat' first | (with_reducible refine Asm.intro fun _ => ?_) | ((with_reducible refine Chk.intro ?_ ?_); (· first | omega | (with_reducible refine Chk.intro ?_ ?_ <;> omega) | (simp; done) | (simp; omega))) | ((with_reducible refine LetW.i64 ?_ ?_ ?_); (· omega); (· omega)) | ((with_reducible refine Ite.decide (fun _ => ?_) (fun _ => ?_)) <;> first | (exfalso; omega) | simp (maxSteps := 1000000) only [go_sem, simprocAttr, ↓reduceIte]) | ((with_reducible refine Ite.bool (fun _ => ?_) (fun _ => ?_)) <;> simp (maxSteps := 1000000) only [go_sem, simprocAttr, ↓reduceIte]) | (with_reducible refine And.intro ?_ ?_))
  refine Ret.auto 0 ?_ rfl ?_ <;> simp only [go_sem, reduceCtorEq, reduceIte, Nat.reduceEqDiff, Nat.reduceLT, Nat.reduceLeDiff, Int.natCast_succ, Post, rect]

end Go.Fv.U

namespace Go.Fv.U
open Go Go.Proofs
set_option linter.unusedSimpArgs false
set_option linter.unusedVariables false
set_option maxRecDepth 8000
/-- The first n values of a page told by places. -/
def rowsOf {α : Type} (w : Nat) (p : Nat → Nat → α) (n : Nat) : List α := (List.range n).map fun k => p (k % w) (k / w)
theorem rowsOf_len {α : Type} (w : Nat) (p : Nat → Nat → α) (n : Nat) : (rowsOf w p n).length = n := by simp [rowsOf]
theorem rowsOf_succ {α : Type} {w : Nat} (p : Nat → Nat → α) {x y : Nat} (hx : x < w) : rowsOf w p (y * w + (x + 1)) = rowsOf w p (y * w + x) ++ [p x y] := by
  unfold rowsOf
  rw [← Nat.add_assoc, List.range_succ, List.map_append]
  have e1 : (y * w + x) % w = x := by rw [Nat.mul_comm, Nat.mul_add_mod, Nat.mod_eq_of_lt hx]
  have e2 : (y * w + x) / w = y := by rw [Nat.mul_comm, Nat.mul_add_div (by omega), Nat.div_eq_of_lt hx, Nat.add_zero]
  simp [e1, e2]

end Go.Fv.U

namespace Go.Fv.U
open Go Go.Proofs
set_option linter.unusedSimpArgs false
set_option linter.unusedVariables false
set_option maxRecDepth 8000

def segL (v : Nat → Int) (w y l n : Nat) : List Int := (List.range n).map fun i => v (y * w + (l + i))
def boxL (v : Nat → Int) (w t l n : Nat) : Nat → List Int
  | 0 => []
  | m + 1 => boxL v w t l n m ++ segL v w (t + m) l n
theorem segL_succ (v : Nat → Int) (w y l n : Nat) : segL v w y l (n + 1) = segL v w y l n ++ [v (y * w + (l + n))] := by
  simp [segL, List.range_succ]
theorem segL_len (v : Nat → Int) (w y l n : Nat) : (segL v w y l n).length = n := by simp [segL]
theorem boxL_len (v : Nat → Int) (w t l n : Nat) : ∀ m, (boxL v w t l n m).length = m * n
  | 0 => by simp [boxL]
  | m + 1 => by simp [boxL, boxL_len v w t l n m, segL_len, Nat.succ_mul]
theorem sum_seg (v : Nat → Int) (w y l : Nat) : ∀ n, (segL v w y l n).sum = sumTo (fun i => v (y * w + i)) (l + n) - sumTo (fun i => v (y * w + i)) l
  | 0 => by simp [segL]
  | n + 1 => by
    have e : sumTo (fun i => v (y * w + i)) (l + (n + 1)) = sumTo (fun i => v (y * w + i)) (l + n) + v (y * w + (l + n)) := rfl
    rw [segL_succ, List.sum_append, sum_seg v w y l n, e]
    simp; omega
theorem sum_box (v : Nat → Int) (w t l n : Nat) : ∀ m, (boxL v w t l n m).sum = rect v w l (l + n) t (t + m)
  | 0 => by simp [boxL, rect]; omega
  | m + 1 => by
    rw [boxL, List.sum_append, sum_box v w t l n m, sum_seg, ← Nat.add_assoc]
    unfold rect
    rw [tab_succ, tab_succ]
    omega
theorem sum_bd {l : List Int} (h : ∀ x, x ∈ l → 0 ≤ x ∧ x ≤ 255) : 0 ≤ l.sum ∧ l.sum ≤ 255 * (l.length : Int) := by
  induction l with
  | nil => simp
  | cons x l ih =>
    have h1 := h x (.head _)
    have h2 := ih fun y hy => h y (.tail _ hy)
    simp only [List.sum_cons, List.length_cons]
    omega
theorem boxL_mem {v : Nat → Int} (hv : ∀ i, 0 ≤ v i ∧ v i ≤ 255) (w t l n : Nat) : ∀ m x, x ∈ boxL v w t l n m → 0 ≤ x ∧ x ≤ 255
  | 0, x, h => by simp [boxL] at h
  | m + 1, x, h => by
    rcases List.mem_append.1 h with h | h
    · exact boxL_mem hv w t l n m x h
    · obtain ⟨i, _, rfl⟩ := List.mem_map.1 h
      exact hv _

theorem rowsOf_get {w h x y : Nat} {f : Nat → Nat → Bool} (hx : x < w) (hy : y < h) : (rowsOf w f (h * w)).getD (y * w + x) false = f x y := by
  have b : y * w + w ≤ h * w := by rw [← Nat.succ_mul]; exact Nat.mul_le_mul_right _ (by omega)
  have e1 : (y * w + x) % w = x := by rw [Nat.mul_comm, Nat.mul_add_mod, Nat.mod_eq_of_lt hx]
  have e2 : (y * w + x) / w = y := by rw [Nat.mul_comm, Nat.mul_add_div (by omega), Nat.div_eq_of_lt hx, Nat.add_zero]
  unfold rowsOf
  rw [List.getD_eq_getElem?_getD, List.getElem?_map, List.getElem?_range (by omega)]
  simp [e1, e2]
end Go.Fv.U

namespace Go.Fv.U
open Go Go.Proofs
set_option linter.unusedSimpArgs false
set_option linter.unusedVariables false
set_option maxRecDepth 8000
/-- Ink as a number. -/
def inkV (p : List Bool) (i : Nat) : Int := if p.getD i false = true then 1 else 0
theorem inkV_bd (p : List Bool) (i : Nat) : 0 ≤ inkV p i ∧ inkV p i ≤ 255 := by unfold inkV; split <;> omega
theorem inkSums1_ok (W H : Int) (p : List Bool) (i : Nat) (hi : i < p.length) :
    FnOk Tryz.prog 120 [.int .i64 i, .cell [.int .i64 W, .int .i64 H, .ro (.bools p)]] (.int .i64 (inkV p i)) [] := by
  refine FnOk.of_vc Tryz.func120 rfl (by decide) (by simp [Tryz.f120]) [.tmp 3] rfl fun w0 T0 _ => ?_
  simp only [Tryz.f120, argEnv]
  (repeat' first | with_reducible (first | intro _ | refine rc ?_ | refine rl ?_ | refine rh ?_ | refine rt ?_ | refine rf ?_ | refine rs ?_ | refine And.intro ?_ ?_) | omega | simp (maxSteps := 1000000) only [go_sem, simprocAttr, ↓reduceIte])
  · rename_i h1
    refine Ret.auto 0 ?_ rfl ?_ <;> simp only [go_sem, reduceCtorEq, reduceIte, Nat.reduceEqDiff, Nat.reduceLT, Nat.reduceLeDiff, Int.natCast_succ, Post, inkV, h1, reduceIte]
  · rename_i h1
    refine Ret.auto 0 ?_ rfl ?_ <;> simp only [go_sem, reduceCtorEq, reduceIte, Nat.reduceEqDiff, Nat.reduceLT, Nat.reduceLeDiff, Int.natCast_succ, Post, inkV, h1, reduceIte]
set_option maxHeartbeats 2000000 in
theorem inkSums_ok (w h : Nat) (hw : w ≤ 4000) (hh : h ≤ 4000) (p : List Bool) (hp : p.length = w * h) :
    FnOk Tryz.prog 57 [.agg [.int .i64 w, .int .i64 h, .ro (.bools p)]] (.ptr 0 0) [(0, .box 252 [.int .i64 w, .int .i64 h, .own 1]), (1, .row 3 (.ints .i64 (sumsAt (inkV p) w ((w + 1) * (h + 1)) ((w + 1) * (h + 1)))))] := by
  haveI c1 : CapsOk [.cell [.int .i64 w, .int .i64 h, .ro (.bools p)]] := ⟨rfl⟩
  have k1 := sumsOf_ok w h hw hh 120 [.cell [.int .i64 w, .int .i64 h, .ro (.bools p)]] (inkV p) (inkV_bd p) (fun i hi => FnFr.of_ok (inkSums1_ok w h p i (by omega)) rfl rfl)
  generalize sumsAt (inkV p) w ((w + 1) * (h + 1)) ((w + 1) * (h + 1)) = L at *
  refine FnOk.of_vc Tryz.func57 rfl (by decide) (by simp [Tryz.f57]) [.tmp 2] rfl fun w0 T0 _ => ?_
  simp only [Tryz.f57, argEnv]
  (repeat' first | with_reducible (first | intro _ | refine rc ?_ | refine rl ?_ | refine rh ?_ | refine rt ?_ | refine rf ?_ | refine rs ?_ | refine And.intro ?_ ?_) | omega | simp (maxSteps := 1000000) only [go_sem, simprocAttr, ↓reduceIte])
  refine VcCall.fr (FnFr.of_ok k1 rfl rfl) (by simp only [noIdR_ok, argOkL, argOk, allOk, argOkN, List.drop_zero, lk, reduceIte, reduceCtorEq, Nat.reduceEqDiff, Option.some.injEq, Item.row.injEq, Item.box.injEq, AV.ro.injEq, exists_eq_left, exists_and_left, exists_eq_left', exists_eq_right, and_assoc, and_true, true_and, List.cons.injEq, exists_eq', exists_eq]) 2 rfl (by simp [rowsB, Item.below, Fv.below, belowL]) ?_
  (repeat' first | with_reducible (first | intro _ | refine rc ?_ | refine rl ?_ | refine rh ?_ | refine rt ?_ | refine rf ?_ | refine rs ?_ | refine And.intro ?_ ?_) | omega | simp (maxSteps := 1000000) only [go_sem, simprocAttr, ↓reduceIte])
  refine Ret.auto 2 ?_ rfl ?_ <;> simp only [go_sem, reduceCtorEq, reduceIte, Nat.reduceEqDiff, Nat.reduceLT, Nat.reduceLeDiff, Int.natCast_succ, Post]
end Go.Fv.U

namespace Go.Fv.U
open Go Go.Proofs
set_option linter.unusedSimpArgs false
set_option linter.unusedVariables false
set_option maxRecDepth 8000
end Go.Fv.U

namespace Go.Fv.U
open Go Go.Proofs
set_option linter.unusedSimpArgs false
set_option linter.unusedVariables false
set_option maxRecDepth 8000

def b2i (b : Bool) : Int := if b = true then 1 else 0
/-- A pixel of a part of a page. -/
def cutAt (p : List Bool) (w X Y x y : Nat) : Bool := p.getD ((Y + y) * w + X + x) false
theorem rows_box (p : List Bool) (w X Y W : Nat) : ∀ m : Nat, (rowsOf W (cutAt p w X Y) (m * W)).map b2i = boxL (inkV p) w Y X W m
  | 0 => by simp [rowsOf, boxL]
  | m + 1 => by
    have aux : ∀ k, k ≤ W → (rowsOf W (cutAt p w X Y) (m * W + k)).map b2i = boxL (inkV p) w Y X W m ++ segL (inkV p) w (Y + m) X k := by
      intro k
      induction k with
      | zero => intro _; rw [Nat.add_zero, rows_box p w X Y W m]; simp [segL]
      | succ k ih =>
        intro hk
        rw [rowsOf_succ _ (by omega), List.map_append, ih (by omega), segL_succ, List.append_assoc]
        simp [b2i, cutAt, inkV, Nat.add_assoc]
    rw [Nat.succ_mul, aux W (Nat.le_refl _), boxL]
/-- The ink of a part of a page, counted. -/
def inkN (p : List Bool) (w X Y W H : Nat) : Nat := (boxL (inkV p) w Y X W H).sum.toNat
theorem inkN_eq (p : List Bool) (w X Y W H : Nat) : (boxL (inkV p) w Y X W H).sum = ((inkN p w X Y W H : Nat) : Int) := by
  have h := sum_bd (boxL_mem (inkV_bd p) w Y X W H)
  unfold inkN; omega
theorem inkN_rect (p : List Bool) (w X Y W H : Nat) : rect (inkV p) w X (X + W) Y (Y + H) = ((inkN p w X Y W H : Nat) : Int) := by
  rw [← sum_box, inkN_eq]
theorem inkN_rows (p : List Bool) (w X Y W H : Nat) : ((rowsOf W (cutAt p w X Y) (H * W)).map b2i).sum = ((inkN p w X Y W H : Nat) : Int) := by
  rw [rows_box, inkN_eq]
theorem sum01_bd {l : List Int} (h : ∀ x, x ∈ l → 0 ≤ x ∧ x ≤ 1) : 0 ≤ l.sum ∧ l.sum ≤ (l.length : Int) := by
  induction l with
  | nil => simp
  | cons x l ih =>
    have h1 := h x (.head _)
    have h2 := ih fun y hy => h y (.tail _ hy)
    simp only [List.sum_cons, List.length_cons]
    omega
theorem boxL_mem1 (p : List Bool) (w t l n : Nat) : ∀ m x, x ∈ boxL (inkV p) w t l n m → 0 ≤ x ∧ x ≤ 1
  | 0, x, h => by simp [boxL] at h
  | m + 1, x, h => by
    rcases List.mem_append.1 h with h | h
    · exact boxL_mem1 p w t l n m x h
    · obtain ⟨i, _, rfl⟩ := List.mem_map.1 h
      unfold inkV; split <;> omega
theorem inkN_le (p : List Bool) (w X Y W H : Nat) : inkN p w X Y W H ≤ H * W := by
  have h := sum01_bd (boxL_mem1 p w Y X W H)
  rw [inkN_eq, boxL_len] at h
  omega
end Go.Fv.U
