/-
  A part of the proof of the claim: walks over the program's functions and the plain laws that these need. No condition of its own.
-/
import Derived.Test.YtmfhpdfebmhclaaDoorFvPart9
import Derived.Test.YtmfhpdfebmhclaaDoorProg
namespace Go.Fv.T
set_option linter.unusedSimpArgs false
set_option linter.unusedVariables false

theorem set_range {α : Type} {n i : Nat} (q : Nat → α) (d : α) (h : i < n) : ((List.range i).map q ++ List.replicate (n - i) d).set i (q i) = (List.range (i + 1)).map q ++ List.replicate (n - (i + 1)) d := by
  have e : n - i = (n - (i + 1)) + 1 := by omega
  rw [e, List.replicate_succ, List.set_append_right _ _ (by simp), List.range_succ, List.map_append]
  simp
def sumTo (f : Nat → Int) : Nat → Int
  | 0 => 0
  | n + 1 => sumTo f n + f n
theorem sumTo_bd {f : Nat → Int} {c : Int} (h : ∀ i, 0 ≤ f i ∧ f i ≤ c) : ∀ n : Nat, 0 ≤ sumTo f n ∧ sumTo f n ≤ n * c
  | 0 => by simp [sumTo]
  | n + 1 => by
    have := sumTo_bd h n
    have := h n
    simp only [sumTo]
    have e : ((n + 1 : Nat) : Int) * c = n * c + c := by rw [Int.natCast_add, Int.add_mul]; simp
    omega
def tab (v : Nat → Int) (w x y : Nat) : Int := sumTo (fun j => sumTo (fun i => v (j * w + i)) x) y
theorem tab_zero (v : Nat → Int) (w y : Nat) : tab v w 0 y = 0 := by
  unfold tab
  induction y with
  | zero => rfl
  | succ y ih => rw [sumTo, ih]; rfl
theorem tab_succ (v : Nat → Int) (w x y : Nat) : tab v w x (y + 1) = tab v w x y + sumTo (fun i => v (y * w + i)) x := rfl
theorem tab_bd {v : Nat → Int} (hv : ∀ i, 0 ≤ v i ∧ v i ≤ 255) {w x y : Nat} (hx : x ≤ 4001) (hy : y ≤ 4001) : 0 ≤ tab v w x y ∧ tab v w x y ≤ 4100000000 := by
  have h1 : ∀ j : Nat, 0 ≤ sumTo (fun i => v (j * w + i)) x ∧ sumTo (fun i => v (j * w + i)) x ≤ 1020255 := by
    intro j
    have := sumTo_bd (f := fun i => v (j * w + i)) (c := 255) (fun i => hv _) x
    omega
  have := sumTo_bd h1 y
  unfold tab
  omega
def tabAt (v : Nat → Int) (w k : Nat) : Int := tab v w (k % (w + 1)) (k / (w + 1))
theorem tabAt_mk (v : Nat → Int) {w x y : Nat} (hx : x ≤ w) : tabAt v w (y * (w + 1) + x) = tab v w x y := by
  unfold tabAt
  have e1 : (y * (w + 1) + x) % (w + 1) = x := by rw [Nat.mul_comm, Nat.mul_add_mod, Nat.mod_eq_of_lt (by omega)]
  have e2 : (y * (w + 1) + x) / (w + 1) = y := by rw [Nat.mul_comm, Nat.mul_add_div (by omega), Nat.div_eq_of_lt (by omega), Nat.add_zero]
  rw [e1, e2]
/-- The table when its first m values are there. -/
def sumsAt (v : Nat → Int) (w n m : Nat) : List Int := (List.range m).map (tabAt v w) ++ List.replicate (n - m) 0
theorem sumsAt_len {v : Nat → Int} {w n m : Nat} (h : m ≤ n) : (sumsAt v w n m).length = n := by simp [sumsAt]; omega
theorem sumsAt_set {v : Nat → Int} {w n m : Nat} (h : m < n) : (sumsAt v w n m).set m (tabAt v w m) = sumsAt v w n (m + 1) := set_range _ _ h
theorem sumsAt_get {v : Nat → Int} {w n m k : Nat} (h : k < m) : (sumsAt v w n m).getD k 0 = tabAt v w k := by
  unfold sumsAt
  rw [List.getD_eq_getElem?_getD, List.getElem?_append_left (by simpa using h)]
  simp [h]
theorem sumsAt_zero {v : Nat → Int} {w n m : Nat} (h : m < n) (hz : tabAt v w m = 0) : sumsAt v w n m = sumsAt v w n (m + 1) := by
  unfold sumsAt
  have e : n - m = (n - (m + 1)) + 1 := by omega
  rw [e, List.replicate_succ, List.range_succ, List.map_append]
  simp [hz]
theorem sumsAt_first {v : Nat → Int} {w n : Nat} : ∀ m, m ≤ w + 1 → m ≤ n → sumsAt v w n 0 = sumsAt v w n m
  | 0, _, _ => rfl
  | m + 1, h, h2 => by
    rw [sumsAt_first m (by omega) (by omega)]
    refine sumsAt_zero (by omega) ?_
    have := tabAt_mk v (w := w) (x := m) (y := 0) (by omega)
    rw [Nat.zero_mul, Nat.zero_add] at this
    rw [this]; rfl
/-- The sum over a part of the page. -/
def rect (v : Nat → Int) (w l r t b : Nat) : Int := tab v w r b - tab v w r t - tab v w l b + tab v w l t
end Go.Fv.T

/- Facts about the program's types: each shown by reckoning it out. -/
namespace Go.Fv.T
open Go Go.Proofs
theorem e1 : ElemZ Tryd.prog 1 (.nilFunc) := .of (by kernel_rfl) (by kernel_rfl)
theorem c1 : Tryd.prog.cellsOf 1 = 1 := e1.cellsOf
theorem e2 : ElemZ Tryd.prog 2 (.int .i64 0) := .of (by kernel_rfl) (by kernel_rfl)
theorem c2 : Tryd.prog.cellsOf 2 = 1 := e2.cellsOf
theorem e3 : ElemZ Tryd.prog 3 (.int .i64 0) := .of (by kernel_rfl) (by kernel_rfl)
theorem z3 : zeroOf Tryd.prog 3 = some (.int .i64 0) := e3.zero
theorem c3 : Tryd.prog.cellsOf 3 = 1 := e3.cellsOf
theorem e4 : ElemZ Tryd.prog 4 (.bool false) := .of (by kernel_rfl) (by kernel_rfl)
theorem z4 : zeroOf Tryd.prog 4 = some (.bool false) := e4.zero
theorem c4 : Tryd.prog.cellsOf 4 = 1 := e4.cellsOf
theorem e5 : ElemZ Tryd.prog 5 (.int .u8 0) := .of (by kernel_rfl) (by kernel_rfl)
theorem z5 : zeroOf Tryd.prog 5 = some (.int .u8 0) := e5.zero
theorem c5 : Tryd.prog.cellsOf 5 = 1 := e5.cellsOf
theorem e6 : ElemZ Tryd.prog 6 (.int .u8 0) := .of (by kernel_rfl) (by kernel_rfl)
theorem e9 : ElemZ Tryd.prog 9 (.string ⟨#[]⟩) := .of (by kernel_rfl) (by kernel_rfl)
theorem z9 : zeroOf Tryd.prog 9 = some (.string ⟨#[]⟩) := e9.zero
theorem c9 : Tryd.prog.cellsOf 9 = 1 := e9.cellsOf
theorem e17 : ElemZ Tryd.prog 17 (.pointer none) := .of (by kernel_rfl) (by kernel_rfl)
theorem e22 : ElemZ Tryd.prog 22 (.slice none 0 0) := .of (by kernel_rfl) (by kernel_rfl)
theorem z22 : zeroOf Tryd.prog 22 = some (.slice none 0 0) := e22.zero
theorem e23 : ElemZ Tryd.prog 23 (.slice none 0 0) := .of (by kernel_rfl) (by kernel_rfl)
theorem z23 : zeroOf Tryd.prog 23 = some (.slice none 0 0) := e23.zero
theorem c23 : Tryd.prog.cellsOf 23 = 1 := e23.cellsOf
theorem e25 : ElemZ Tryd.prog 25 (.slice none 0 0) := .of (by kernel_rfl) (by kernel_rfl)
theorem z25 : zeroOf Tryd.prog 25 = some (.slice none 0 0) := e25.zero
theorem c25 : Tryd.prog.cellsOf 25 = 1 := e25.cellsOf
theorem e26 : ElemZ Tryd.prog 26 (.slice none 0 0) := .of (by kernel_rfl) (by kernel_rfl)
theorem c26 : Tryd.prog.cellsOf 26 = 1 := e26.cellsOf
theorem e28 : ElemZ Tryd.prog 28 (.agg #[.int .i64 0, .int .i64 0, .slice none 0 0]) := .of (by kernel_rfl) (by kernel_rfl)
theorem z28 : zeroOf Tryd.prog 28 = some (.agg #[.int .i64 0, .int .i64 0, .slice none 0 0]) := e28.zero
theorem c28 : Tryd.prog.cellsOf 28 = 3 := e28.cellsOf
theorem e33 : ElemZ Tryd.prog 33 (.slice none 0 0) := .of (by kernel_rfl) (by kernel_rfl)
theorem z33 : zeroOf Tryd.prog 33 = some (.slice none 0 0) := e33.zero
theorem c33 : Tryd.prog.cellsOf 33 = 1 := e33.cellsOf
theorem e48 : ElemZ Tryd.prog 48 (.slice none 0 0) := .of (by kernel_rfl) (by kernel_rfl)
theorem e75 : ElemZ Tryd.prog 75 (.agg #[.int .i64 0, .int .i64 0, .int .i64 0, .int .i64 0]) := .of (by kernel_rfl) (by kernel_rfl)
theorem z75 : zeroOf Tryd.prog 75 = some (.agg #[.int .i64 0, .int .i64 0, .int .i64 0, .int .i64 0]) := e75.zero
theorem c75 : Tryd.prog.cellsOf 75 = 4 := e75.cellsOf
theorem e96 : ElemZ Tryd.prog 96 (.agg #[.int .i64 0, .int .i64 0, .slice none 0 0]) := .of (by kernel_rfl) (by kernel_rfl)
theorem z96 : zeroOf Tryd.prog 96 = some (.agg #[.int .i64 0, .int .i64 0, .slice none 0 0]) := e96.zero
theorem f7 : fieldsOkT Tryd.prog 7 := by
  intro d hd; rw [Tryd.underlying7] at hd; cases hd
  intro f hf; simp only [List.mem_cons, List.not_mem_nil, or_false] at hf
  rcases hf with rfl | rfl | rfl | rfl
  · obtain ⟨i, h, _⟩ := e2.ex; exact ⟨i, h⟩
  · obtain ⟨i, h, _⟩ := e3.ex; exact ⟨i, h⟩
  · obtain ⟨i, h, _⟩ := e4.ex; exact ⟨i, h⟩
  · obtain ⟨i, h, _⟩ := e6.ex; exact ⟨i, h⟩
theorem f8 : fieldsOkT Tryd.prog 8 := by
  intro d hd; rw [Tryd.underlying8] at hd; cases hd
  intro f hf; simp only [List.mem_cons, List.not_mem_nil, or_false] at hf
  rcases hf with rfl | rfl | rfl | rfl
  · obtain ⟨i, h, _⟩ := e2.ex; exact ⟨i, h⟩
  · obtain ⟨i, h, _⟩ := e3.ex; exact ⟨i, h⟩
  · obtain ⟨i, h, _⟩ := e4.ex; exact ⟨i, h⟩
  · obtain ⟨i, h, _⟩ := e6.ex; exact ⟨i, h⟩
theorem f18 : fieldsOkT Tryd.prog 18 := by
  intro d hd; rw [Tryd.underlying18] at hd; cases hd
  intro f hf; simp only [List.mem_cons, List.not_mem_nil, or_false] at hf
  rcases hf with rfl
  · obtain ⟨i, h, _⟩ := e17.ex; exact ⟨i, h⟩
theorem f19 : fieldsOkT Tryd.prog 19 := by
  intro d hd; rw [Tryd.underlying19] at hd; cases hd
  intro f hf; simp only [List.mem_cons, List.not_mem_nil, or_false] at hf
  rcases hf with rfl
  · obtain ⟨i, h, _⟩ := e17.ex; exact ⟨i, h⟩
theorem f28 : fieldsOkT Tryd.prog 28 := by
  intro d hd; rw [Tryd.underlying28] at hd; cases hd
  intro f hf; simp only [List.mem_cons, List.not_mem_nil, or_false] at hf
  rcases hf with rfl | rfl | rfl
  · obtain ⟨i, h, _⟩ := e3.ex; exact ⟨i, h⟩
  · obtain ⟨i, h, _⟩ := e3.ex; exact ⟨i, h⟩
  · obtain ⟨i, h, _⟩ := e26.ex; exact ⟨i, h⟩
theorem f49 : fieldsOkT Tryd.prog 49 := by
  intro d hd; rw [Tryd.underlying49] at hd; cases hd
  intro f hf; simp only [List.mem_cons, List.not_mem_nil, or_false] at hf
  rcases hf with rfl | rfl | rfl | rfl | rfl | rfl
  · obtain ⟨i, h, _⟩ := e9.ex; exact ⟨i, h⟩
  · obtain ⟨i, h, _⟩ := e4.ex; exact ⟨i, h⟩
  · obtain ⟨i, h, _⟩ := e3.ex; exact ⟨i, h⟩
  · obtain ⟨i, h, _⟩ := e3.ex; exact ⟨i, h⟩
  · obtain ⟨i, h, _⟩ := e3.ex; exact ⟨i, h⟩
  · obtain ⟨i, h, _⟩ := e48.ex; exact ⟨i, h⟩
theorem f52 : fieldsOkT Tryd.prog 52 := by
  intro d hd; rw [Tryd.underlying52] at hd; cases hd
  intro f hf; simp only [List.mem_cons, List.not_mem_nil, or_false] at hf
  rcases hf with rfl | rfl
  · obtain ⟨i, h, _⟩ := e9.ex; exact ⟨i, h⟩
  · obtain ⟨i, h, _⟩ := e23.ex; exact ⟨i, h⟩
theorem f75 : fieldsOkT Tryd.prog 75 := by
  intro d hd; rw [Tryd.underlying75] at hd; cases hd
  intro f hf; simp only [List.mem_cons, List.not_mem_nil, or_false] at hf
  rcases hf with rfl | rfl | rfl | rfl
  · obtain ⟨i, h, _⟩ := e3.ex; exact ⟨i, h⟩
  · obtain ⟨i, h, _⟩ := e3.ex; exact ⟨i, h⟩
  · obtain ⟨i, h, _⟩ := e3.ex; exact ⟨i, h⟩
  · obtain ⟨i, h, _⟩ := e3.ex; exact ⟨i, h⟩
theorem f96 : fieldsOkT Tryd.prog 96 := by
  intro d hd; rw [Tryd.underlying96] at hd; cases hd
  intro f hf; simp only [List.mem_cons, List.not_mem_nil, or_false] at hf
  rcases hf with rfl | rfl | rfl
  · obtain ⟨i, h, _⟩ := e3.ex; exact ⟨i, h⟩
  · obtain ⟨i, h, _⟩ := e3.ex; exact ⟨i, h⟩
  · obtain ⟨i, h, _⟩ := e23.ex; exact ⟨i, h⟩
theorem k1 {K : Prop} : Chk (ElemZ Tryd.prog 1 (.nilFunc)) K = K := Chk_of e1
theorem k2 {K : Prop} : Chk (ElemZ Tryd.prog 2 (.int .i64 0)) K = K := Chk_of e2
theorem k3 {K : Prop} : Chk (ElemZ Tryd.prog 3 (.int .i64 0)) K = K := Chk_of e3
theorem ke3 : (ElemZ Tryd.prog 3 (.int .i64 0)) = True := eq_true e3
theorem k4 {K : Prop} : Chk (ElemZ Tryd.prog 4 (.bool false)) K = K := Chk_of e4
theorem ke4 : (ElemZ Tryd.prog 4 (.bool false)) = True := eq_true e4
theorem ke5 : (ElemZ Tryd.prog 5 (.int .u8 0)) = True := eq_true e5
theorem ke9 : (ElemZ Tryd.prog 9 (.string ⟨#[]⟩)) = True := eq_true e9
theorem ke23 : (ElemZ Tryd.prog 23 (.slice none 0 0)) = True := eq_true e23
theorem ke28 : (ElemZ Tryd.prog 28 (.agg #[.int .i64 0, .int .i64 0, .slice none 0 0])) = True := eq_true e28
theorem kt28 : (fieldsOkT Tryd.prog 28) = True := eq_true f28
theorem kt75 : (fieldsOkT Tryd.prog 75) = True := eq_true f75
theorem kt96 : (fieldsOkT Tryd.prog 96) = True := eq_true f96
attribute [go_sem] Tryd.underlying0 Tryd.underlying1 Tryd.underlying2 Tryd.underlying3 Tryd.underlying4 Tryd.underlying5 Tryd.underlying6 Tryd.underlying7
attribute [go_sem] Tryd.underlying8 Tryd.underlying9 Tryd.underlying10 Tryd.underlying11 Tryd.underlying12 Tryd.underlying13 Tryd.underlying14 Tryd.underlying15 Tryd.underlying16 Tryd.underlying17 Tryd.underlying18 Tryd.underlying19
attribute [go_sem] Tryd.underlying20 Tryd.underlying21 Tryd.underlying22 Tryd.underlying23 Tryd.underlying24 Tryd.underlying25 Tryd.underlying26 Tryd.underlying27 Tryd.underlying28 Tryd.underlying29 Tryd.underlying30 Tryd.underlying31
attribute [go_sem] Tryd.underlying32 Tryd.underlying33 Tryd.underlying34 Tryd.underlying35 Tryd.underlying36 Tryd.underlying37 Tryd.underlying38 Tryd.underlying39 Tryd.underlying40 Tryd.underlying41 Tryd.underlying42 Tryd.underlying43
attribute [go_sem] Tryd.underlying44 Tryd.underlying45 Tryd.underlying46 Tryd.underlying47 Tryd.underlying48 Tryd.underlying49 Tryd.underlying50 Tryd.underlying51 Tryd.underlying52 Tryd.underlying53 Tryd.underlying54 Tryd.underlying55
attribute [go_sem] Tryd.underlying56 Tryd.underlying57 Tryd.underlying58 Tryd.underlying59 Tryd.underlying60 Tryd.underlying61 Tryd.underlying62 Tryd.underlying63 Tryd.underlying64 Tryd.underlying65 Tryd.underlying66 Tryd.underlying67
attribute [go_sem] Tryd.underlying68 Tryd.underlying69 Tryd.underlying70 Tryd.underlying71 Tryd.underlying72 Tryd.underlying73 Tryd.underlying74 Tryd.underlying75 Tryd.underlying76 Tryd.underlying77 Tryd.underlying78 Tryd.underlying79
attribute [go_sem] Tryd.underlying80 Tryd.underlying81 Tryd.underlying82 Tryd.underlying83 Tryd.underlying84 Tryd.underlying85 Tryd.underlying86 Tryd.underlying87 Tryd.underlying88 Tryd.underlying89 Tryd.underlying90 Tryd.underlying91
attribute [go_sem] Tryd.underlying92 Tryd.underlying93 Tryd.underlying94 Tryd.underlying95 Tryd.underlying96 Tryd.underlying97 Tryd.underlying98 Tryd.underlying99 Tryd.underlying100 Tryd.underlying101 Tryd.underlying102 Tryd.underlying103
attribute [go_sem] Tryd.underlying104 Tryd.underlying105 Tryd.underlying106 Tryd.underlying107 Tryd.underlying108 Tryd.underlying109 Tryd.underlying110 Tryd.underlying111 Tryd.underlying112 Tryd.underlying113 Tryd.underlying114 Tryd.underlying115
attribute [go_sem] Tryd.underlying116 Tryd.underlying117 Tryd.underlying118 Tryd.underlying119 Tryd.underlying120 Tryd.underlying121 Tryd.underlying122 Tryd.underlying123 Tryd.underlying124 Tryd.underlying125 Tryd.underlying126 Tryd.underlying127
attribute [go_sem] Tryd.underlying128 Tryd.underlying129 Tryd.underlying130 Tryd.underlying131 Tryd.underlying132 Tryd.underlying133 Tryd.underlying134 Tryd.underlying135 Tryd.underlying136 Tryd.underlying137 Tryd.underlying138 Tryd.underlying139
attribute [go_sem] Tryd.underlying140 k1 c1 k2 c2 k3 ke3 z3
attribute [go_sem] c3 k4 ke4 z4 c4 ke5 z5 c5
attribute [go_sem] ke9 z9
attribute [go_sem] c9
attribute [go_sem] z22 ke23 z23 c23
attribute [go_sem] z25 c25 c26
attribute [go_sem] ke28 z28 c28
attribute [go_sem] z33 c33
attribute [go_sem] z75 c75
attribute [go_sem] z96
attribute [go_sem] kt28
attribute [go_sem] kt75
attribute [go_sem] kt96
end Go.Fv.T

namespace Go.Fv.T
open Go Go.Proofs
set_option linter.unusedSimpArgs false
set_option linter.unusedVariables false
set_option maxRecDepth 8000
end Go.Fv.T

namespace Go.Fv.T
open Go Go.Proofs
set_option linter.unusedSimpArgs false
set_option linter.unusedVariables false
set_option maxRecDepth 8000
def sizeErr (w h : Int) : Int := if w < 1 ∨ 4000 < w ∨ h < 1 ∨ 4000 < h then 3 else if 1048576 < w * h then 4 else 0
set_option maxHeartbeats 1000000 in
theorem checkSize_ok (w h : Int) : FnOk Tryd.prog 52 [.int .i64 w, .int .i64 h] (.int .i64 (sizeErr w h)) [] := by
  refine FnOk.of_vc Tryd.func52 rfl (by decide) (by simp [Tryd.f52]) [.tmp 4] rfl fun w0 T0 _ => ?_
  simp only [Tryd.f52, argEnv]
  simp (maxSteps := 1000000) only [go_sem, reduceCtorEq, Nat.reduceLT, Nat.reduceLeDiff, reduceIte, ↓reduceIte, Nat.reduceEqDiff, Nat.reduceAdd, Nat.reduceMul, Nat.reduceSub, Int.reduceLE, Int.reduceLT, Int.reduceNeg, Int.reduceToNat]
  (repeat' first | (with_reducible refine Asm.intro fun _ => ?_) | ((with_reducible refine Chk.intro ?_ ?_); (· first | omega | (with_reducible refine Chk.intro ?_ ?_ <;> omega) | (simp; done) | (simp; omega))) | ((with_reducible refine LetW.i64 ?_ ?_ ?_); (· omega); (· omega)) | ((with_reducible refine Ite.decide (fun _ => ?_) (fun _ => ?_)) <;> first | (exfalso; omega) | simp (maxSteps := 1000000) only [go_sem, reduceCtorEq, Nat.reduceLT, Nat.reduceLeDiff, reduceIte, ↓reduceIte, Nat.reduceEqDiff, Nat.reduceAdd, Nat.reduceMul, Nat.reduceSub, Int.reduceLE, Int.reduceLT, Int.reduceNeg, Int.reduceToNat]) | ((with_reducible refine Ite.bool (fun _ => ?_) (fun _ => ?_)) <;> simp (maxSteps := 1000000) only [go_sem, reduceCtorEq, Nat.reduceLT, Nat.reduceLeDiff, reduceIte, ↓reduceIte, Nat.reduceEqDiff, Nat.reduceAdd, Nat.reduceMul, Nat.reduceSub, Int.reduceLE, Int.reduceLT, Int.reduceNeg, Int.reduceToNat]) | (with_reducible refine And.intro ?_ ?_))
  · rename_i h1
    refine Ret.auto 0 ?_ rfl ?_ <;> simp only [go_sem, reduceCtorEq, reduceIte, Nat.reduceEqDiff, Nat.reduceLT, Nat.reduceLeDiff, Int.natCast_succ, Post, sizeErr]
    rw [if_pos (by omega)]
  · rename_i h1
    have hm1 : 0 ≤ w * h := Int.mul_nonneg (by omega) (by omega)
    have hm2 : w * h ≤ 4000 * 4000 := Int.mul_le_mul (by omega) (by omega) (by omega) (by omega)
    refine LetW.i64 (by omega) (by omega) ?_
    (repeat' first | (with_reducible refine Asm.intro fun _ => ?_) | ((with_reducible refine Chk.intro ?_ ?_); (· first | omega | (with_reducible refine Chk.intro ?_ ?_ <;> omega) | (simp; done) | (simp; omega))) | ((with_reducible refine LetW.i64 ?_ ?_ ?_); (· omega); (· omega)) | ((with_reducible refine Ite.decide (fun _ => ?_) (fun _ => ?_)) <;> first | (exfalso; omega) | simp (maxSteps := 1000000) only [go_sem, reduceCtorEq, Nat.reduceLT, Nat.reduceLeDiff, reduceIte, ↓reduceIte, Nat.reduceEqDiff, Nat.reduceAdd, Nat.reduceMul, Nat.reduceSub, Int.reduceLE, Int.reduceLT, Int.reduceNeg, Int.reduceToNat]) | ((with_reducible refine Ite.bool (fun _ => ?_) (fun _ => ?_)) <;> simp (maxSteps := 1000000) only [go_sem, reduceCtorEq, Nat.reduceLT, Nat.reduceLeDiff, reduceIte, ↓reduceIte, Nat.reduceEqDiff, Nat.reduceAdd, Nat.reduceMul, Nat.reduceSub, Int.reduceLE, Int.reduceLT, Int.reduceNeg, Int.reduceToNat]) | (with_reducible refine And.intro ?_ ?_))
    · refine Ret.auto 0 ?_ rfl ?_ <;> simp only [go_sem, reduceCtorEq, reduceIte, Nat.reduceEqDiff, Nat.reduceLT, Nat.reduceLeDiff, Int.natCast_succ, Post, sizeErr]
      rw [if_neg (by omega), if_pos (by omega)]
    · refine Ret.auto 0 ?_ rfl ?_ <;> simp only [go_sem, reduceCtorEq, reduceIte, Nat.reduceEqDiff, Nat.reduceLT, Nat.reduceLeDiff, Int.natCast_succ, Post, sizeErr]
      rw [if_neg (by omega), if_neg (by omega)]
def grayErr (w h : Int) (n : Nat) : Int := if sizeErr w h = 0 then (if (n : Int) = w * h then 0 else 2) else sizeErr w h
theorem sizeErr_zero {w h : Int} (e : sizeErr w h = 0) : 1 ≤ w ∧ w ≤ 4000 ∧ 1 ≤ h ∧ h ≤ 4000 ∧ w * h ≤ 1048576 ∧ 1 ≤ w * h := by
  unfold sizeErr at e
  split at e
  · omega
  · split at e
    · omega
    · rename_i h1 h2
      have : 1 * 1 ≤ w * h := Int.mul_le_mul (by omega) (by omega) (by omega) (by omega)
      omega
theorem sizeErr_of {w h : Int} (h1 : 1 ≤ w) (h2 : w ≤ 1000) (h3 : 1 ≤ h) (h4 : h ≤ 1000) : sizeErr w h = 0 := by
  unfold sizeErr
  have hm2 : w * h ≤ 1000 * 1000 := Int.mul_le_mul (by omega) (by omega) (by omega) (by omega)
  rw [if_neg (by omega), if_neg (by omega)]
set_option maxHeartbeats 1000000 in
theorem checkBits_ok (w h : Int) (p : List Bool) : FnOk Tryd.prog 33 [.agg [.int .i64 w, .int .i64 h, .ro (.bools p)]] (.int .i64 (grayErr w h p.length)) [] := by
  refine FnOk.of_vc Tryd.func33 rfl (by decide) (by simp [Tryd.f33]) [.tmp 2] rfl fun w0 T0 _ => ?_
  simp only [Tryd.f33, argEnv]
  simp (maxSteps := 1000000) only [go_sem, reduceCtorEq, Nat.reduceLT, Nat.reduceLeDiff, reduceIte, ↓reduceIte, Nat.reduceEqDiff, Nat.reduceAdd, Nat.reduceMul, Nat.reduceSub, Int.reduceLE, Int.reduceLT, Int.reduceNeg, Int.reduceToNat]
  (repeat' first | (with_reducible refine Asm.intro fun _ => ?_) | ((with_reducible refine Chk.intro ?_ ?_); (· first | omega | (with_reducible refine Chk.intro ?_ ?_ <;> omega) | (simp; done) | (simp; omega))) | ((with_reducible refine LetW.i64 ?_ ?_ ?_); (· omega); (· omega)) | ((with_reducible refine Ite.decide (fun _ => ?_) (fun _ => ?_)) <;> first | (exfalso; omega) | simp (maxSteps := 1000000) only [go_sem, reduceCtorEq, Nat.reduceLT, Nat.reduceLeDiff, reduceIte, ↓reduceIte, Nat.reduceEqDiff, Nat.reduceAdd, Nat.reduceMul, Nat.reduceSub, Int.reduceLE, Int.reduceLT, Int.reduceNeg, Int.reduceToNat]) | ((with_reducible refine Ite.bool (fun _ => ?_) (fun _ => ?_)) <;> simp (maxSteps := 1000000) only [go_sem, reduceCtorEq, Nat.reduceLT, Nat.reduceLeDiff, reduceIte, ↓reduceIte, Nat.reduceEqDiff, Nat.reduceAdd, Nat.reduceMul, Nat.reduceSub, Int.reduceLE, Int.reduceLT, Int.reduceNeg, Int.reduceToNat]) | (with_reducible refine And.intro ?_ ?_))
  refine VcCall.fr (args' := [.int .i64 w, .int .i64 h]) (FnFr.of_ok (checkSize_ok w h) rfl rfl) (by simp [argOkL, allOk, argOkN]) 0 rfl (by simp [rowsB]) ?_
  simp (maxSteps := 1000000) only [go_sem, reduceCtorEq, Nat.reduceLT, Nat.reduceLeDiff, reduceIte, ↓reduceIte, Nat.reduceEqDiff, Nat.reduceAdd, Nat.reduceMul, Nat.reduceSub, Int.reduceLE, Int.reduceLT, Int.reduceNeg, Int.reduceToNat]
  (repeat' first | (with_reducible refine Asm.intro fun _ => ?_) | ((with_reducible refine Chk.intro ?_ ?_); (· first | omega | (with_reducible refine Chk.intro ?_ ?_ <;> omega) | (simp; done) | (simp; omega))) | ((with_reducible refine LetW.i64 ?_ ?_ ?_); (· omega); (· omega)) | ((with_reducible refine Ite.decide (fun _ => ?_) (fun _ => ?_)) <;> first | (exfalso; omega) | simp (maxSteps := 1000000) only [go_sem, reduceCtorEq, Nat.reduceLT, Nat.reduceLeDiff, reduceIte, ↓reduceIte, Nat.reduceEqDiff, Nat.reduceAdd, Nat.reduceMul, Nat.reduceSub, Int.reduceLE, Int.reduceLT, Int.reduceNeg, Int.reduceToNat]) | ((with_reducible refine Ite.bool (fun _ => ?_) (fun _ => ?_)) <;> simp (maxSteps := 1000000) only [go_sem, reduceCtorEq, Nat.reduceLT, Nat.reduceLeDiff, reduceIte, ↓reduceIte, Nat.reduceEqDiff, Nat.reduceAdd, Nat.reduceMul, Nat.reduceSub, Int.reduceLE, Int.reduceLT, Int.reduceNeg, Int.reduceToNat]) | (with_reducible refine And.intro ?_ ?_))

  · rename_i h1
    refine Ret.auto 0 ?_ rfl ?_ <;> simp only [go_sem, reduceCtorEq, reduceIte, Nat.reduceEqDiff, Nat.reduceLT, Nat.reduceLeDiff, Int.natCast_succ, Post, grayErr, h1, reduceIte]
  · have h1 : sizeErr w h = 0 := by omega
    have hs := sizeErr_zero h1
    refine LetW.i64 (by omega) (by omega) ?_
    (repeat' first | (with_reducible refine Asm.intro fun _ => ?_) | ((with_reducible refine Chk.intro ?_ ?_); (· first | omega | (with_reducible refine Chk.intro ?_ ?_ <;> omega) | (simp; done) | (simp; omega))) | ((with_reducible refine LetW.i64 ?_ ?_ ?_); (· omega); (· omega)) | ((with_reducible refine Ite.decide (fun _ => ?_) (fun _ => ?_)) <;> first | (exfalso; omega) | simp (maxSteps := 1000000) only [go_sem, reduceCtorEq, Nat.reduceLT, Nat.reduceLeDiff, reduceIte, ↓reduceIte, Nat.reduceEqDiff, Nat.reduceAdd, Nat.reduceMul, Nat.reduceSub, Int.reduceLE, Int.reduceLT, Int.reduceNeg, Int.reduceToNat]) | ((with_reducible refine Ite.bool (fun _ => ?_) (fun _ => ?_)) <;> simp (maxSteps := 1000000) only [go_sem, reduceCtorEq, Nat.reduceLT, Nat.reduceLeDiff, reduceIte, ↓reduceIte, Nat.reduceEqDiff, Nat.reduceAdd, Nat.reduceMul, Nat.reduceSub, Int.reduceLE, Int.reduceLT, Int.reduceNeg, Int.reduceToNat]) | (with_reducible refine And.intro ?_ ?_))
    · rename_i h2
      refine Ret.auto 0 ?_ rfl ?_ <;> simp only [go_sem, reduceCtorEq, reduceIte, Nat.reduceEqDiff, Nat.reduceLT, Nat.reduceLeDiff, Int.natCast_succ, Post, grayErr, h1, h2, reduceIte]
    · rename_i h2
      refine Ret.auto 0 ?_ rfl ?_ <;> simp only [go_sem, reduceCtorEq, reduceIte, Nat.reduceEqDiff, Nat.reduceLT, Nat.reduceLeDiff, Int.natCast_succ, Post, grayErr, h1, reduceIte]
      rw [if_pos (by omega)]
end Go.Fv.T

namespace Go.Fv.T
open Go Go.Proofs
set_option linter.unusedSimpArgs false
set_option linter.unusedVariables false
set_option maxRecDepth 8000

set_option maxHeartbeats 2000000 in
theorem sumsOf_ok (w h : Nat) (hw : w ≤ 4000) (hh : h ≤ 4000) (f : Nat) (caps : List AV) [CapsOk caps] (v : Nat → Int) (hv : ∀ i, 0 ≤ v i ∧ v i ≤ 255) (hq : ∀ i : Nat, i < w * h → FnFr Tryd.prog f ([.int .i64 i] ++ caps) (.int .i64 (v i)) []) :
    FnOk Tryd.prog 53 [.int .i64 w, .int .i64 h, .fn f caps] (.ptr 0 0) [(0, .box 96 [.int .i64 w, .int .i64 h, .own 1]), (1, .row 3 (.ints .i64 (sumsAt v w ((w + 1) * (h + 1)) ((w + 1) * (h + 1)))))] := by
  have hc : ((w : Int) + 1) * ((h : Int) + 1) = (((w + 1) * (h + 1) : Nat) : Int) := (Int.natCast_mul _ _).symm
  have hlast : ∀ y : Nat, y < h → (y + 2) * (w + 1) ≤ (w + 1) * (h + 1) := fun y hy => by rw [Nat.mul_comm]; exact Nat.mul_le_mul_left _ (by omega)
  have hb : (w + 1) * (h + 1) ≤ 4001 * 4001 := Nat.mul_le_mul (by omega) (by omega)
  generalize hn : (w + 1) * (h + 1) = n at hc hb hlast ⊢
  refine FnOk.of_vc Tryd.func53 rfl (by decide) (by simp [Tryd.f53]) [.tmp 6] rfl fun w0 T0 _ => ?_
  simp only [Tryd.f53, argEnv]
  simp (maxSteps := 1000000) only [go_sem, reduceCtorEq, Nat.reduceLT, Nat.reduceLeDiff, reduceIte, ↓reduceIte, Nat.reduceEqDiff, Nat.reduceAdd, Nat.reduceMul, Nat.reduceSub, Int.reduceLE, Int.reduceLT, Int.reduceNeg, Int.reduceToNat]
  (repeat' first | (with_reducible refine Asm.intro fun _ => ?_) | ((with_reducible refine Chk.intro ?_ ?_); (· first | omega | (with_reducible refine Chk.intro ?_ ?_ <;> omega) | (simp; done) | (simp; omega))) | ((with_reducible refine LetW.i64 ?_ ?_ ?_); (· omega); (· omega)) | ((with_reducible refine Ite.decide (fun _ => ?_) (fun _ => ?_)) <;> first | (exfalso; omega) | simp (maxSteps := 1000000) only [go_sem, reduceCtorEq, Nat.reduceLT, Nat.reduceLeDiff, reduceIte, ↓reduceIte, Nat.reduceEqDiff, Nat.reduceAdd, Nat.reduceMul, Nat.reduceSub, Int.reduceLE, Int.reduceLT, Int.reduceNeg, Int.reduceToNat]) | ((with_reducible refine Ite.bool (fun _ => ?_) (fun _ => ?_)) <;> simp (maxSteps := 1000000) only [go_sem, reduceCtorEq, Nat.reduceLT, Nat.reduceLeDiff, reduceIte, ↓reduceIte, Nat.reduceEqDiff, Nat.reduceAdd, Nat.reduceMul, Nat.reduceSub, Int.reduceLE, Int.reduceLT, Int.reduceNeg, Int.reduceToNat]) | (with_reducible refine And.intro ?_ ?_))
  rw [hc]
  (repeat' first | (with_reducible refine Asm.intro fun _ => ?_) | ((with_reducible refine Chk.intro ?_ ?_); (· first | omega | (with_reducible refine Chk.intro ?_ ?_ <;> omega) | (simp; done) | (simp; omega))) | ((with_reducible refine LetW.i64 ?_ ?_ ?_); (· omega); (· omega)) | ((with_reducible refine Ite.decide (fun _ => ?_) (fun _ => ?_)) <;> first | (exfalso; omega) | simp (maxSteps := 1000000) only [go_sem, reduceCtorEq, Nat.reduceLT, Nat.reduceLeDiff, reduceIte, ↓reduceIte, Nat.reduceEqDiff, Nat.reduceAdd, Nat.reduceMul, Nat.reduceSub, Int.reduceLE, Int.reduceLT, Int.reduceNeg, Int.reduceToNat]) | ((with_reducible refine Ite.bool (fun _ => ?_) (fun _ => ?_)) <;> simp (maxSteps := 1000000) only [go_sem, reduceCtorEq, Nat.reduceLT, Nat.reduceLeDiff, reduceIte, ↓reduceIte, Nat.reduceEqDiff, Nat.reduceAdd, Nat.reduceMul, Nat.reduceSub, Int.reduceLE, Int.reduceLT, Int.reduceNeg, Int.reduceToNat]) | (with_reducible refine And.intro ?_ ?_))
  refine VcLoop.intro (fun y : Nat => ⟨69, [(22, .int .i64 y), (21, .int .i64 h), (7, .ptr 1 0), (0, .int .i64 w), (1, .int .i64 h), (2, .fn f caps)], [(1, .box 96 [.int .i64 w, .int .i64 h, .own 0]), (0, .row 3 (.ints .i64 (sumsAt v w n ((y + 1) * (w + 1)))))], 2⟩) (fun y => y ≤ h) (fun y => h - y) 0 ?_ (Nat.zero_le _) fun y hy => ?_
  · have e := sumsAt_first (v := v) (w := w) (n := n) (w + 1) (Nat.le_refl _) (by rw [← hn]; exact Nat.le_mul_of_pos_right _ (by omega))
    refine Ent.auto0 rfl ?_ ?_ <;> simp only [go_sem, reduceCtorEq, reduceIte, Nat.reduceEqDiff, Nat.reduceLT, Nat.reduceLeDiff, Int.natCast_succ, Nat.zero_add, Nat.one_mul, ← e, Int.toNat_natCast]
    simp [sumsAt]
  simp (maxSteps := 1000000) only [go_sem, reduceCtorEq, Nat.reduceLT, Nat.reduceLeDiff, reduceIte, ↓reduceIte, Nat.reduceEqDiff, Nat.reduceAdd, Nat.reduceMul, Nat.reduceSub, Int.reduceLE, Int.reduceLT, Int.reduceNeg, Int.reduceToNat]
  (repeat' first | (with_reducible refine Asm.intro fun _ => ?_) | ((with_reducible refine Chk.intro ?_ ?_); (· first | omega | (with_reducible refine Chk.intro ?_ ?_ <;> omega) | (simp; done) | (simp; omega))) | ((with_reducible refine LetW.i64 ?_ ?_ ?_); (· omega); (· omega)) | ((with_reducible refine Ite.decide (fun _ => ?_) (fun _ => ?_)) <;> first | (exfalso; omega) | simp (maxSteps := 1000000) only [go_sem, reduceCtorEq, Nat.reduceLT, Nat.reduceLeDiff, reduceIte, ↓reduceIte, Nat.reduceEqDiff, Nat.reduceAdd, Nat.reduceMul, Nat.reduceSub, Int.reduceLE, Int.reduceLT, Int.reduceNeg, Int.reduceToNat]) | ((with_reducible refine Ite.bool (fun _ => ?_) (fun _ => ?_)) <;> simp (maxSteps := 1000000) only [go_sem, reduceCtorEq, Nat.reduceLT, Nat.reduceLeDiff, reduceIte, ↓reduceIte, Nat.reduceEqDiff, Nat.reduceAdd, Nat.reduceMul, Nat.reduceSub, Int.reduceLE, Int.reduceLT, Int.reduceNeg, Int.reduceToNat]) | (with_reducible refine And.intro ?_ ?_))
  · have hl := hlast y (by omega)
    have e2 : (y + 2) * (w + 1) = (y + 1) * (w + 1) + (w + 1) := by rw [← Nat.succ_mul]
    have z := tabAt_mk v (w := w) (x := 0) (y := y + 1) (by omega)
    rw [tab_zero, Nat.add_zero] at z
    have e := sumsAt_zero (v := v) (w := w) (n := n) (m := (y + 1) * (w + 1)) (by omega) z
    refine VcLoop.intro (fun x : Nat => ⟨69, [(26, .int .i64 x), (25, .int .i64 w), (9, .int .i64 (sumTo (fun i => v (y * w + i)) x)), (8, .int .i64 y), (22, .int .i64 y), (21, .int .i64 h), (7, .ptr 1 0), (0, .int .i64 w), (1, .int .i64 h), (2, .fn f caps)], [(1, .box 96 [.int .i64 w, .int .i64 h, .own 0]), (0, .row 3 (.ints .i64 (sumsAt v w n ((y + 1) * (w + 1) + x + 1))))], 2⟩) (fun x => x ≤ w) (fun x => w - x) 0 ?_ (Nat.zero_le _) fun x hx => ?_
    · refine Ent.auto0 rfl ?_ ?_ <;> simp only [go_sem, reduceCtorEq, reduceIte, Nat.reduceEqDiff, Nat.reduceLT, Nat.reduceLeDiff, Int.natCast_succ, Nat.add_zero, ← e]
      rfl
    simp (maxSteps := 1000000) only [go_sem, reduceCtorEq, Nat.reduceLT, Nat.reduceLeDiff, reduceIte, ↓reduceIte, Nat.reduceEqDiff, Nat.reduceAdd, Nat.reduceMul, Nat.reduceSub, Int.reduceLE, Int.reduceLT, Int.reduceNeg, Int.reduceToNat]
    (repeat' first | (with_reducible refine Asm.intro fun _ => ?_) | ((with_reducible refine Chk.intro ?_ ?_); (· first | omega | (with_reducible refine Chk.intro ?_ ?_ <;> omega) | (simp; done) | (simp; omega))) | ((with_reducible refine LetW.i64 ?_ ?_ ?_); (· omega); (· omega)) | ((with_reducible refine Ite.decide (fun _ => ?_) (fun _ => ?_)) <;> first | (exfalso; omega) | simp (maxSteps := 1000000) only [go_sem, reduceCtorEq, Nat.reduceLT, Nat.reduceLeDiff, reduceIte, ↓reduceIte, Nat.reduceEqDiff, Nat.reduceAdd, Nat.reduceMul, Nat.reduceSub, Int.reduceLE, Int.reduceLT, Int.reduceNeg, Int.reduceToNat]) | ((with_reducible refine Ite.bool (fun _ => ?_) (fun _ => ?_)) <;> simp (maxSteps := 1000000) only [go_sem, reduceCtorEq, Nat.reduceLT, Nat.reduceLeDiff, reduceIte, ↓reduceIte, Nat.reduceEqDiff, Nat.reduceAdd, Nat.reduceMul, Nat.reduceSub, Int.reduceLE, Int.reduceLT, Int.reduceNeg, Int.reduceToNat]) | (with_reducible refine And.intro ?_ ?_))
    · have hyw : y * w ≤ 4000 * 4000 := Nat.mul_le_mul (by omega) hw
      have hin : y * w + x < w * h := by
        have : y * w + w ≤ h * w := by rw [← Nat.succ_mul]; exact Nat.mul_le_mul_right _ (by omega)
        rw [Nat.mul_comm w h]; omega
      have hs := sumTo_bd (f := fun i => v (y * w + i)) (c := 255) (fun i => hv _) x
      have hvi := hv (y * w + x)
      simp (maxSteps := 1000000) only [go_sem, reduceCtorEq, Nat.reduceLT, Nat.reduceLeDiff, reduceIte, ↓reduceIte, Nat.reduceEqDiff, Nat.reduceAdd, Nat.reduceMul, Nat.reduceSub, Int.reduceLE, Int.reduceLT, Int.reduceNeg, Int.reduceToNat, up_add, up_mul]
      (repeat' first | (with_reducible refine Asm.intro fun _ => ?_) | ((with_reducible refine Chk.intro ?_ ?_); (· first | omega | (with_reducible refine Chk.intro ?_ ?_ <;> omega) | (simp; done) | (simp; omega))) | ((with_reducible refine LetW.i64 ?_ ?_ ?_); (· omega); (· omega)) | ((with_reducible refine Ite.decide (fun _ => ?_) (fun _ => ?_)) <;> first | (exfalso; omega) | simp (maxSteps := 1000000) only [go_sem, reduceCtorEq, Nat.reduceLT, Nat.reduceLeDiff, reduceIte, ↓reduceIte, Nat.reduceEqDiff, Nat.reduceAdd, Nat.reduceMul, Nat.reduceSub, Int.reduceLE, Int.reduceLT, Int.reduceNeg, Int.reduceToNat]) | ((with_reducible refine Ite.bool (fun _ => ?_) (fun _ => ?_)) <;> simp (maxSteps := 1000000) only [go_sem, reduceCtorEq, Nat.reduceLT, Nat.reduceLeDiff, reduceIte, ↓reduceIte, Nat.reduceEqDiff, Nat.reduceAdd, Nat.reduceMul, Nat.reduceSub, Int.reduceLE, Int.reduceLT, Int.reduceNeg, Int.reduceToNat]) | (with_reducible refine And.intro ?_ ?_))
      refine VcCall.fr (args' := [.int .i64 ((y * w + x : Nat) : Int)] ++ caps) (hq (y * w + x) hin) (by simp [argOkL, allOk, argOkN, allOk_caps]) 0 rfl (by simp [rowsB]) ?_
      simp (maxSteps := 1000000) only [go_sem, reduceCtorEq, Nat.reduceLT, Nat.reduceLeDiff, reduceIte, ↓reduceIte, Nat.reduceEqDiff, Nat.reduceAdd, Nat.reduceMul, Nat.reduceSub, Int.reduceLE, Int.reduceLT, Int.reduceNeg, Int.reduceToNat]
      (repeat' first | (with_reducible refine Asm.intro fun _ => ?_) | ((with_reducible refine Chk.intro ?_ ?_); (· first | omega | (with_reducible refine Chk.intro ?_ ?_ <;> omega) | (simp; done) | (simp; omega))) | ((with_reducible refine LetW.i64 ?_ ?_ ?_); (· omega); (· omega)) | ((with_reducible refine Ite.decide (fun _ => ?_) (fun _ => ?_)) <;> first | (exfalso; omega) | simp (maxSteps := 1000000) only [go_sem, reduceCtorEq, Nat.reduceLT, Nat.reduceLeDiff, reduceIte, ↓reduceIte, Nat.reduceEqDiff, Nat.reduceAdd, Nat.reduceMul, Nat.reduceSub, Int.reduceLE, Int.reduceLT, Int.reduceNeg, Int.reduceToNat]) | ((with_reducible refine Ite.bool (fun _ => ?_) (fun _ => ?_)) <;> simp (maxSteps := 1000000) only [go_sem, reduceCtorEq, Nat.reduceLT, Nat.reduceLeDiff, reduceIte, ↓reduceIte, Nat.reduceEqDiff, Nat.reduceAdd, Nat.reduceMul, Nat.reduceSub, Int.reduceLE, Int.reduceLT, Int.reduceNeg, Int.reduceToNat]) | (with_reducible refine And.intro ?_ ?_))
      refine VcDraw.lex [28] [] (by kernel_rfl) (by kernel_rfl) ?_
      (repeat' first | with_reducible (first | refine Asm.intro fun _ => ?_ | refine Chk.g ?_ | refine AnyI.i64 fun _ _ => ?_ | refine LetW.g ?_ | refine LetW.h ?_ | refine Ite.t fun _ => ?_ | refine Ite.f fun _ => ?_ | refine Ite.decide (fun _ => ?_) fun _ => ?_ | refine Ite.bool (fun _ => ?_) fun _ => ?_ | refine And.intro ?_ ?_) | omega | simp (maxSteps := 1000000) only [go_sem, reduceCtorEq, Nat.reduceLT, Nat.reduceLeDiff, reduceIte, ↓reduceIte, Nat.reduceEqDiff, Nat.reduceAdd, Nat.reduceMul, Nat.reduceSub, Int.reduceLE, Int.reduceLT, Int.reduceNeg, Int.reduceToNat])
      have hA : (y + 1) * (w + 1) + x + 1 < n := by omega
      have e4 : (y + 1) * (w + 1) = y * (w + 1) + (w + 1) := Nat.succ_mul _ _
      have hB : y * (w + 1) + x + 1 < (y + 1) * (w + 1) + x + 1 := by omega
      have hlen := sumsAt_len (v := v) (w := w) (n := n) (m := (y + 1) * (w + 1) + x + 1) (by omega)
      have hget := sumsAt_get (v := v) (w := w) (n := n) hB
      rw [show y * (w + 1) + x + 1 = y * (w + 1) + (x + 1) from rfl, tabAt_mk v (by omega)] at hget
      have htb := tab_bd hv (w := w) (x := x + 1) (y := y) (by omega) (by omega)
      have hset := sumsAt_set (v := v) (w := w) (n := n) hA
      rw [show (y + 1) * (w + 1) + x + 1 = (y + 1) * (w + 1) + (x + 1) from rfl, tabAt_mk v (by omega), tab_succ] at hset
      simp only [up_add, up_one, up_mul, Int.toNat_natCast, hlen, hget, show y * (w + 1) + x + 1 = y * (w + 1) + (x + 1) from rfl]
      (repeat' first | (with_reducible refine Asm.intro fun _ => ?_) | ((with_reducible refine Chk.intro ?_ ?_); (· first | omega | (with_reducible refine Chk.intro ?_ ?_ <;> omega) | (simp; done) | (simp; omega))) | ((with_reducible refine LetW.i64 ?_ ?_ ?_); (· omega); (· omega)) | ((with_reducible refine Ite.decide (fun _ => ?_) (fun _ => ?_)) <;> first | (exfalso; omega) | simp (maxSteps := 1000000) only [go_sem, reduceCtorEq, Nat.reduceLT, Nat.reduceLeDiff, reduceIte, ↓reduceIte, Nat.reduceEqDiff, Nat.reduceAdd, Nat.reduceMul, Nat.reduceSub, Int.reduceLE, Int.reduceLT, Int.reduceNeg, Int.reduceToNat]) | ((with_reducible refine Ite.bool (fun _ => ?_) (fun _ => ?_)) <;> simp (maxSteps := 1000000) only [go_sem, reduceCtorEq, Nat.reduceLT, Nat.reduceLeDiff, reduceIte, ↓reduceIte, Nat.reduceEqDiff, Nat.reduceAdd, Nat.reduceMul, Nat.reduceSub, Int.reduceLE, Int.reduceLT, Int.reduceNeg, Int.reduceToNat]) | (with_reducible refine And.intro ?_ ?_))
      refine ⟨x + 1, Ent.auto0 rfl ?_ ?_, by omega, by omega⟩ <;> simp only [go_sem, reduceCtorEq, reduceIte, Nat.reduceEqDiff, Nat.reduceLT, Nat.reduceLeDiff, Int.natCast_succ]
      all_goals first | rfl | exact hset
    · refine ⟨y + 1, Ent.auto0 rfl ?_ ?_, by omega, by omega⟩ <;> simp only [go_sem, reduceCtorEq, reduceIte, Nat.reduceEqDiff, Nat.reduceLT, Nat.reduceLeDiff, Int.natCast_succ]
      have e3 : x = w := by omega
      all_goals first | rfl | (rw [e3, show y + 1 + 1 = y + 2 from rfl, e2]; rfl)
  · have e : y = h := by omega
    subst e
    rw [Nat.mul_comm] at hn
    refine Ret.auto 2 ?_ rfl ?_ <;> simp only [go_sem, reduceCtorEq, reduceIte, Nat.reduceEqDiff, Nat.reduceLT, Nat.reduceLeDiff, Int.natCast_succ, Post, hn]
end Go.Fv.T

namespace Go.Fv.T
open Go Go.Proofs
set_option linter.unusedSimpArgs false
set_option linter.unusedVariables false
set_option maxRecDepth 8000
theorem place_le {w h x y : Nat} (hx : x ≤ w) (hy : y ≤ h) : y * (w + 1) + x < (w + 1) * (h + 1) := by
  have : y * (w + 1) + (w + 1) ≤ (h + 1) * (w + 1) := by rw [← Nat.succ_mul]; exact Nat.mul_le_mul_right _ (by omega)
  rw [Nat.mul_comm (w + 1)]; omega

set_option maxHeartbeats 2000000 in
theorem in_ok (w h : Nat) (hw : w ≤ 4000) (hh : h ≤ 4000) (v : Nat → Int) (hv : ∀ i, 0 ≤ v i ∧ v i ≤ 255) (X Y W H : Nat) (hX : X + W ≤ w) (hY : Y + H ≤ h) :
    FnOk Tryd.prog 35 [.cell [.int .i64 w, .int .i64 h, .ro (.ints .i64 (sumsAt v w ((w + 1) * (h + 1)) ((w + 1) * (h + 1))))], .agg [.int .i64 X, .int .i64 Y, .int .i64 W, .int .i64 H]] (.int .i64 (rect v w X (X + W) Y (Y + H))) [] := by
  have p1 := place_le (w := w) (h := h) (x := X + W) (y := Y + H) hX hY
  have p2 := place_le (w := w) (h := h) (x := X + W) (y := Y) hX (by omega)
  have p3 := place_le (w := w) (h := h) (x := X) (y := Y + H) (by omega) hY
  have p4 := place_le (w := w) (h := h) (x := X) (y := Y) (by omega) (by omega)
  have hb : (w + 1) * (h + 1) ≤ 4001 * 4001 := Nat.mul_le_mul (by omega) (by omega)
  generalize (w + 1) * (h + 1) = n at p1 p2 p3 p4 hb ⊢
  refine FnOk.of_vc Tryd.func35 rfl (by decide) (by simp [Tryd.f35]) [.tmp 4] rfl fun w0 T0 _ => ?_
  simp only [Tryd.f35, argEnv]
  (repeat' first | with_reducible (first | refine Asm.intro fun _ => ?_ | refine Chk.g ?_ | refine AnyI.i64 fun _ _ => ?_ | refine LetW.g ?_ | refine LetW.h ?_ | refine Ite.t fun _ => ?_ | refine Ite.f fun _ => ?_ | refine Ite.decide (fun _ => ?_) fun _ => ?_ | refine Ite.bool (fun _ => ?_) fun _ => ?_ | refine And.intro ?_ ?_) | omega | simp (maxSteps := 1000000) only [go_sem, reduceCtorEq, Nat.reduceLT, Nat.reduceLeDiff, reduceIte, ↓reduceIte, Nat.reduceEqDiff, Nat.reduceAdd, Nat.reduceMul, Nat.reduceSub, Int.reduceLE, Int.reduceLT, Int.reduceNeg, Int.reduceToNat])
  refine VcDraw.lex [] [] (by kernel_rfl) (by kernel_rfl) ?_
  (repeat' first | with_reducible (first | refine Asm.intro fun _ => ?_ | refine Chk.g ?_ | refine AnyI.i64 fun _ _ => ?_ | refine LetW.g ?_ | refine LetW.h ?_ | refine Ite.t fun _ => ?_ | refine Ite.f fun _ => ?_ | refine Ite.decide (fun _ => ?_) fun _ => ?_ | refine Ite.bool (fun _ => ?_) fun _ => ?_ | refine And.intro ?_ ?_) | omega | simp (maxSteps := 1000000) only [go_sem, reduceCtorEq, Nat.reduceLT, Nat.reduceLeDiff, reduceIte, ↓reduceIte, Nat.reduceEqDiff, Nat.reduceAdd, Nat.reduceMul, Nat.reduceSub, Int.reduceLE, Int.reduceLT, Int.reduceNeg, Int.reduceToNat])
  simp only [up_add, up_one]
  refine VcDraw.lex [] [] (by kernel_rfl) (by kernel_rfl) ?_
  (repeat' first | with_reducible (first | refine Asm.intro fun _ => ?_ | refine Chk.g ?_ | refine AnyI.i64 fun _ _ => ?_ | refine LetW.g ?_ | refine LetW.h ?_ | refine Ite.t fun _ => ?_ | refine Ite.f fun _ => ?_ | refine Ite.decide (fun _ => ?_) fun _ => ?_ | refine Ite.bool (fun _ => ?_) fun _ => ?_ | refine And.intro ?_ ?_) | omega | simp (maxSteps := 1000000) only [go_sem, reduceCtorEq, Nat.reduceLT, Nat.reduceLeDiff, reduceIte, ↓reduceIte, Nat.reduceEqDiff, Nat.reduceAdd, Nat.reduceMul, Nat.reduceSub, Int.reduceLE, Int.reduceLT, Int.reduceNeg, Int.reduceToNat])
  have hlen := sumsAt_len (v := v) (w := w) (n := n) (m := n) (Nat.le_refl _)
  have g1 := sumsAt_get (v := v) (w := w) (n := n) p1
  have g2 := sumsAt_get (v := v) (w := w) (n := n) p2
  have g3 := sumsAt_get (v := v) (w := w) (n := n) p3
  have g4 := sumsAt_get (v := v) (w := w) (n := n) p4
  rw [tabAt_mk v (by omega)] at g1 g2 g3 g4
  have b1 := tab_bd hv (w := w) (x := X + W) (y := Y + H) (by omega) (by omega)
  have b2 := tab_bd hv (w := w) (x := X + W) (y := Y) (by omega) (by omega)
  have b3 := tab_bd hv (w := w) (x := X) (y := Y + H) (by omega) (by omega)
  have b4 := tab_bd hv (w := w) (x := X) (y := Y) (by omega) (by omega)
  simp only [up_add, up_one, up_mul, Int.toNat_natCast, hlen, g1, g2, g3, g4]
  (repeat' first | (with_reducible refine Asm.intro fun _ => ?_) | ((with_reducible refine Chk.intro ?_ ?_); (· first | omega | (with_reducible refine Chk.intro ?_ ?_ <;> omega) | (simp; done) | (simp; omega))) | ((with_reducible refine LetW.i64 ?_ ?_ ?_); (· omega); (· omega)) | ((with_reducible refine Ite.decide (fun _ => ?_) (fun _ => ?_)) <;> first | (exfalso; omega) | simp (maxSteps := 1000000) only [go_sem, reduceCtorEq, Nat.reduceLT, Nat.reduceLeDiff, reduceIte, ↓reduceIte, Nat.reduceEqDiff, Nat.reduceAdd, Nat.reduceMul, Nat.reduceSub, Int.reduceLE, Int.reduceLT, Int.reduceNeg, Int.reduceToNat]) | ((with_reducible refine Ite.bool (fun _ => ?_) (fun _ => ?_)) <;> simp (maxSteps := 1000000) only [go_sem, reduceCtorEq, Nat.reduceLT, Nat.reduceLeDiff, reduceIte, ↓reduceIte, Nat.reduceEqDiff, Nat.reduceAdd, Nat.reduceMul, Nat.reduceSub, Int.reduceLE, Int.reduceLT, Int.reduceNeg, Int.reduceToNat]) | (with_reducible refine And.intro ?_ ?_))
  refine Ret.auto 0 ?_ rfl ?_ <;> simp only [go_sem, reduceCtorEq, reduceIte, Nat.reduceEqDiff, Nat.reduceLT, Nat.reduceLeDiff, Int.natCast_succ, Post, rect]

end Go.Fv.T

namespace Go.Fv.T
open Go Go.Proofs
set_option linter.unusedSimpArgs false
set_option linter.unusedVariables false
set_option maxRecDepth 8000
/-- The first n values of a page told by places. -/
def rowsOf {α : Type} (w : Nat) (p : Nat → Nat → α) (n : Nat) : List α := (List.range n).map fun k => p (k % w) (k / w)
theorem rowsOf_len {α : Type} (w : Nat) (p : Nat → Nat → α) (n : Nat) : (rowsOf w p n).length = n := by simp [rowsOf]
end Go.Fv.T

namespace Go.Fv.T
open Go Go.Proofs
set_option linter.unusedSimpArgs false
set_option linter.unusedVariables false
set_option maxRecDepth 8000

def segL (v : Nat → Int) (w y l n : Nat) : List Int := (List.range n).map fun i => v (y * w + (l + i))
def boxL (v : Nat → Int) (w t l n : Nat) : Nat → List Int
  | 0 => []
  | m + 1 => boxL v w t l n m ++ segL v w (t + m) l n
theorem segL_succ (v : Nat → Int) (w y l n : Nat) : segL v w y l (n + 1) = segL v w y l n ++ [v (y * w + (l + n))] := by
  simp [segL, List.range_succ]
theorem segL_len (v : Nat → Int) (w y l n : Nat) : (segL v w y l n).length = n := by simp [segL]
theorem boxL_len (v : Nat → Int) (w t l n : Nat) : ∀ m, (boxL v w t l n m).length = m * n
  | 0 => by simp [boxL]
  | m + 1 => by simp [boxL, boxL_len v w t l n m, segL_len, Nat.succ_mul]
theorem sum_seg (v : Nat → Int) (w y l : Nat) : ∀ n, (segL v w y l n).sum = sumTo (fun i => v (y * w + i)) (l + n) - sumTo (fun i => v (y * w + i)) l
  | 0 => by simp [segL]
  | n + 1 => by
    have e : sumTo (fun i => v (y * w + i)) (l + (n + 1)) = sumTo (fun i => v (y * w + i)) (l + n) + v (y * w + (l + n)) := rfl
    rw [segL_succ, List.sum_append, sum_seg v w y l n, e]
    simp; omega
theorem sum_box (v : Nat → Int) (w t l n : Nat) : ∀ m, (boxL v w t l n m).sum = rect v w l (l + n) t (t + m)
  | 0 => by simp [boxL, rect]; omega
  | m + 1 => by
    rw [boxL, List.sum_append, sum_box v w t l n m, sum_seg, ← Nat.add_assoc]
    unfold rect
    rw [tab_succ, tab_succ]
    omega
theorem sum_bd {l : List Int} (h : ∀ x, x ∈ l → 0 ≤ x ∧ x ≤ 255) : 0 ≤ l.sum ∧ l.sum ≤ 255 * (l.length : Int) := by
  induction l with
  | nil => simp
  | cons x l ih =>
    have h1 := h x (.head _)
    have h2 := ih fun y hy => h y (.tail _ hy)
    simp only [List.sum_cons, List.length_cons]
    omega
theorem boxL_mem {v : Nat → Int} (hv : ∀ i, 0 ≤ v i ∧ v i ≤ 255) (w t l n : Nat) : ∀ m x, x ∈ boxL v w t l n m → 0 ≤ x ∧ x ≤ 255
  | 0, x, h => by simp [boxL] at h
  | m + 1, x, h => by
    rcases List.mem_append.1 h with h | h
    · exact boxL_mem hv w t l n m x h
    · obtain ⟨i, _, rfl⟩ := List.mem_map.1 h
      exact hv _

end Go.Fv.T

namespace Go.Fv.T
open Go Go.Proofs
set_option linter.unusedSimpArgs false
set_option linter.unusedVariables false
set_option maxRecDepth 8000
/-- Ink as a number. -/
def inkV (p : List Bool) (i : Nat) : Int := if p.getD i false = true then 1 else 0
theorem inkV_bd (p : List Bool) (i : Nat) : 0 ≤ inkV p i ∧ inkV p i ≤ 255 := by unfold inkV; split <;> omega
theorem inkSums1_ok (W H : Int) (p : List Bool) (i : Nat) (hi : i < p.length) :
    FnOk Tryd.prog 54 [.int .i64 i, .cell [.int .i64 W, .int .i64 H, .ro (.bools p)]] (.int .i64 (inkV p i)) [] := by
  refine FnOk.of_vc Tryd.func54 rfl (by decide) (by simp [Tryd.f54]) [.tmp 3] rfl fun w0 T0 _ => ?_
  simp only [Tryd.f54, argEnv]
  (repeat' first | with_reducible (first | refine Asm.intro fun _ => ?_ | refine Chk.g ?_ | refine AnyI.i64 fun _ _ => ?_ | refine LetW.g ?_ | refine LetW.h ?_ | refine Ite.t fun _ => ?_ | refine Ite.f fun _ => ?_ | refine Ite.decide (fun _ => ?_) fun _ => ?_ | refine Ite.bool (fun _ => ?_) fun _ => ?_ | refine And.intro ?_ ?_) | omega | simp (maxSteps := 1000000) only [go_sem, reduceCtorEq, Nat.reduceLT, Nat.reduceLeDiff, reduceIte, ↓reduceIte, Nat.reduceEqDiff, Nat.reduceAdd, Nat.reduceMul, Nat.reduceSub, Int.reduceLE, Int.reduceLT, Int.reduceNeg, Int.reduceToNat])
  · rename_i h1
    refine Ret.auto 0 ?_ rfl ?_ <;> simp only [go_sem, reduceCtorEq, reduceIte, Nat.reduceEqDiff, Nat.reduceLT, Nat.reduceLeDiff, Int.natCast_succ, Post, inkV, h1, reduceIte]
  · rename_i h1
    refine Ret.auto 0 ?_ rfl ?_ <;> simp only [go_sem, reduceCtorEq, reduceIte, Nat.reduceEqDiff, Nat.reduceLT, Nat.reduceLeDiff, Int.natCast_succ, Post, inkV, h1, reduceIte]
set_option maxHeartbeats 2000000 in
theorem inkSums_ok (w h : Nat) (hw : w ≤ 4000) (hh : h ≤ 4000) (p : List Bool) (hp : p.length = w * h) :
    FnOk Tryd.prog 34 [.agg [.int .i64 w, .int .i64 h, .ro (.bools p)]] (.ptr 0 0) [(0, .box 96 [.int .i64 w, .int .i64 h, .own 1]), (1, .row 3 (.ints .i64 (sumsAt (inkV p) w ((w + 1) * (h + 1)) ((w + 1) * (h + 1)))))] := by
  haveI c1 : CapsOk [.cell [.int .i64 w, .int .i64 h, .ro (.bools p)]] := ⟨rfl⟩
  have k1 := sumsOf_ok w h hw hh 54 [.cell [.int .i64 w, .int .i64 h, .ro (.bools p)]] (inkV p) (inkV_bd p) (fun i hi => FnFr.of_ok (inkSums1_ok w h p i (by omega)) rfl rfl)
  generalize sumsAt (inkV p) w ((w + 1) * (h + 1)) ((w + 1) * (h + 1)) = L at *
  refine FnOk.of_vc Tryd.func34 rfl (by decide) (by simp [Tryd.f34]) [.tmp 2] rfl fun w0 T0 _ => ?_
  simp only [Tryd.f34, argEnv]
  (repeat' first | with_reducible (first | refine Asm.intro fun _ => ?_ | refine Chk.g ?_ | refine AnyI.i64 fun _ _ => ?_ | refine LetW.g ?_ | refine LetW.h ?_ | refine Ite.t fun _ => ?_ | refine Ite.f fun _ => ?_ | refine Ite.decide (fun _ => ?_) fun _ => ?_ | refine Ite.bool (fun _ => ?_) fun _ => ?_ | refine And.intro ?_ ?_) | omega | simp (maxSteps := 1000000) only [go_sem, reduceCtorEq, Nat.reduceLT, Nat.reduceLeDiff, reduceIte, ↓reduceIte, Nat.reduceEqDiff, Nat.reduceAdd, Nat.reduceMul, Nat.reduceSub, Int.reduceLE, Int.reduceLT, Int.reduceNeg, Int.reduceToNat])
  refine VcCall.fr (FnFr.of_ok k1 rfl rfl) (by simp only [noIdR_ok, argOkL, argOk, allOk, argOkN, List.drop_zero, lk, reduceIte, reduceCtorEq, Nat.reduceEqDiff, Option.some.injEq, Item.row.injEq, Item.box.injEq, AV.ro.injEq, exists_eq_left, exists_and_left, exists_eq_left', exists_eq_right, and_assoc, and_true, true_and, List.cons.injEq, exists_eq', exists_eq]) 2 rfl (by simp [rowsB, Item.below, Fv.below, belowL]) ?_
  (repeat' first | with_reducible (first | refine Asm.intro fun _ => ?_ | refine Chk.g ?_ | refine AnyI.i64 fun _ _ => ?_ | refine LetW.g ?_ | refine LetW.h ?_ | refine Ite.t fun _ => ?_ | refine Ite.f fun _ => ?_ | refine Ite.decide (fun _ => ?_) fun _ => ?_ | refine Ite.bool (fun _ => ?_) fun _ => ?_ | refine And.intro ?_ ?_) | omega | simp (maxSteps := 1000000) only [go_sem, reduceCtorEq, Nat.reduceLT, Nat.reduceLeDiff, reduceIte, ↓reduceIte, Nat.reduceEqDiff, Nat.reduceAdd, Nat.reduceMul, Nat.reduceSub, Int.reduceLE, Int.reduceLT, Int.reduceNeg, Int.reduceToNat])
  refine Ret.auto 2 ?_ rfl ?_ <;> simp only [go_sem, reduceCtorEq, reduceIte, Nat.reduceEqDiff, Nat.reduceLT, Nat.reduceLeDiff, Int.natCast_succ, Post]
end Go.Fv.T

namespace Go.Fv.T
open Go Go.Proofs
set_option linter.unusedSimpArgs false
set_option linter.unusedVariables false
set_option maxRecDepth 8000
end Go.Fv.T

namespace Go.Fv.T
open Go Go.Proofs
set_option linter.unusedSimpArgs false
set_option linter.unusedVariables false
set_option maxRecDepth 8000

/-- The ink of a part of a page, counted. -/
def inkN (p : List Bool) (w X Y W H : Nat) : Nat := (boxL (inkV p) w Y X W H).sum.toNat
theorem inkN_eq (p : List Bool) (w X Y W H : Nat) : (boxL (inkV p) w Y X W H).sum = ((inkN p w X Y W H : Nat) : Int) := by
  have h := sum_bd (boxL_mem (inkV_bd p) w Y X W H)
  unfold inkN; omega
theorem inkN_rect (p : List Bool) (w X Y W H : Nat) : rect (inkV p) w X (X + W) Y (Y + H) = ((inkN p w X Y W H : Nat) : Int) := by
  rw [← sum_box, inkN_eq]
theorem sum01_bd {l : List Int} (h : ∀ x, x ∈ l → 0 ≤ x ∧ x ≤ 1) : 0 ≤ l.sum ∧ l.sum ≤ (l.length : Int) := by
  induction l with
  | nil => simp
  | cons x l ih =>
    have h1 := h x (.head _)
    have h2 := ih fun y hy => h y (.tail _ hy)
    simp only [List.sum_cons, List.length_cons]
    omega
theorem boxL_mem1 (p : List Bool) (w t l n : Nat) : ∀ m x, x ∈ boxL (inkV p) w t l n m → 0 ≤ x ∧ x ≤ 1
  | 0, x, h => by simp [boxL] at h
  | m + 1, x, h => by
    rcases List.mem_append.1 h with h | h
    · exact boxL_mem1 p w t l n m x h
    · obtain ⟨i, _, rfl⟩ := List.mem_map.1 h
      unfold inkV; split <;> omega
theorem inkN_le (p : List Bool) (w X Y W H : Nat) : inkN p w X Y W H ≤ H * W := by
  have h := sum01_bd (boxL_mem1 p w Y X W H)
  rw [inkN_eq, boxL_len] at h
  omega
end Go.Fv.T

namespace Go.Fv.T
open Go Go.Proofs
set_option linter.unusedSimpArgs false
set_option linter.unusedVariables false
set_option maxRecDepth 8000

theorem bitsErr_ok {w h : Nat} (hw1 : 1 ≤ w) (hw : w ≤ 1000) (hh1 : 1 ≤ h) (hh : h ≤ 1000) {n : Nat} (hn : n = w * h) : grayErr w h n = 0 := by
  unfold grayErr
  rw [sizeErr_of (by omega) (by omega) (by omega) (by omega), if_pos rfl, if_pos (by rw [hn]; exact Int.natCast_mul w h)]

end Go.Fv.T

namespace Go.Fv.T
open Go Go.Proofs
set_option linter.unusedSimpArgs false
set_option linter.unusedVariables false
set_option maxRecDepth 8000

end Go.Fv.T

namespace Go.Fv.T
open Go Go.Proofs
set_option linter.unusedSimpArgs false
set_option linter.unusedVariables false
set_option maxRecDepth 8000
end Go.Fv.T

namespace Go.Fv.T
open Go Go.Proofs
set_option linter.unusedSimpArgs false
set_option linter.unusedVariables false
set_option maxRecDepth 8000
/-- The part of the page that a place of the grid stands for, and its ink. -/
def gx (w side i : Nat) : Nat := i * w / side
def gridN (p : List Bool) (w h side i j : Nat) : Nat :=
  if 0 < (gx w side (i + 1) - gx w side i) * (gx h side (j + 1) - gx h side j) then
    inkN p w (gx w side i) (gx h side j) (gx w side (i + 1) - gx w side i) (gx h side (j + 1) - gx h side j) * 1000 / ((gx w side (i + 1) - gx w side i) * (gx h side (j + 1) - gx h side j))
  else 0
def gridV (p : List Bool) (w h side i j : Nat) : Int := ((gridN p w h side i j : Nat) : Int)
theorem gx_le {w side i : Nat} (hi : i ≤ side) : gx w side i ≤ w := by
  unfold gx
  rcases Nat.eq_zero_or_pos side with rfl | h
  · simp
  · exact Nat.div_le_of_le_mul (Nat.mul_le_mul_right _ hi)
theorem gx_mono {w side i : Nat} : gx w side i ≤ gx w side (i + 1) := by
  unfold gx
  exact Nat.div_le_div_right (Nat.mul_le_mul_right _ (Nat.le_succ _))

set_option maxHeartbeats 4000000 in
theorem grid_ok (w h : Nat) (hw1 : 1 ≤ w) (hw : w ≤ 32) (hh1 : 1 ≤ h) (hh : h ≤ 32) (p : List Bool) (hp : p.length = w * h) (side : Nat) (hs1 : 1 ≤ side) (hs2 : side ≤ 64) :
    FnOk Tryd.prog 16 [.agg [.int .i64 w, .int .i64 h, .ro (.bools p)], .int .i64 side] (.tup [.own 0, .int .i64 0]) [(0, .row 3 (.ints .i64 (rowsOf side (gridV p w h side) (side * side))))] := by
  have k1 := checkBits_ok w h p
  rw [bitsErr_ok hw1 (by omega) hh1 (by omega) hp] at k1
  have k2 := inkSums_ok w h (by omega) (by omega) p hp
  have hin := in_ok w h (by omega) (by omega) (inkV p) (inkV_bd p)
  generalize sumsAt (inkV p) w ((w + 1) * (h + 1)) ((w + 1) * (h + 1)) = L at *
  have hss : side * side ≤ 64 * 64 := Nat.mul_le_mul hs2 hs2
  generalize hn : side * side = n at *
  refine FnOk.of_vc Tryd.func16 rfl (by decide) (by simp [Tryd.f16]) [.tmp 4, .tmp 5] rfl fun w0 T0 _ => ?_
  simp only [Tryd.f16, argEnv]
  (repeat' first | with_reducible (first | refine Asm.intro fun _ => ?_ | refine Chk.g ?_ | refine AnyI.i64 fun _ _ => ?_ | refine LetW.g ?_ | refine LetW.h ?_ | refine Ite.t fun _ => ?_ | refine Ite.f fun _ => ?_ | refine Ite.decide (fun _ => ?_) fun _ => ?_ | refine Ite.bool (fun _ => ?_) fun _ => ?_ | refine And.intro ?_ ?_) | omega | simp (maxSteps := 1000000) only [go_sem, reduceCtorEq, Nat.reduceLT, Nat.reduceLeDiff, reduceIte, ↓reduceIte, Nat.reduceEqDiff, Nat.reduceAdd, Nat.reduceMul, Nat.reduceSub, Int.reduceLE, Int.reduceLT, Int.reduceNeg, Int.reduceToNat])
  refine VcCall.fr (FnFr.of_ok k1 rfl rfl) (by simp only [noIdR_ok, argOkL, argOk, allOk, argOkN, List.drop_zero, lk, reduceIte, reduceCtorEq, Nat.reduceEqDiff, Option.some.injEq, Item.row.injEq, Item.box.injEq, AV.ro.injEq, exists_eq_left, exists_and_left, exists_eq_left', exists_eq_right, and_assoc, and_true, true_and, List.cons.injEq, exists_eq', exists_eq]) 0 rfl (by simp [rowsB]) ?_
  (repeat' first | with_reducible (first | refine Asm.intro fun _ => ?_ | refine Chk.g ?_ | refine AnyI.i64 fun _ _ => ?_ | refine LetW.g ?_ | refine LetW.h ?_ | refine Ite.t fun _ => ?_ | refine Ite.f fun _ => ?_ | refine Ite.decide (fun _ => ?_) fun _ => ?_ | refine Ite.bool (fun _ => ?_) fun _ => ?_ | refine And.intro ?_ ?_) | omega | simp (maxSteps := 1000000) only [go_sem, reduceCtorEq, Nat.reduceLT, Nat.reduceLeDiff, reduceIte, ↓reduceIte, Nat.reduceEqDiff, Nat.reduceAdd, Nat.reduceMul, Nat.reduceSub, Int.reduceLE, Int.reduceLT, Int.reduceNeg, Int.reduceToNat])
  refine VcCall.fr (FnFr.of_ok k2 rfl rfl) (by simp only [noIdR_ok, argOkL, argOk, allOk, argOkN, List.drop_zero, lk, reduceIte, reduceCtorEq, Nat.reduceEqDiff, Option.some.injEq, Item.row.injEq, Item.box.injEq, AV.ro.injEq, exists_eq_left, exists_and_left, exists_eq_left', exists_eq_right, and_assoc, and_true, true_and, List.cons.injEq, exists_eq', exists_eq]) 2 rfl (by simp [rowsB, Item.below, Fv.below, belowL]) ?_
  (repeat' first | with_reducible (first | refine Asm.intro fun _ => ?_ | refine Chk.g ?_ | refine AnyI.i64 fun _ _ => ?_ | refine LetW.g ?_ | refine LetW.h ?_ | refine Ite.t fun _ => ?_ | refine Ite.f fun _ => ?_ | refine Ite.decide (fun _ => ?_) fun _ => ?_ | refine Ite.bool (fun _ => ?_) fun _ => ?_ | refine And.intro ?_ ?_) | omega | simp (maxSteps := 1000000) only [go_sem, reduceCtorEq, Nat.reduceLT, Nat.reduceLeDiff, reduceIte, ↓reduceIte, Nat.reduceEqDiff, Nat.reduceAdd, Nat.reduceMul, Nat.reduceSub, Int.reduceLE, Int.reduceLT, Int.reduceNeg, Int.reduceToNat, up_mul, hn])
  refine VcLoop.intro (fun k : Nat => ⟨95, [(33, .int .i64 k), (32, .int .i64 n), (8, .own 3), (7, .ptr 1 0), (2, .ptr 0 0), (1, .int .i64 side)], [(0, .box 28 [.int .i64 w, .int .i64 h, .ro (.bools p)]), (1, .box 96 [.int .i64 w, .int .i64 h, .own 2]), (2, .row 3 (.ints .i64 L)), (3, .row 3 (.ints .i64 (rowsOf side (gridV p w h side) k ++ List.replicate (n - k) 0)))], 4⟩) (fun k => k ≤ n) (fun k => n - k) 0 ?_ (Nat.zero_le _) fun k hk => ?_
  · refine Ent.auto0 rfl ?_ ?_ <;> simp only [go_sem, reduceCtorEq, reduceIte, Nat.reduceEqDiff, Nat.reduceLT, Nat.reduceLeDiff, Int.natCast_succ, zrow, rowsOf, List.range_zero, List.map_nil, Nat.sub_zero, Int.toNat_natCast]
  (repeat' first | with_reducible (first | refine Asm.intro fun _ => ?_ | refine Chk.g ?_ | refine AnyI.i64 fun _ _ => ?_ | refine LetW.g ?_ | refine LetW.h ?_ | refine Ite.t fun _ => ?_ | refine Ite.f fun _ => ?_ | refine Ite.decide (fun _ => ?_) fun _ => ?_ | refine Ite.bool (fun _ => ?_) fun _ => ?_ | refine And.intro ?_ ?_) | omega | simp (maxSteps := 1000000) only [go_sem, reduceCtorEq, Nat.reduceLT, Nat.reduceLeDiff, reduceIte, ↓reduceIte, Nat.reduceEqDiff, Nat.reduceAdd, Nat.reduceMul, Nat.reduceSub, Int.reduceLE, Int.reduceLT, Int.reduceNeg, Int.reduceToNat])
  · have hkn : k < side * side := by omega
    have hi : k % side < side := Nat.mod_lt _ (by omega)
    have hj : k / side < side := Nat.div_lt_of_lt_mul hkn
    have hset := set_range (n := n) (fun k => gridV p w h side (k % side) (k / side)) 0 (show k < n by omega)
    have hr := rowsOf_len side (gridV p w h side) k
    generalize hie : k % side = i at *
    generalize hje : k / side = j at *
    refine VcDraw.lex [] [] (by kernel_rfl) (by kernel_rfl) ?_
    (repeat' first | with_reducible (first | refine Asm.intro fun _ => ?_ | refine Chk.g ?_ | refine AnyI.i64 fun _ _ => ?_ | refine LetW.g ?_ | refine LetW.h ?_ | refine Ite.t fun _ => ?_ | refine Ite.f fun _ => ?_ | refine Ite.decide (fun _ => ?_) fun _ => ?_ | refine Ite.bool (fun _ => ?_) fun _ => ?_ | refine And.intro ?_ ?_) | omega | simp (maxSteps := 1000000) only [go_sem, reduceCtorEq, Nat.reduceLT, Nat.reduceLeDiff, reduceIte, ↓reduceIte, Nat.reduceEqDiff, Nat.reduceAdd, Nat.reduceMul, Nat.reduceSub, Int.reduceLE, Int.reduceLT, Int.reduceNeg, Int.reduceToNat, up_tmod, up_tdiv, hie, hje])
    have b1 : i * w ≤ 64 * 32 := Nat.mul_le_mul (by omega) hw
    have b2 : j * h ≤ 64 * 32 := Nat.mul_le_mul (by omega) hh
    have b3 : (i + 1) * w ≤ 64 * 32 := Nat.mul_le_mul (by omega) hw
    have b4 : (j + 1) * h ≤ 64 * 32 := Nat.mul_le_mul (by omega) hh
    have g1 : i * w / side = gx w side i := rfl
    have g2 : j * h / side = gx h side j := rfl
    have g3 : (i + 1) * w / side = gx w side (i + 1) := rfl
    have g4 : (j + 1) * h / side = gx h side (j + 1) := rfl
    have l1 := gx_le (w := w) (side := side) (i := i + 1) (by omega)
    have l2 := gx_le (w := h) (side := side) (i := j + 1) (by omega)
    have m1 := gx_mono (w := w) (side := side) (i := i)
    have m2 := gx_mono (w := h) (side := side) (i := j)
    refine VcDraw.lex [13, 14] [(0, [1]), (1, [1]), (2, [1]), (3, [1]), (4, [1]), (5, [1]), (6, [1]), (7, [1]), (8, [1]), (9, [1]), (10, [1]), (11, [1]), (12, [1])] (by kernel_rfl) (by kernel_rfl) ?_
    (repeat' first | with_reducible (first | refine Asm.intro fun _ => ?_ | refine Chk.g ?_ | refine AnyI.i64 fun _ _ => ?_ | refine LetW.g ?_ | refine LetW.h ?_ | refine Ite.t fun _ => ?_ | refine Ite.f fun _ => ?_ | refine Ite.decide (fun _ => ?_) fun _ => ?_ | refine Ite.bool (fun _ => ?_) fun _ => ?_ | refine And.intro ?_ ?_) | omega | simp (maxSteps := 1000000) only [go_sem, reduceCtorEq, Nat.reduceLT, Nat.reduceLeDiff, reduceIte, ↓reduceIte, Nat.reduceEqDiff, Nat.reduceAdd, Nat.reduceMul, Nat.reduceSub, Int.reduceLE, Int.reduceLT, Int.reduceNeg, Int.reduceToNat, up_mul, up_tdiv, g1, g2])
    refine VcDraw.lex [21, 23] [(10, [1]), (11, [1]), (12, [1]), (13, [1]), (14, [1]), (15, [1]), (16, [1]), (19, [1])] (by kernel_rfl) (by kernel_rfl) ?_
    have e1 : ((gx w side (i + 1) : Nat) : Int) - (gx w side i : Nat) = ((gx w side (i + 1) - gx w side i : Nat) : Int) := by omega
    have e2 : ((gx h side (j + 1) : Nat) : Int) - (gx h side j : Nat) = ((gx h side (j + 1) - gx h side j : Nat) : Int) := by omega
    have hV : gridV p w h side i j = ((if 0 < (gx w side (i + 1) - gx w side i) * (gx h side (j + 1) - gx h side j) then
      inkN p w (gx w side i) (gx h side j) (gx w side (i + 1) - gx w side i) (gx h side (j + 1) - gx h side j) * 1000 / ((gx w side (i + 1) - gx w side i) * (gx h side (j + 1) - gx h side j)) else 0 : Nat) : Int) := rfl
    have hI := hin (gx w side i) (gx h side j) (gx w side (i + 1) - gx w side i) (gx h side (j + 1) - gx h side j) (by omega) (by omega)
    rw [inkN_rect] at hI
    have hle := inkN_le p w (gx w side i) (gx h side j) (gx w side (i + 1) - gx w side i) (gx h side (j + 1) - gx h side j)
    have q1 : gx w side (i + 1) - gx w side i ≤ 32 := by omega
    have q2 : gx h side (j + 1) - gx h side j ≤ 32 := by omega
    generalize inkN p w (gx w side i) (gx h side j) (gx w side (i + 1) - gx w side i) (gx h side (j + 1) - gx h side j) = N at *
    have hWH : (gx w side (i + 1) - gx w side i) * (gx h side (j + 1) - gx h side j) ≤ 32 * 32 := Nat.mul_le_mul q1 q2
    have hcm : (gx h side (j + 1) - gx h side j) * (gx w side (i + 1) - gx w side i) = (gx w side (i + 1) - gx w side i) * (gx h side (j + 1) - gx h side j) := Nat.mul_comm _ _
    rw [hcm] at hle
    generalize gx w side (i + 1) - gx w side i = W at *
    generalize gx h side (j + 1) - gx h side j = H at *
    generalize hA : W * H = A at *
    (repeat' first | with_reducible (first | refine Asm.intro fun _ => ?_ | refine Chk.g ?_ | refine AnyI.i64 fun _ _ => ?_ | refine LetW.g ?_ | refine LetW.h ?_ | refine Ite.t fun _ => ?_ | refine Ite.f fun _ => ?_ | refine Ite.decide (fun _ => ?_) fun _ => ?_ | refine Ite.bool (fun _ => ?_) fun _ => ?_ | refine And.intro ?_ ?_) | omega | simp (maxSteps := 1000000) only [go_sem, reduceCtorEq, Nat.reduceLT, Nat.reduceLeDiff, reduceIte, ↓reduceIte, Nat.reduceEqDiff, Nat.reduceAdd, Nat.reduceMul, Nat.reduceSub, Int.reduceLE, Int.reduceLT, Int.reduceNeg, Int.reduceToNat, up_add, up_one, up_mul, up_tdiv, g3, g4, e1, e2, hA])
    · rename_i hpos
      rw [if_pos (by omega)] at hV
      have hq : N * 1000 / A ≤ N * 1000 := Nat.div_le_self _ _
      refine VcCall.fr (FnFr.of_ok hI rfl rfl) (by simp only [noIdR_ok, argOkL, argOk, allOk, argOkN, List.drop_zero, lk, reduceIte, reduceCtorEq, Nat.reduceEqDiff, Option.some.injEq, Item.row.injEq, Item.box.injEq, AV.ro.injEq, exists_eq_left, exists_and_left, exists_eq_left', exists_eq_right, and_assoc, and_true, true_and, List.cons.injEq, exists_eq', exists_eq]) 0 rfl (by simp [rowsB]) ?_
      have eN : (N : Int) * 1000 = ((N * 1000 : Nat) : Int) := by omega
      have eD : ((N * 1000 : Nat) : Int).tdiv (A : Int) = ((N * 1000 / A : Nat) : Int) := up_tdiv _ _
      generalize N * 1000 / A = D at *
      (repeat' first | with_reducible (first | refine Asm.intro fun _ => ?_ | refine Chk.g ?_ | refine AnyI.i64 fun _ _ => ?_ | refine LetW.g ?_ | refine LetW.h ?_ | refine Ite.t fun _ => ?_ | refine Ite.f fun _ => ?_ | refine Ite.decide (fun _ => ?_) fun _ => ?_ | refine Ite.bool (fun _ => ?_) fun _ => ?_ | refine And.intro ?_ ?_) | omega | simp (maxSteps := 1000000) only [go_sem, reduceCtorEq, Nat.reduceLT, Nat.reduceLeDiff, reduceIte, ↓reduceIte, Nat.reduceEqDiff, Nat.reduceAdd, Nat.reduceMul, Nat.reduceSub, Int.reduceLE, Int.reduceLT, Int.reduceNeg, Int.reduceToNat, eN, eD, List.length_append, List.length_replicate, hr])
      rw [hV] at hset
      refine ⟨k + 1, Ent.auto0 rfl ?_ ?_, by omega, by omega⟩ <;> simp only [go_sem, reduceCtorEq, reduceIte, Nat.reduceEqDiff, Nat.reduceLT, Nat.reduceLeDiff, Int.natCast_succ]
      all_goals first | exact hset | rfl
    · rename_i hpos
      rw [if_neg (by omega)] at hV
      have hnk : n - k = (n - (k + 1)) + 1 := by omega
      refine ⟨k + 1, Ent.auto0 rfl ?_ ?_, by omega, by omega⟩ <;> simp only [go_sem, reduceCtorEq, reduceIte, Nat.reduceEqDiff, Nat.reduceLT, Nat.reduceLeDiff, Int.natCast_succ]
      have key : rowsOf side (gridV p w h side) k ++ List.replicate (n - k) 0 = rowsOf side (gridV p w h side) (k + 1) ++ List.replicate (n - (k + 1)) 0 := by
        unfold rowsOf
        rw [List.range_succ, List.map_append, hnk, List.replicate_succ]
        simp only [List.map_cons, List.map_nil, hie, hje, hV, List.append_assoc, List.cons_append, List.nil_append]
        rfl
      all_goals first | exact key | rfl
  · have e : k = n := by omega
    subst e
    refine Ret.auto 1 ?_ rfl ?_ <;> simp only [go_sem, reduceCtorEq, reduceIte, Nat.reduceEqDiff, Nat.reduceLT, Nat.reduceLeDiff, Int.natCast_succ, Post, Nat.sub_self, List.replicate_zero, List.append_nil]
end Go.Fv.T

namespace Go.Fv.T
open Go Go.Proofs
set_option linter.unusedSimpArgs false
set_option linter.unusedVariables false
set_option maxRecDepth 8000

end Go.Fv.T
