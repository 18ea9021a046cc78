/-
  A part of the proof of the claim: walks over the program's functions and the plain laws that these need. No condition of its own.
-/
import Derived.Test.YtolhkphiifgblaaDoorFvPart9
import Derived.Test.YtolhkphiifgblaaDoorProg
/- Facts about the program's types: each shown by reckoning it out. -/
namespace Go.Fv.M
open Go Go.Proofs
theorem e1 : ElemZ Tryd.prog 1 (.nilFunc) := .of (by kernel_rfl) (by kernel_rfl)
theorem z1 : zeroOf Tryd.prog 1 = some (.nilFunc) := e1.zero
theorem c1 : Tryd.prog.cellsOf 1 = 1 := e1.cellsOf
theorem e2 : ElemZ Tryd.prog 2 (.int .i64 0) := .of (by kernel_rfl) (by kernel_rfl)
theorem z2 : zeroOf Tryd.prog 2 = some (.int .i64 0) := e2.zero
theorem c2 : Tryd.prog.cellsOf 2 = 1 := e2.cellsOf
theorem e3 : ElemZ Tryd.prog 3 (.int .i64 0) := .of (by kernel_rfl) (by kernel_rfl)
theorem z3 : zeroOf Tryd.prog 3 = some (.int .i64 0) := e3.zero
theorem c3 : Tryd.prog.cellsOf 3 = 1 := e3.cellsOf
theorem e4 : ElemZ Tryd.prog 4 (.bool false) := .of (by kernel_rfl) (by kernel_rfl)
theorem z4 : zeroOf Tryd.prog 4 = some (.bool false) := e4.zero
theorem c4 : Tryd.prog.cellsOf 4 = 1 := e4.cellsOf
theorem e5 : ElemZ Tryd.prog 5 (.int .u8 0) := .of (by kernel_rfl) (by kernel_rfl)
theorem z5 : zeroOf Tryd.prog 5 = some (.int .u8 0) := e5.zero
theorem c5 : Tryd.prog.cellsOf 5 = 1 := e5.cellsOf
theorem e6 : ElemZ Tryd.prog 6 (.int .u8 0) := .of (by kernel_rfl) (by kernel_rfl)
theorem e9 : ElemZ Tryd.prog 9 (.string ⟨#[]⟩) := .of (by kernel_rfl) (by kernel_rfl)
theorem z9 : zeroOf Tryd.prog 9 = some (.string ⟨#[]⟩) := e9.zero
theorem e12 : ElemZ Tryd.prog 12 (.int .u64 0) := .of (by kernel_rfl) (by kernel_rfl)
theorem e17 : ElemZ Tryd.prog 17 (.pointer none) := .of (by kernel_rfl) (by kernel_rfl)
theorem e22 : ElemZ Tryd.prog 22 (.slice none 0 0) := .of (by kernel_rfl) (by kernel_rfl)
theorem z22 : zeroOf Tryd.prog 22 = some (.slice none 0 0) := e22.zero
theorem e23 : ElemZ Tryd.prog 23 (.agg #[.int .i64 0, .int .i64 0, .slice none 0 0]) := .of (by kernel_rfl) (by kernel_rfl)
theorem z23 : zeroOf Tryd.prog 23 = some (.agg #[.int .i64 0, .int .i64 0, .slice none 0 0]) := e23.zero
theorem e25 : ElemZ Tryd.prog 25 (.nilFunc) := .of (by kernel_rfl) (by kernel_rfl)
theorem z25 : zeroOf Tryd.prog 25 = some (.nilFunc) := e25.zero
theorem e28 : ElemZ Tryd.prog 28 (.int .i64 0) := .of (by kernel_rfl) (by kernel_rfl)
theorem z28 : zeroOf Tryd.prog 28 = some (.int .i64 0) := e28.zero
theorem c28 : Tryd.prog.cellsOf 28 = 1 := e28.cellsOf
theorem e32 : ElemZ Tryd.prog 32 (.agg #[.int .i64 0, .int .i64 0, .int .i64 0, .int .i64 0]) := .of (by kernel_rfl) (by kernel_rfl)
theorem z32 : zeroOf Tryd.prog 32 = some (.agg #[.int .i64 0, .int .i64 0, .int .i64 0, .int .i64 0]) := e32.zero
theorem e34 : ElemZ Tryd.prog 34 (.agg #[.int .i64 0, .int .i64 0]) := .of (by kernel_rfl) (by kernel_rfl)
theorem z34 : zeroOf Tryd.prog 34 = some (.agg #[.int .i64 0, .int .i64 0]) := e34.zero
theorem c34 : Tryd.prog.cellsOf 34 = 2 := e34.cellsOf
theorem e35 : ElemZ Tryd.prog 35 (.agg #[.int .i64 0, .int .i64 0, .int .i64 0, .int .i64 0, .int .i64 0, .int .i64 0, .int .i64 0]) := .of (by kernel_rfl) (by kernel_rfl)
theorem z35 : zeroOf Tryd.prog 35 = some (.agg #[.int .i64 0, .int .i64 0, .int .i64 0, .int .i64 0, .int .i64 0, .int .i64 0, .int .i64 0]) := e35.zero
theorem e36 : ElemZ Tryd.prog 36 (.agg #[.int .i64 0, .int .i64 0, .int .i64 0, .int .i64 0, .int .i64 0, .int .i64 0, .int .i64 0]) := .of (by kernel_rfl) (by kernel_rfl)
theorem z36 : zeroOf Tryd.prog 36 = some (.agg #[.int .i64 0, .int .i64 0, .int .i64 0, .int .i64 0, .int .i64 0, .int .i64 0, .int .i64 0]) := e36.zero
theorem e41 : ElemZ Tryd.prog 41 (.slice none 0 0) := .of (by kernel_rfl) (by kernel_rfl)
theorem z41 : zeroOf Tryd.prog 41 = some (.slice none 0 0) := e41.zero
theorem e46 : ElemZ Tryd.prog 46 (.slice none 0 0) := .of (by kernel_rfl) (by kernel_rfl)
theorem z46 : zeroOf Tryd.prog 46 = some (.slice none 0 0) := e46.zero
theorem e53 : ElemZ Tryd.prog 53 (.slice none 0 0) := .of (by kernel_rfl) (by kernel_rfl)
theorem z53 : zeroOf Tryd.prog 53 = some (.slice none 0 0) := e53.zero
theorem e57 : ElemZ Tryd.prog 57 (.slice none 0 0) := .of (by kernel_rfl) (by kernel_rfl)
theorem z57 : zeroOf Tryd.prog 57 = some (.slice none 0 0) := e57.zero
theorem c57 : Tryd.prog.cellsOf 57 = 1 := e57.cellsOf
theorem e59 : ElemZ Tryd.prog 59 (.agg #[.int .i64 0, .int .i64 0, .slice none 0 0]) := .of (by kernel_rfl) (by kernel_rfl)
theorem z59 : zeroOf Tryd.prog 59 = some (.agg #[.int .i64 0, .int .i64 0, .slice none 0 0]) := e59.zero
theorem c59 : Tryd.prog.cellsOf 59 = 3 := e59.cellsOf
theorem e63 : ElemZ Tryd.prog 63 (.nilFunc) := .of (by kernel_rfl) (by kernel_rfl)
theorem z63 : zeroOf Tryd.prog 63 = some (.nilFunc) := e63.zero
theorem e64 : ElemZ Tryd.prog 64 (.nilFunc) := .of (by kernel_rfl) (by kernel_rfl)
theorem z64 : zeroOf Tryd.prog 64 = some (.nilFunc) := e64.zero
theorem e92 : ElemZ Tryd.prog 92 (.nilFunc) := .of (by kernel_rfl) (by kernel_rfl)
theorem z92 : zeroOf Tryd.prog 92 = some (.nilFunc) := e92.zero
theorem c92 : Tryd.prog.cellsOf 92 = 1 := e92.cellsOf
theorem e97 : ElemZ Tryd.prog 97 (.map none) := .of (by kernel_rfl) (by kernel_rfl)
theorem z97 : zeroOf Tryd.prog 97 = some (.map none) := e97.zero
theorem c97 : Tryd.prog.cellsOf 97 = 1 := e97.cellsOf
theorem e98 : ElemZ Tryd.prog 98 (.map none) := .of (by kernel_rfl) (by kernel_rfl)
theorem z98 : zeroOf Tryd.prog 98 = some (.map none) := e98.zero
theorem c98 : Tryd.prog.cellsOf 98 = 1 := e98.cellsOf
theorem f7 : fieldsOkT Tryd.prog 7 := by
  intro d hd; rw [Tryd.underlying7] at hd; cases hd
  intro f hf; simp only [List.mem_cons, List.not_mem_nil, or_false] at hf
  rcases hf with rfl | rfl | rfl | rfl
  · obtain ⟨i, h, _⟩ := e2.ex; exact ⟨i, h⟩
  · obtain ⟨i, h, _⟩ := e3.ex; exact ⟨i, h⟩
  · obtain ⟨i, h, _⟩ := e4.ex; exact ⟨i, h⟩
  · obtain ⟨i, h, _⟩ := e6.ex; exact ⟨i, h⟩
theorem f8 : fieldsOkT Tryd.prog 8 := by
  intro d hd; rw [Tryd.underlying8] at hd; cases hd
  intro f hf; simp only [List.mem_cons, List.not_mem_nil, or_false] at hf
  rcases hf with rfl | rfl | rfl | rfl
  · obtain ⟨i, h, _⟩ := e2.ex; exact ⟨i, h⟩
  · obtain ⟨i, h, _⟩ := e3.ex; exact ⟨i, h⟩
  · obtain ⟨i, h, _⟩ := e4.ex; exact ⟨i, h⟩
  · obtain ⟨i, h, _⟩ := e6.ex; exact ⟨i, h⟩
theorem f13 : fieldsOkT Tryd.prog 13 := by
  intro d hd; rw [Tryd.underlying13] at hd; cases hd
  intro f hf; simp only [List.mem_cons, List.not_mem_nil, or_false] at hf
  rcases hf with rfl | rfl
  · obtain ⟨i, h, _⟩ := e9.ex; exact ⟨i, h⟩
  · obtain ⟨i, h, _⟩ := e12.ex; exact ⟨i, h⟩
theorem f14 : fieldsOkT Tryd.prog 14 := by
  intro d hd; rw [Tryd.underlying14] at hd; cases hd
  intro f hf; simp only [List.mem_cons, List.not_mem_nil, or_false] at hf
  rcases hf with rfl | rfl
  · obtain ⟨i, h, _⟩ := e9.ex; exact ⟨i, h⟩
  · obtain ⟨i, h, _⟩ := e12.ex; exact ⟨i, h⟩
theorem f18 : fieldsOkT Tryd.prog 18 := by
  intro d hd; rw [Tryd.underlying18] at hd; cases hd
  intro f hf; simp only [List.mem_cons, List.not_mem_nil, or_false] at hf
  rcases hf with rfl
  · obtain ⟨i, h, _⟩ := e17.ex; exact ⟨i, h⟩
theorem f19 : fieldsOkT Tryd.prog 19 := by
  intro d hd; rw [Tryd.underlying19] at hd; cases hd
  intro f hf; simp only [List.mem_cons, List.not_mem_nil, or_false] at hf
  rcases hf with rfl
  · obtain ⟨i, h, _⟩ := e17.ex; exact ⟨i, h⟩
theorem f31 : fieldsOkT Tryd.prog 31 := by
  intro d hd; rw [Tryd.underlying31] at hd; cases hd
  intro f hf; simp only [List.mem_cons, List.not_mem_nil, or_false] at hf
  rcases hf with rfl | rfl | rfl | rfl
  · obtain ⟨i, h, _⟩ := e3.ex; exact ⟨i, h⟩
  · obtain ⟨i, h, _⟩ := e3.ex; exact ⟨i, h⟩
  · obtain ⟨i, h, _⟩ := e3.ex; exact ⟨i, h⟩
  · obtain ⟨i, h, _⟩ := e3.ex; exact ⟨i, h⟩
theorem f32 : fieldsOkT Tryd.prog 32 := by
  intro d hd; rw [Tryd.underlying32] at hd; cases hd
  intro f hf; simp only [List.mem_cons, List.not_mem_nil, or_false] at hf
  rcases hf with rfl | rfl | rfl | rfl
  · obtain ⟨i, h, _⟩ := e3.ex; exact ⟨i, h⟩
  · obtain ⟨i, h, _⟩ := e3.ex; exact ⟨i, h⟩
  · obtain ⟨i, h, _⟩ := e3.ex; exact ⟨i, h⟩
  · obtain ⟨i, h, _⟩ := e3.ex; exact ⟨i, h⟩
theorem f33 : fieldsOkT Tryd.prog 33 := by
  intro d hd; rw [Tryd.underlying33] at hd; cases hd
  intro f hf; simp only [List.mem_cons, List.not_mem_nil, or_false] at hf
  rcases hf with rfl | rfl
  · obtain ⟨i, h, _⟩ := e3.ex; exact ⟨i, h⟩
  · obtain ⟨i, h, _⟩ := e3.ex; exact ⟨i, h⟩
theorem f34 : fieldsOkT Tryd.prog 34 := by
  intro d hd; rw [Tryd.underlying34] at hd; cases hd
  intro f hf; simp only [List.mem_cons, List.not_mem_nil, or_false] at hf
  rcases hf with rfl | rfl
  · obtain ⟨i, h, _⟩ := e3.ex; exact ⟨i, h⟩
  · obtain ⟨i, h, _⟩ := e3.ex; exact ⟨i, h⟩
theorem f35 : fieldsOkT Tryd.prog 35 := by
  intro d hd; rw [Tryd.underlying35] at hd; cases hd
  intro f hf; simp only [List.mem_cons, List.not_mem_nil, or_false] at hf
  rcases hf with rfl | rfl | rfl
  · obtain ⟨i, h, _⟩ := e32.ex; exact ⟨i, h⟩
  · obtain ⟨i, h, _⟩ := e3.ex; exact ⟨i, h⟩
  · obtain ⟨i, h, _⟩ := e34.ex; exact ⟨i, h⟩
theorem f36 : fieldsOkT Tryd.prog 36 := by
  intro d hd; rw [Tryd.underlying36] at hd; cases hd
  intro f hf; simp only [List.mem_cons, List.not_mem_nil, or_false] at hf
  rcases hf with rfl | rfl | rfl
  · obtain ⟨i, h, _⟩ := e32.ex; exact ⟨i, h⟩
  · obtain ⟨i, h, _⟩ := e3.ex; exact ⟨i, h⟩
  · obtain ⟨i, h, _⟩ := e34.ex; exact ⟨i, h⟩
theorem f59 : fieldsOkT Tryd.prog 59 := by
  intro d hd; rw [Tryd.underlying59] at hd; cases hd
  intro f hf; simp only [List.mem_cons, List.not_mem_nil, or_false] at hf
  rcases hf with rfl | rfl | rfl
  · obtain ⟨i, h, _⟩ := e3.ex; exact ⟨i, h⟩
  · obtain ⟨i, h, _⟩ := e3.ex; exact ⟨i, h⟩
  · obtain ⟨i, h, _⟩ := e57.ex; exact ⟨i, h⟩
theorem f106 : fieldsOkT Tryd.prog 106 := by
  intro d hd; rw [Tryd.underlying106] at hd; cases hd
  obtain ⟨i, h, _⟩ := e3.ex; exact ⟨i, h⟩
theorem k1 {K : Prop} : Chk (ElemZ Tryd.prog 1 (.nilFunc)) K = K := Chk_of e1
theorem k2 {K : Prop} : Chk (ElemZ Tryd.prog 2 (.int .i64 0)) K = K := Chk_of e2
theorem k3 {K : Prop} : Chk (ElemZ Tryd.prog 3 (.int .i64 0)) K = K := Chk_of e3
theorem ke3 : (ElemZ Tryd.prog 3 (.int .i64 0)) = True := eq_true e3
theorem k4 {K : Prop} : Chk (ElemZ Tryd.prog 4 (.bool false)) K = K := Chk_of e4
theorem ke5 : (ElemZ Tryd.prog 5 (.int .u8 0)) = True := eq_true e5
theorem ke28 : (ElemZ Tryd.prog 28 (.int .i64 0)) = True := eq_true e28
theorem kt34 : (fieldsOkT Tryd.prog 34) = True := eq_true f34
theorem kt59 : (fieldsOkT Tryd.prog 59) = True := eq_true f59
theorem ky3 : Maps.Keyed Tryd.prog 3 = True := eq_true (Maps.int_keyed Tryd.underlying3)
theorem kt_3 (n : Int) : KeyT Tryd.prog 3 (.int .i64 n) = True := eq_true (.int Tryd.underlying3 n)
attribute [go_sem] Tryd.underlying0 Tryd.underlying1 Tryd.underlying2 Tryd.underlying3 Tryd.underlying4 Tryd.underlying5
attribute [go_sem] Tryd.underlying6 Tryd.underlying7 Tryd.underlying8 Tryd.underlying9 Tryd.underlying10 Tryd.underlying11 Tryd.underlying12 Tryd.underlying13 Tryd.underlying14 Tryd.underlying15 Tryd.underlying16 Tryd.underlying17
attribute [go_sem] Tryd.underlying18 Tryd.underlying19 Tryd.underlying20 Tryd.underlying21 Tryd.underlying22 Tryd.underlying23 Tryd.underlying24 Tryd.underlying25 Tryd.underlying26 Tryd.underlying27 Tryd.underlying28 Tryd.underlying29
attribute [go_sem] Tryd.underlying30 Tryd.underlying31 Tryd.underlying32 Tryd.underlying33 Tryd.underlying34 Tryd.underlying35 Tryd.underlying36 Tryd.underlying37 Tryd.underlying38 Tryd.underlying39 Tryd.underlying40 Tryd.underlying41
attribute [go_sem] Tryd.underlying42 Tryd.underlying43 Tryd.underlying44 Tryd.underlying45 Tryd.underlying46 Tryd.underlying47 Tryd.underlying48 Tryd.underlying49 Tryd.underlying50 Tryd.underlying51 Tryd.underlying52 Tryd.underlying53
attribute [go_sem] Tryd.underlying54 Tryd.underlying55 Tryd.underlying56 Tryd.underlying57 Tryd.underlying58 Tryd.underlying59 Tryd.underlying60 Tryd.underlying61 Tryd.underlying62 Tryd.underlying63 Tryd.underlying64 Tryd.underlying65
attribute [go_sem] Tryd.underlying66 Tryd.underlying67 Tryd.underlying68 Tryd.underlying69 Tryd.underlying70 Tryd.underlying71 Tryd.underlying72 Tryd.underlying73 Tryd.underlying74 Tryd.underlying75 Tryd.underlying76 Tryd.underlying77
attribute [go_sem] Tryd.underlying78 Tryd.underlying79 Tryd.underlying80 Tryd.underlying81 Tryd.underlying82 Tryd.underlying83 Tryd.underlying84 Tryd.underlying85 Tryd.underlying86 Tryd.underlying87 Tryd.underlying88 Tryd.underlying89
attribute [go_sem] Tryd.underlying90 Tryd.underlying91 Tryd.underlying92 Tryd.underlying93 Tryd.underlying94 Tryd.underlying95 Tryd.underlying96 Tryd.underlying97 Tryd.underlying98 Tryd.underlying99 Tryd.underlying100 Tryd.underlying101
attribute [go_sem] Tryd.underlying102 Tryd.underlying103 Tryd.underlying104 Tryd.underlying105 Tryd.underlying106 Tryd.underlying107 Tryd.underlying108 Tryd.underlying109 Tryd.underlying110 Tryd.underlying111 Tryd.underlying112 Tryd.underlying113
attribute [go_sem] Tryd.underlying114 Tryd.underlying115 Tryd.underlying116 Tryd.underlying117 Tryd.underlying118 Tryd.underlying119 Tryd.underlying120 Tryd.underlying121 Tryd.underlying122 Tryd.underlying123 Tryd.underlying124 Tryd.underlying125
attribute [go_sem] Tryd.underlying126 Tryd.underlying127 Tryd.underlying128 Tryd.underlying129 Tryd.underlying130 Tryd.underlying131 Tryd.underlying132 Tryd.underlying133 Tryd.underlying134 Tryd.underlying135 Tryd.underlying136 Tryd.underlying137
attribute [go_sem] Tryd.underlying138 Tryd.underlying139 Tryd.underlying140 Tryd.underlying141 Tryd.underlying142 Tryd.underlying143 Tryd.underlying144 Tryd.underlying145 Tryd.underlying146 Tryd.underlying147 Tryd.underlying148 Tryd.underlying149
attribute [go_sem] Tryd.underlying150 Tryd.underlying151 Tryd.underlying152 Tryd.underlying153 Tryd.underlying154 Tryd.underlying155 Tryd.underlying156 Tryd.underlying157 Tryd.underlying158 Tryd.underlying159 Tryd.underlying160 Tryd.underlying161
attribute [go_sem] Tryd.underlying162 Tryd.underlying163 Tryd.underlying164 Tryd.underlying165 Tryd.underlying166 Tryd.underlying167 Tryd.underlying168 Tryd.underlying169 Tryd.underlying170 Tryd.underlying171 Tryd.underlying172 Tryd.underlying173
attribute [go_sem] Tryd.underlying174 Tryd.underlying175 k1 z1 c1 k2 z2 c2 k3 ke3
attribute [go_sem] z3 c3 k4 z4 c4 ke5 z5 c5
attribute [go_sem] z9
attribute [go_sem] z22 z23
attribute [go_sem] z25
attribute [go_sem] ke28 z28 c28
attribute [go_sem] z32
attribute [go_sem] z34 c34 z35 z36
attribute [go_sem] z41
attribute [go_sem] z46
attribute [go_sem] z53
attribute [go_sem] z57 c57
attribute [go_sem] z59 c59
attribute [go_sem] z63 z64
attribute [go_sem] z92 c92
attribute [go_sem] z97 c97
attribute [go_sem] z98 c98
attribute [go_sem] kt34
attribute [go_sem] kt59
attribute [go_sem] ky3 kt_3
end Go.Fv.M

namespace Go.Fv.M
open Go Go.Proofs
set_option linter.unusedSimpArgs false
set_option linter.unusedVariables false
set_option maxRecDepth 8000
theorem when_ok (b : Bool) (e : Int) : FnOk Tryd.prog 31 [.bool b, .int .i64 e] (.int .i64 (if b = true then e else 0)) [] := by
  refine FnOk.of_vc Tryd.func31 rfl (by decide) (by simp [Tryd.f31]) [.tmp 4] rfl fun w0 T0 _ => ?_
  simp only [Tryd.f31, argEnv]
  cases b <;> simp (maxSteps := 1000000) only [go_sem, reduceCtorEq, Nat.reduceLT, Nat.reduceLeDiff, reduceIte, ↓reduceIte, Nat.reduceEqDiff, Nat.reduceAdd, Nat.reduceMul, Nat.reduceSub, Int.reduceLE, Int.reduceLT, Int.reduceNeg, Int.reduceToNat] <;> (refine Ret.auto 0 ?_ rfl ?_ <;> simp only [go_sem, reduceCtorEq, reduceIte, Nat.reduceEqDiff, Nat.reduceLT, Nat.reduceLeDiff, Int.natCast_succ, Post])
end Go.Fv.M

namespace Go.Fv.M
open Go Go.Proofs
set_option linter.unusedSimpArgs false
set_option linter.unusedVariables false
set_option maxRecDepth 8000
def sizeErr (w h : Int) : Int := if w < 1 ∨ 4000 < w ∨ h < 1 ∨ 4000 < h then 3 else if 1048576 < w * h then 4 else 0
set_option maxHeartbeats 1000000 in
theorem checkSize_ok (w h : Int) : FnOk Tryd.prog 90 [.int .i64 w, .int .i64 h] (.int .i64 (sizeErr w h)) [] := by
  refine FnOk.of_vc Tryd.func90 rfl (by decide) (by simp [Tryd.f90]) [.tmp 4] rfl fun w0 T0 _ => ?_
  simp only [Tryd.f90, argEnv]
  simp (maxSteps := 1000000) only [go_sem, reduceCtorEq, Nat.reduceLT, Nat.reduceLeDiff, reduceIte, ↓reduceIte, Nat.reduceEqDiff, Nat.reduceAdd, Nat.reduceMul, Nat.reduceSub, Int.reduceLE, Int.reduceLT, Int.reduceNeg, Int.reduceToNat]
  (repeat' first | (with_reducible refine Asm.intro fun _ => ?_) | ((with_reducible refine Chk.intro ?_ ?_); (· first | omega | (with_reducible refine Chk.intro ?_ ?_ <;> omega) | (simp; done) | (simp; omega))) | ((with_reducible refine LetW.i64 ?_ ?_ ?_); (· omega); (· omega)) | ((with_reducible refine Ite.decide (fun _ => ?_) (fun _ => ?_)) <;> first | (exfalso; omega) | simp (maxSteps := 1000000) only [go_sem, reduceCtorEq, Nat.reduceLT, Nat.reduceLeDiff, reduceIte, ↓reduceIte, Nat.reduceEqDiff, Nat.reduceAdd, Nat.reduceMul, Nat.reduceSub, Int.reduceLE, Int.reduceLT, Int.reduceNeg, Int.reduceToNat]) | ((with_reducible refine Ite.bool (fun _ => ?_) (fun _ => ?_)) <;> simp (maxSteps := 1000000) only [go_sem, reduceCtorEq, Nat.reduceLT, Nat.reduceLeDiff, reduceIte, ↓reduceIte, Nat.reduceEqDiff, Nat.reduceAdd, Nat.reduceMul, Nat.reduceSub, Int.reduceLE, Int.reduceLT, Int.reduceNeg, Int.reduceToNat]) | (with_reducible refine And.intro ?_ ?_))
  · rename_i h1
    refine Ret.auto 0 ?_ rfl ?_ <;> simp only [go_sem, reduceCtorEq, reduceIte, Nat.reduceEqDiff, Nat.reduceLT, Nat.reduceLeDiff, Int.natCast_succ, Post, sizeErr]
    rw [if_pos (by omega)]
  · rename_i h1
    have hm1 : 0 ≤ w * h := Int.mul_nonneg (by omega) (by omega)
    have hm2 : w * h ≤ 4000 * 4000 := Int.mul_le_mul (by omega) (by omega) (by omega) (by omega)
    refine LetW.i64 (by omega) (by omega) ?_
    (repeat' first | (with_reducible refine Asm.intro fun _ => ?_) | ((with_reducible refine Chk.intro ?_ ?_); (· first | omega | (with_reducible refine Chk.intro ?_ ?_ <;> omega) | (simp; done) | (simp; omega))) | ((with_reducible refine LetW.i64 ?_ ?_ ?_); (· omega); (· omega)) | ((with_reducible refine Ite.decide (fun _ => ?_) (fun _ => ?_)) <;> first | (exfalso; omega) | simp (maxSteps := 1000000) only [go_sem, reduceCtorEq, Nat.reduceLT, Nat.reduceLeDiff, reduceIte, ↓reduceIte, Nat.reduceEqDiff, Nat.reduceAdd, Nat.reduceMul, Nat.reduceSub, Int.reduceLE, Int.reduceLT, Int.reduceNeg, Int.reduceToNat]) | ((with_reducible refine Ite.bool (fun _ => ?_) (fun _ => ?_)) <;> simp (maxSteps := 1000000) only [go_sem, reduceCtorEq, Nat.reduceLT, Nat.reduceLeDiff, reduceIte, ↓reduceIte, Nat.reduceEqDiff, Nat.reduceAdd, Nat.reduceMul, Nat.reduceSub, Int.reduceLE, Int.reduceLT, Int.reduceNeg, Int.reduceToNat]) | (with_reducible refine And.intro ?_ ?_))
    · refine Ret.auto 0 ?_ rfl ?_ <;> simp only [go_sem, reduceCtorEq, reduceIte, Nat.reduceEqDiff, Nat.reduceLT, Nat.reduceLeDiff, Int.natCast_succ, Post, sizeErr]
      rw [if_neg (by omega), if_pos (by omega)]
    · refine Ret.auto 0 ?_ rfl ?_ <;> simp only [go_sem, reduceCtorEq, reduceIte, Nat.reduceEqDiff, Nat.reduceLT, Nat.reduceLeDiff, Int.natCast_succ, Post, sizeErr]
      rw [if_neg (by omega), if_neg (by omega)]
def grayErr (w h : Int) (n : Nat) : Int := if sizeErr w h = 0 then (if (n : Int) = w * h then 0 else 2) else sizeErr w h
theorem sizeErr_zero {w h : Int} (e : sizeErr w h = 0) : 1 ≤ w ∧ w ≤ 4000 ∧ 1 ≤ h ∧ h ≤ 4000 ∧ w * h ≤ 1048576 ∧ 1 ≤ w * h := by
  unfold sizeErr at e
  split at e
  · omega
  · split at e
    · omega
    · rename_i h1 h2
      have : 1 * 1 ≤ w * h := Int.mul_le_mul (by omega) (by omega) (by omega) (by omega)
      omega
theorem sizeErr_of {w h : Int} (h1 : 1 ≤ w) (h2 : w ≤ 4000) (h3 : 1 ≤ h) (h4 : h ≤ 4000) (hm2 : w * h ≤ 1048576) : sizeErr w h = 0 := by
  unfold sizeErr
  rw [if_neg (by omega), if_neg (by omega)]
end Go.Fv.M

namespace Go.Fv.M
open Go Go.Proofs
set_option linter.unusedSimpArgs false
set_option linter.unusedVariables false
set_option maxRecDepth 8000
/-- The first n values of a page told by places. -/
def rowsOf {α : Type} (w : Nat) (p : Nat → Nat → α) (n : Nat) : List α := (List.range n).map fun k => p (k % w) (k / w)
theorem rowsOf_len {α : Type} (w : Nat) (p : Nat → Nat → α) (n : Nat) : (rowsOf w p n).length = n := by simp [rowsOf]
theorem rowsOf_succ {α : Type} {w : Nat} (p : Nat → Nat → α) {x y : Nat} (hx : x < w) : rowsOf w p (y * w + (x + 1)) = rowsOf w p (y * w + x) ++ [p x y] := by
  unfold rowsOf
  rw [← Nat.add_assoc, List.range_succ, List.map_append]
  have e1 : (y * w + x) % w = x := by rw [Nat.mul_comm, Nat.mul_add_mod, Nat.mod_eq_of_lt hx]
  have e2 : (y * w + x) / w = y := by rw [Nat.mul_comm, Nat.mul_add_div (by omega), Nat.div_eq_of_lt hx, Nat.add_zero]
  simp [e1, e2]

end Go.Fv.M

namespace Go.Fv.M
open Go Go.Proofs
set_option linter.unusedSimpArgs false
set_option linter.unusedVariables false
set_option maxRecDepth 8000
theorem and_bd (a : Int) (m : Nat) (hm : m < 2 ^ 63) : 0 ≤ bitsI .and .i64 a m ∧ bitsI .and .i64 a m ≤ m := by
  unfold bitsI
  dsimp only
  have h1 : (BitVec.ofInt 64 a &&& BitVec.ofInt 64 (m : Int)).toNat ≤ m := by
    rw [BitVec.toNat_and]
    refine Nat.le_trans Nat.and_le_right ?_
    rw [BitVec.ofInt_natCast, BitVec.toNat_ofNat]
    exact Nat.mod_le _ _
  rw [show IntKind.i64.bits = 64 from rfl]
  rw [wrap_of_in (InK_i64.2 ⟨by omega, by omega⟩)]
  omega
/-- The size that a page is fitted to. -/
def fitN (a : Int) (m : Nat) : Nat := (1 + bitsI .and .i64 a m).toNat
theorem fitN_bd (a : Int) (m : Nat) (hm : m < 2 ^ 63) : 1 ≤ fitN a m ∧ fitN a m ≤ m + 1 ∧ 1 + bitsI .and .i64 a m = ((fitN a m : Nat) : Int) := by
  have := and_bd a m hm
  unfold fitN; omega
end Go.Fv.M

namespace Go.Fv.M
open Go Go.Proofs
set_option linter.unusedSimpArgs false
set_option linter.unusedVariables false
set_option maxRecDepth 8000
end Go.Fv.M

namespace Go.Fv.M
open Go Go.Proofs
set_option linter.unusedSimpArgs false
set_option linter.unusedVariables false
set_option maxRecDepth 8000
end Go.Fv.M

namespace Go.Fv.M
open Go Go.Proofs
set_option linter.unusedSimpArgs false
set_option linter.unusedVariables false
set_option maxRecDepth 8000
end Go.Fv.M

namespace Go.Fv.M
set_option linter.unusedSimpArgs false
set_option linter.unusedVariables false

theorem set_range {α : Type} {n i : Nat} (q : Nat → α) (d : α) (h : i < n) : ((List.range i).map q ++ List.replicate (n - i) d).set i (q i) = (List.range (i + 1)).map q ++ List.replicate (n - (i + 1)) d := by
  have e : n - i = (n - (i + 1)) + 1 := by omega
  rw [e, List.replicate_succ, List.set_append_right _ _ (by simp), List.range_succ, List.map_append]
  simp
def sumTo (f : Nat → Int) : Nat → Int
  | 0 => 0
  | n + 1 => sumTo f n + f n
def tab (v : Nat → Int) (w x y : Nat) : Int := sumTo (fun j => sumTo (fun i => v (j * w + i)) x) y
end Go.Fv.M

namespace Go.Fv.M
open Go Go.Proofs
set_option linter.unusedSimpArgs false
set_option linter.unusedVariables false
set_option maxRecDepth 8000

theorem grayErr_ok {w h : Nat} (hw1 : 1 ≤ w) (hw : w ≤ 1000) (hh1 : 1 ≤ h) (hh : h ≤ 1000) {n : Nat} (hn : n = w * h) : grayErr w h n = 0 := by
  have hm : w * h ≤ 1000 * 1000 := Nat.mul_le_mul hw hh
  unfold grayErr
  rw [sizeErr_of (by omega) (by omega) (by omega) (by omega) (by rw [up_mul]; omega), hn, up_mul]
  simp
end Go.Fv.M

/- Grey pages: the walk. -/
namespace Go.Fv.M
open Go Go.Proofs
set_option linter.unusedSimpArgs false
set_option linter.unusedVariables false
set_option linter.unnecessarySimpa false
set_option maxRecDepth 8000

set_option maxHeartbeats 1000000 in
theorem checkGray_ok (w h : Int) (p : List Int) : FnOk Tryd.prog 62 [.agg [.int .i64 w, .int .i64 h, .ro (.ints .u8 p)]] (.int .i64 (grayErr w h p.length)) [] := by
  refine FnOk.of_vc Tryd.func62 rfl (by decide) (by simp [Tryd.f62]) [.tmp 2] rfl fun w0 T0 _ => ?_
  simp only [Tryd.f62, argEnv]
  simp (maxSteps := 1000000) only [go_sem, reduceCtorEq, Nat.reduceLT, Nat.reduceLeDiff, reduceIte, ↓reduceIte, Nat.reduceEqDiff, Nat.reduceAdd, Nat.reduceMul, Nat.reduceSub, Int.reduceLE, Int.reduceLT, Int.reduceNeg, Int.reduceToNat]
  (repeat' first | (with_reducible refine Asm.intro fun _ => ?_) | ((with_reducible refine Chk.intro ?_ ?_); (· first | omega | (with_reducible refine Chk.intro ?_ ?_ <;> omega) | (simp; done) | (simp; omega))) | ((with_reducible refine LetW.i64 ?_ ?_ ?_); (· omega); (· omega)) | ((with_reducible refine Ite.decide (fun _ => ?_) (fun _ => ?_)) <;> first | (exfalso; omega) | simp (maxSteps := 1000000) only [go_sem, reduceCtorEq, Nat.reduceLT, Nat.reduceLeDiff, reduceIte, ↓reduceIte, Nat.reduceEqDiff, Nat.reduceAdd, Nat.reduceMul, Nat.reduceSub, Int.reduceLE, Int.reduceLT, Int.reduceNeg, Int.reduceToNat]) | ((with_reducible refine Ite.bool (fun _ => ?_) (fun _ => ?_)) <;> simp (maxSteps := 1000000) only [go_sem, reduceCtorEq, Nat.reduceLT, Nat.reduceLeDiff, reduceIte, ↓reduceIte, Nat.reduceEqDiff, Nat.reduceAdd, Nat.reduceMul, Nat.reduceSub, Int.reduceLE, Int.reduceLT, Int.reduceNeg, Int.reduceToNat]) | (with_reducible refine And.intro ?_ ?_))
  refine VcCall.fr (args' := [.int .i64 w, .int .i64 h]) (FnFr.of_ok (checkSize_ok w h) rfl rfl) (by simp [argOkL, allOk, argOkN]) 0 rfl (by simp [rowsB]) ?_
  simp (maxSteps := 1000000) only [go_sem, reduceCtorEq, Nat.reduceLT, Nat.reduceLeDiff, reduceIte, ↓reduceIte, Nat.reduceEqDiff, Nat.reduceAdd, Nat.reduceMul, Nat.reduceSub, Int.reduceLE, Int.reduceLT, Int.reduceNeg, Int.reduceToNat]
  (repeat' first | (with_reducible refine Asm.intro fun _ => ?_) | ((with_reducible refine Chk.intro ?_ ?_); (· first | omega | (with_reducible refine Chk.intro ?_ ?_ <;> omega) | (simp; done) | (simp; omega))) | ((with_reducible refine LetW.i64 ?_ ?_ ?_); (· omega); (· omega)) | ((with_reducible refine Ite.decide (fun _ => ?_) (fun _ => ?_)) <;> first | (exfalso; omega) | simp (maxSteps := 1000000) only [go_sem, reduceCtorEq, Nat.reduceLT, Nat.reduceLeDiff, reduceIte, ↓reduceIte, Nat.reduceEqDiff, Nat.reduceAdd, Nat.reduceMul, Nat.reduceSub, Int.reduceLE, Int.reduceLT, Int.reduceNeg, Int.reduceToNat]) | ((with_reducible refine Ite.bool (fun _ => ?_) (fun _ => ?_)) <;> simp (maxSteps := 1000000) only [go_sem, reduceCtorEq, Nat.reduceLT, Nat.reduceLeDiff, reduceIte, ↓reduceIte, Nat.reduceEqDiff, Nat.reduceAdd, Nat.reduceMul, Nat.reduceSub, Int.reduceLE, Int.reduceLT, Int.reduceNeg, Int.reduceToNat]) | (with_reducible refine And.intro ?_ ?_))

  · rename_i h1
    refine Ret.auto 0 ?_ rfl ?_ <;> simp only [go_sem, reduceCtorEq, reduceIte, Nat.reduceEqDiff, Nat.reduceLT, Nat.reduceLeDiff, Int.natCast_succ, Post, grayErr, h1, reduceIte]
  · have h1 : sizeErr w h = 0 := by omega
    have hs := sizeErr_zero h1
    refine LetW.i64 (by omega) (by omega) ?_
    (repeat' first | (with_reducible refine Asm.intro fun _ => ?_) | ((with_reducible refine Chk.intro ?_ ?_); (· first | omega | (with_reducible refine Chk.intro ?_ ?_ <;> omega) | (simp; done) | (simp; omega))) | ((with_reducible refine LetW.i64 ?_ ?_ ?_); (· omega); (· omega)) | ((with_reducible refine Ite.decide (fun _ => ?_) (fun _ => ?_)) <;> first | (exfalso; omega) | simp (maxSteps := 1000000) only [go_sem, reduceCtorEq, Nat.reduceLT, Nat.reduceLeDiff, reduceIte, ↓reduceIte, Nat.reduceEqDiff, Nat.reduceAdd, Nat.reduceMul, Nat.reduceSub, Int.reduceLE, Int.reduceLT, Int.reduceNeg, Int.reduceToNat]) | ((with_reducible refine Ite.bool (fun _ => ?_) (fun _ => ?_)) <;> simp (maxSteps := 1000000) only [go_sem, reduceCtorEq, Nat.reduceLT, Nat.reduceLeDiff, reduceIte, ↓reduceIte, Nat.reduceEqDiff, Nat.reduceAdd, Nat.reduceMul, Nat.reduceSub, Int.reduceLE, Int.reduceLT, Int.reduceNeg, Int.reduceToNat]) | (with_reducible refine And.intro ?_ ?_))
    · rename_i h2
      refine Ret.auto 0 ?_ rfl ?_ <;> simp only [go_sem, reduceCtorEq, reduceIte, Nat.reduceEqDiff, Nat.reduceLT, Nat.reduceLeDiff, Int.natCast_succ, Post, grayErr, h1, h2, reduceIte]
    · rename_i h2
      refine Ret.auto 0 ?_ rfl ?_ <;> simp only [go_sem, reduceCtorEq, reduceIte, Nat.reduceEqDiff, Nat.reduceLT, Nat.reduceLeDiff, Int.natCast_succ, Post, grayErr, h1, reduceIte]
      rw [if_pos (by omega)]
set_option maxHeartbeats 1000000 in
theorem madeGray_ok (w h : Nat) (hw : w ≤ 4000) (hh : h ≤ 4000) (f : Nat) (caps : List AV) [CapsOk caps] (p : Nat → Nat → Int) (hp : ∀ x y : Nat, x < w → y < h → FnFr Tryd.prog f ([.int .i64 x, .int .i64 y] ++ caps) (.int .u8 (p x y)) []) :
    FnOk Tryd.prog 60 [.int .i64 w, .int .i64 h, .fn f caps] (.agg [.int .i64 w, .int .i64 h, .own 0]) [(0, .row 5 (.ints .u8 (rowsOf w p (h * w))))] := by
  refine FnOk.of_vc Tryd.func60 rfl (by decide) (by simp [Tryd.f60]) [.cell 6 59] rfl fun w0 T0 _ => ?_
  simp only [Tryd.f60, argEnv]
  simp (maxSteps := 1000000) only [go_sem, reduceCtorEq, Nat.reduceLT, Nat.reduceLeDiff, reduceIte, ↓reduceIte, Nat.reduceEqDiff, Nat.reduceAdd, Nat.reduceMul, Nat.reduceSub, Int.reduceLE, Int.reduceLT, Int.reduceNeg, Int.reduceToNat]
  (repeat' first | (with_reducible refine Asm.intro fun _ => ?_) | ((with_reducible refine Chk.intro ?_ ?_); (· first | omega | (with_reducible refine Chk.intro ?_ ?_ <;> omega) | (simp; done) | (simp; omega))) | ((with_reducible refine LetW.i64 ?_ ?_ ?_); (· omega); (· omega)) | ((with_reducible refine Ite.decide (fun _ => ?_) (fun _ => ?_)) <;> first | (exfalso; omega) | simp (maxSteps := 1000000) only [go_sem, reduceCtorEq, Nat.reduceLT, Nat.reduceLeDiff, reduceIte, ↓reduceIte, Nat.reduceEqDiff, Nat.reduceAdd, Nat.reduceMul, Nat.reduceSub, Int.reduceLE, Int.reduceLT, Int.reduceNeg, Int.reduceToNat]) | ((with_reducible refine Ite.bool (fun _ => ?_) (fun _ => ?_)) <;> simp (maxSteps := 1000000) only [go_sem, reduceCtorEq, Nat.reduceLT, Nat.reduceLeDiff, reduceIte, ↓reduceIte, Nat.reduceEqDiff, Nat.reduceAdd, Nat.reduceMul, Nat.reduceSub, Int.reduceLE, Int.reduceLT, Int.reduceNeg, Int.reduceToNat]) | (with_reducible refine And.intro ?_ ?_))
  refine VcLoop.intro (fun y : Nat => ⟨33, [(14, .int .i64 y), (13, .int .i64 h), (7, .ptr 1 0), (6, .ptr 0 0), (0, .int .i64 w), (2, .fn f caps)], [(1, .box 59 [.int .i64 w, .int .i64 h, .own 2]), (0, .box 59 [.int .i64 0, .int .i64 0, .nilS]), (2, .row 5 (.ints .u8 (rowsOf w p (y * w))))], 3⟩) (fun y => y ≤ h) (fun y => h - y) 0 ?_ (Nat.zero_le _) fun y hy => ?_
  · refine Ent.trans (Ent.nilBox (P := Tryd.prog) 1 2 5 e5 rfl rfl) (Ent.auto0 rfl ?_ ?_) <;> simp only [go_sem, reduceCtorEq, reduceIte, Nat.reduceEqDiff, Nat.reduceLT, Nat.reduceLeDiff, Int.natCast_succ, rowsOf, zrow, put, List.set_cons_zero, List.set_cons_succ, Nat.zero_mul, List.range_zero, List.map_nil, List.replicate_zero]
  simp (maxSteps := 1000000) only [go_sem, reduceCtorEq, Nat.reduceLT, Nat.reduceLeDiff, reduceIte, ↓reduceIte, Nat.reduceEqDiff, Nat.reduceAdd, Nat.reduceMul, Nat.reduceSub, Int.reduceLE, Int.reduceLT, Int.reduceNeg, Int.reduceToNat]
  (repeat' first | (with_reducible refine Asm.intro fun _ => ?_) | ((with_reducible refine Chk.intro ?_ ?_); (· first | omega | (with_reducible refine Chk.intro ?_ ?_ <;> omega) | (simp; done) | (simp; omega))) | ((with_reducible refine LetW.i64 ?_ ?_ ?_); (· omega); (· omega)) | ((with_reducible refine Ite.decide (fun _ => ?_) (fun _ => ?_)) <;> first | (exfalso; omega) | simp (maxSteps := 1000000) only [go_sem, reduceCtorEq, Nat.reduceLT, Nat.reduceLeDiff, reduceIte, ↓reduceIte, Nat.reduceEqDiff, Nat.reduceAdd, Nat.reduceMul, Nat.reduceSub, Int.reduceLE, Int.reduceLT, Int.reduceNeg, Int.reduceToNat]) | ((with_reducible refine Ite.bool (fun _ => ?_) (fun _ => ?_)) <;> simp (maxSteps := 1000000) only [go_sem, reduceCtorEq, Nat.reduceLT, Nat.reduceLeDiff, reduceIte, ↓reduceIte, Nat.reduceEqDiff, Nat.reduceAdd, Nat.reduceMul, Nat.reduceSub, Int.reduceLE, Int.reduceLT, Int.reduceNeg, Int.reduceToNat]) | (with_reducible refine And.intro ?_ ?_))
  · refine VcLoop.intro (fun x : Nat => ⟨33, [(18, .int .i64 x), (17, .int .i64 w), (8, .int .i64 y), (14, .int .i64 y), (13, .int .i64 h), (7, .ptr 1 0), (6, .ptr 0 0), (0, .int .i64 w), (2, .fn f caps)], [(1, .box 59 [.int .i64 w, .int .i64 h, .own 2]), (0, .box 59 [.int .i64 0, .int .i64 0, .nilS]), (2, .row 5 (.ints .u8 (rowsOf w p (y * w + x))))], 3⟩) (fun x => x ≤ w) (fun x => w - x) 0 ?_ (Nat.zero_le _) fun x hx => ?_
    · refine Ent.auto0 rfl ?_ ?_ <;> simp only [go_sem, reduceCtorEq, reduceIte, Nat.reduceEqDiff, Nat.reduceLT, Nat.reduceLeDiff, Int.natCast_succ, Nat.add_zero]
    simp (maxSteps := 1000000) only [go_sem, reduceCtorEq, Nat.reduceLT, Nat.reduceLeDiff, reduceIte, ↓reduceIte, Nat.reduceEqDiff, Nat.reduceAdd, Nat.reduceMul, Nat.reduceSub, Int.reduceLE, Int.reduceLT, Int.reduceNeg, Int.reduceToNat]
    (repeat' first | (with_reducible refine Asm.intro fun _ => ?_) | ((with_reducible refine Chk.intro ?_ ?_); (· first | omega | (with_reducible refine Chk.intro ?_ ?_ <;> omega) | (simp; done) | (simp; omega))) | ((with_reducible refine LetW.i64 ?_ ?_ ?_); (· omega); (· omega)) | ((with_reducible refine Ite.decide (fun _ => ?_) (fun _ => ?_)) <;> first | (exfalso; omega) | simp (maxSteps := 1000000) only [go_sem, reduceCtorEq, Nat.reduceLT, Nat.reduceLeDiff, reduceIte, ↓reduceIte, Nat.reduceEqDiff, Nat.reduceAdd, Nat.reduceMul, Nat.reduceSub, Int.reduceLE, Int.reduceLT, Int.reduceNeg, Int.reduceToNat]) | ((with_reducible refine Ite.bool (fun _ => ?_) (fun _ => ?_)) <;> simp (maxSteps := 1000000) only [go_sem, reduceCtorEq, Nat.reduceLT, Nat.reduceLeDiff, reduceIte, ↓reduceIte, Nat.reduceEqDiff, Nat.reduceAdd, Nat.reduceMul, Nat.reduceSub, Int.reduceLE, Int.reduceLT, Int.reduceNeg, Int.reduceToNat]) | (with_reducible refine And.intro ?_ ?_))
    · refine VcDraw.lex [6, 7, 9] [(0, [1]), (1, [1])] (by kernel_rfl) (by kernel_rfl) ?_
      simp (maxSteps := 1000000) only [go_sem, reduceCtorEq, Nat.reduceLT, Nat.reduceLeDiff, reduceIte, ↓reduceIte, Nat.reduceEqDiff, Nat.reduceAdd, Nat.reduceMul, Nat.reduceSub, Int.reduceLE, Int.reduceLT, Int.reduceNeg, Int.reduceToNat]
      (repeat' first | (with_reducible refine Asm.intro fun _ => ?_) | ((with_reducible refine Chk.intro ?_ ?_); (· first | omega | (with_reducible refine Chk.intro ?_ ?_ <;> omega) | (simp; done) | (simp; omega))) | ((with_reducible refine LetW.i64 ?_ ?_ ?_); (· omega); (· omega)) | ((with_reducible refine Ite.decide (fun _ => ?_) (fun _ => ?_)) <;> first | (exfalso; omega) | simp (maxSteps := 1000000) only [go_sem, reduceCtorEq, Nat.reduceLT, Nat.reduceLeDiff, reduceIte, ↓reduceIte, Nat.reduceEqDiff, Nat.reduceAdd, Nat.reduceMul, Nat.reduceSub, Int.reduceLE, Int.reduceLT, Int.reduceNeg, Int.reduceToNat]) | ((with_reducible refine Ite.bool (fun _ => ?_) (fun _ => ?_)) <;> simp (maxSteps := 1000000) only [go_sem, reduceCtorEq, Nat.reduceLT, Nat.reduceLeDiff, reduceIte, ↓reduceIte, Nat.reduceEqDiff, Nat.reduceAdd, Nat.reduceMul, Nat.reduceSub, Int.reduceLE, Int.reduceLT, Int.reduceNeg, Int.reduceToNat]) | (with_reducible refine And.intro ?_ ?_))
      refine QV.intro (.int .u8 (p x y)) ?_ ?_
      · simp (maxSteps := 1000000) only [go_sem, reduceCtorEq, Nat.reduceLT, Nat.reduceLeDiff, reduceIte, ↓reduceIte, Nat.reduceEqDiff, Nat.reduceAdd, Nat.reduceMul, Nat.reduceSub, Int.reduceLE, Int.reduceLT, Int.reduceNeg, Int.reduceToNat]
        refine VcCall.fr (args' := [.int .i64 x, .int .i64 y] ++ caps) (hp x y (by omega) (by omega)) (by simp [argOkL, allOk, argOkN, allOk_caps]) 0 rfl (by simp [rowsB]) ?_
        simp (maxSteps := 1000000) only [go_sem, reduceCtorEq, Nat.reduceLT, Nat.reduceLeDiff, reduceIte, ↓reduceIte, Nat.reduceEqDiff, Nat.reduceAdd, Nat.reduceMul, Nat.reduceSub, Int.reduceLE, Int.reduceLT, Int.reduceNeg, Int.reduceToNat]
      · simp (maxSteps := 1000000) only [go_sem, reduceCtorEq, Nat.reduceLT, Nat.reduceLeDiff, reduceIte, ↓reduceIte, Nat.reduceEqDiff, Nat.reduceAdd, Nat.reduceMul, Nat.reduceSub, Int.reduceLE, Int.reduceLT, Int.reduceNeg, Int.reduceToNat]
        have hb : y * w + x ≤ 4000 * 4000 + 4000 := Nat.add_le_add (Nat.mul_le_mul (by omega) hw) (by omega)
        have hr := rowsOf_len w p (y * w + x)
        have hs := rowsOf_succ p (x := x) (y := y) (w := w) (by omega)
        (repeat' first | (with_reducible refine Asm.intro fun _ => ?_) | ((with_reducible refine Chk.intro ?_ ?_); (· first | omega | (with_reducible refine Chk.intro ?_ ?_ <;> omega) | (simp; done) | (simp; omega))) | ((with_reducible refine LetW.i64 ?_ ?_ ?_); (· omega); (· omega)) | ((with_reducible refine Ite.decide (fun _ => ?_) (fun _ => ?_)) <;> first | (exfalso; omega) | simp (maxSteps := 1000000) only [go_sem, reduceCtorEq, Nat.reduceLT, Nat.reduceLeDiff, reduceIte, ↓reduceIte, Nat.reduceEqDiff, Nat.reduceAdd, Nat.reduceMul, Nat.reduceSub, Int.reduceLE, Int.reduceLT, Int.reduceNeg, Int.reduceToNat]) | ((with_reducible refine Ite.bool (fun _ => ?_) (fun _ => ?_)) <;> simp (maxSteps := 1000000) only [go_sem, reduceCtorEq, Nat.reduceLT, Nat.reduceLeDiff, reduceIte, ↓reduceIte, Nat.reduceEqDiff, Nat.reduceAdd, Nat.reduceMul, Nat.reduceSub, Int.reduceLE, Int.reduceLT, Int.reduceNeg, Int.reduceToNat]) | (with_reducible refine And.intro ?_ ?_))
        refine ⟨x + 1, Ent.auto0 rfl ?_ ?_, by omega, by omega⟩ <;> simp only [go_sem, reduceCtorEq, reduceIte, Nat.reduceEqDiff, Nat.reduceLT, Nat.reduceLeDiff, Int.natCast_succ, hs]
        all_goals rfl
    · refine ⟨y + 1, Ent.auto0 rfl ?_ ?_, by omega, by omega⟩ <;> simp only [go_sem, reduceCtorEq, reduceIte, Nat.reduceEqDiff, Nat.reduceLT, Nat.reduceLeDiff, Int.natCast_succ]
      have e : x = w := by omega
      all_goals first | rfl | rw [e, Nat.succ_mul]
  · have e : y = h := by omega
    subst e
    refine Ret.auto 1 ?_ rfl ?_ <;> simp only [go_sem, reduceCtorEq, reduceIte, Nat.reduceEqDiff, Nat.reduceLT, Nat.reduceLeDiff, Int.natCast_succ, Post, List.drop_zero]
    all_goals simp (maxSteps := 1000000) only [go_sem, reduceCtorEq, Nat.reduceLT, Nat.reduceLeDiff, reduceIte, ↓reduceIte, Nat.reduceEqDiff, Nat.reduceAdd, Nat.reduceMul, Nat.reduceSub, Int.reduceLE, Int.reduceLT, Int.reduceNeg, Int.reduceToNat]

def fitV (p : List Int) (w x y : Nat) : Int := if p.length = 0 then 200 else p.getD ((y * w + x) % p.length) 0

set_option maxHeartbeats 2000000 in
theorem fitGray1_ok (W H : Int) (p : List Int) (w x y : Nat) (hw : w ≤ 16) (hx : x < w) (hy : y < 16) :
    FnOk Tryd.prog 61 [.int .i64 x, .int .i64 y, .cell [.int .i64 W, .int .i64 H, .ro (.ints .u8 p)], .cell [.int .i64 w]] (.int .u8 (fitV p w x y)) [] := by
  have b1 : y * w ≤ 16 * 16 := Nat.mul_le_mul (by omega) hw
  refine FnOk.of_vc Tryd.func61 rfl (by decide) (by simp [Tryd.f61]) [.tmp 6] rfl fun w0 T0 _ => ?_
  simp only [Tryd.f61, argEnv]
  (repeat' first | with_reducible (first | refine Asm.intro fun _ => ?_ | refine Chk.g ?_ | refine AnyI.i64 fun _ _ => ?_ | refine LetW.g ?_ | refine LetW.h ?_ | refine Ite.t fun _ => ?_ | refine Ite.f fun _ => ?_ | refine Ite.decide (fun _ => ?_) fun _ => ?_ | refine Ite.bool (fun _ => ?_) fun _ => ?_ | refine And.intro ?_ ?_) | omega | simp (maxSteps := 1000000) only [go_sem, reduceCtorEq, Nat.reduceLT, Nat.reduceLeDiff, reduceIte, ↓reduceIte, Nat.reduceEqDiff, Nat.reduceAdd, Nat.reduceMul, Nat.reduceSub, Int.reduceLE, Int.reduceLT, Int.reduceNeg, Int.reduceToNat])
  · have e : p.length = 0 := by omega
    refine Ret.auto 0 ?_ rfl ?_ <;> simp only [go_sem, reduceCtorEq, reduceIte, Nat.reduceEqDiff, Nat.reduceLT, Nat.reduceLeDiff, Int.natCast_succ, Post, fitV, e, reduceIte]
  · have hl : 0 < p.length := by omega
    have hm := Nat.mod_lt (y * w + x) hl
    refine VcDraw.lex [] [] (by kernel_rfl) (by kernel_rfl) ?_
    (repeat' first | with_reducible (first | refine Asm.intro fun _ => ?_ | refine Chk.g ?_ | refine AnyI.i64 fun _ _ => ?_ | refine LetW.g ?_ | refine LetW.h ?_ | refine Ite.t fun _ => ?_ | refine Ite.f fun _ => ?_ | refine Ite.decide (fun _ => ?_) fun _ => ?_ | refine Ite.bool (fun _ => ?_) fun _ => ?_ | refine And.intro ?_ ?_) | omega | simp (maxSteps := 1000000) only [go_sem, reduceCtorEq, Nat.reduceLT, Nat.reduceLeDiff, reduceIte, ↓reduceIte, Nat.reduceEqDiff, Nat.reduceAdd, Nat.reduceMul, Nat.reduceSub, Int.reduceLE, Int.reduceLT, Int.reduceNeg, Int.reduceToNat, up_mul, up_add, up_tmod, Int.toNat_natCast])
    refine Ret.auto 0 ?_ rfl ?_ <;> simp only [go_sem, reduceCtorEq, reduceIte, Nat.reduceEqDiff, Nat.reduceLT, Nat.reduceLeDiff, Int.natCast_succ, Post, fitV]
    rw [if_neg (by omega)]
set_option maxHeartbeats 2000000 in
theorem fitGray_ok (W H : Int) (p : List Int) :
    FnOk Tryd.prog 27 [.agg [.int .i64 W, .int .i64 H, .ro (.ints .u8 p)]] (.agg [.int .i64 (fitN W 15), .int .i64 (fitN H 15), .own 0]) [(0, .row 5 (.ints .u8 (rowsOf (fitN W 15) (fitV p (fitN W 15)) (fitN H 15 * fitN W 15))))] := by
  obtain ⟨w1, w2, w3⟩ := fitN_bd W 15 (by decide)
  obtain ⟨h1, h2, h3⟩ := fitN_bd H 15 (by decide)
  replace w3 : 1 + bitsI .and .i64 W 15 = ((fitN W 15 : Nat) : Int) := w3
  replace h3 : 1 + bitsI .and .i64 H 15 = ((fitN H 15 : Nat) : Int) := h3
  generalize fitN W 15 = w at *
  generalize fitN H 15 = h at *
  haveI c1 : CapsOk [.cell [.int .i64 W, .int .i64 H, .ro (.ints .u8 p)], .cell [.int .i64 w]] := ⟨rfl⟩
  have k1 := madeGray_ok w h (by omega) (by omega) 61 [.cell [.int .i64 W, .int .i64 H, .ro (.ints .u8 p)], .cell [.int .i64 w]] (fitV p w)
    (fun x y hx hy => FnFr.of_ok (fitGray1_ok W H p w x y (by omega) hx (by omega)) rfl rfl)
  generalize rowsOf w (fitV p w) (h * w) = out at *
  refine FnOk.of_vc Tryd.func27 rfl (by decide) (by simp [Tryd.f27]) [.cell 2 59] rfl fun w0 T0 _ => ?_
  simp only [Tryd.f27, argEnv]
  (repeat' first | with_reducible (first | refine Asm.intro fun _ => ?_ | refine Chk.g ?_ | refine AnyI.i64 fun _ _ => ?_ | refine LetW.g ?_ | refine LetW.h ?_ | refine Ite.t fun _ => ?_ | refine Ite.f fun _ => ?_ | refine Ite.decide (fun _ => ?_) fun _ => ?_ | refine Ite.bool (fun _ => ?_) fun _ => ?_ | refine And.intro ?_ ?_) | omega | simp (maxSteps := 1000000) only [go_sem, reduceCtorEq, Nat.reduceLT, Nat.reduceLeDiff, reduceIte, ↓reduceIte, Nat.reduceEqDiff, Nat.reduceAdd, Nat.reduceMul, Nat.reduceSub, Int.reduceLE, Int.reduceLT, Int.reduceNeg, Int.reduceToNat])
  refine VcDraw.lex [8, 9] [(0, [1]), (1, [1]), (2, [1]), (3, [1]), (4, [1, 2]), (5, [1, 2]), (6, [1, 2]), (7, [1, 2])] (by kernel_rfl) (by kernel_rfl) ?_
  (repeat' first | with_reducible (first | refine Asm.intro fun _ => ?_ | refine Chk.g ?_ | refine AnyI.i64 fun _ _ => ?_ | refine LetW.g ?_ | refine LetW.h ?_ | refine Ite.t fun _ => ?_ | refine Ite.f fun _ => ?_ | refine Ite.decide (fun _ => ?_) fun _ => ?_ | refine Ite.bool (fun _ => ?_) fun _ => ?_ | refine And.intro ?_ ?_) | omega | simp (maxSteps := 1000000) only [go_sem, reduceCtorEq, Nat.reduceLT, Nat.reduceLeDiff, reduceIte, ↓reduceIte, Nat.reduceEqDiff, Nat.reduceAdd, Nat.reduceMul, Nat.reduceSub, Int.reduceLE, Int.reduceLT, Int.reduceNeg, Int.reduceToNat, w3, h3])
  refine VcCall.fr (FnFr.of_ok k1 rfl rfl) (by simp only [noIdR_ok, argOkL, argOk, allOk, argOkN, List.drop_zero, lk, reduceIte, reduceCtorEq, Nat.reduceEqDiff, Option.some.injEq, Item.row.injEq, Item.box.injEq, AV.ro.injEq, exists_eq_left, exists_and_left, exists_eq_left', exists_eq_right, and_assoc, and_true, true_and, List.cons.injEq, exists_eq', exists_eq]) 1 rfl (by simp [rowsB, Item.below, Fv.below, belowL]) ?_
  (repeat' first | with_reducible (first | refine Asm.intro fun _ => ?_ | refine Chk.g ?_ | refine AnyI.i64 fun _ _ => ?_ | refine LetW.g ?_ | refine LetW.h ?_ | refine Ite.t fun _ => ?_ | refine Ite.f fun _ => ?_ | refine Ite.decide (fun _ => ?_) fun _ => ?_ | refine Ite.bool (fun _ => ?_) fun _ => ?_ | refine And.intro ?_ ?_) | omega | simp (maxSteps := 1000000) only [go_sem, reduceCtorEq, Nat.reduceLT, Nat.reduceLeDiff, reduceIte, ↓reduceIte, Nat.reduceEqDiff, Nat.reduceAdd, Nat.reduceMul, Nat.reduceSub, Int.reduceLE, Int.reduceLT, Int.reduceNeg, Int.reduceToNat])
  refine Ret.auto 1 ?_ rfl ?_ <;> simp only [go_sem, reduceCtorEq, reduceIte, Nat.reduceEqDiff, Nat.reduceLT, Nat.reduceLeDiff, Int.natCast_succ, Post, List.drop_zero]
  all_goals simp (maxSteps := 1000000) only [go_sem, reduceCtorEq, Nat.reduceLT, Nat.reduceLeDiff, reduceIte, ↓reduceIte, Nat.reduceEqDiff, Nat.reduceAdd, Nat.reduceMul, Nat.reduceSub, Int.reduceLE, Int.reduceLT, Int.reduceNeg, Int.reduceToNat]
set_option maxHeartbeats 1000000 in
theorem equalBytes_ok (a b : List Int) : FnOk Tryd.prog 96 [.ro (.ints .u8 a), .ro (.ints .u8 b)] (.bool (decide (a = b))) [] := by
  refine FnOk.of_vc Tryd.func96 rfl (by decide) (by simp [Tryd.f96]) [.tmp 4] rfl fun w0 T0 _ => ?_
  simp only [Tryd.f96, argEnv]
  simp (maxSteps := 1000000) only [go_sem, reduceCtorEq, Nat.reduceLT, Nat.reduceLeDiff, reduceIte, ↓reduceIte, Nat.reduceEqDiff, Nat.reduceAdd, Nat.reduceMul, Nat.reduceSub, Int.reduceLE, Int.reduceLT, Int.reduceNeg, Int.reduceToNat]
  refine Asm.intro fun _ => Asm.intro fun _ => Ite.decide (fun h => ?_) fun h => ?_
  · simp (maxSteps := 1000000) only [go_sem, reduceCtorEq, Nat.reduceLT, Nat.reduceLeDiff, reduceIte, ↓reduceIte, Nat.reduceEqDiff, Nat.reduceAdd, Nat.reduceMul, Nat.reduceSub, Int.reduceLE, Int.reduceLT, Int.reduceNeg, Int.reduceToNat]
    refine Ret.auto 0 ?_ rfl (by simp [subOk])
    have : a ≠ b := by intro e; subst e; exact h rfl
    simp only [go_sem, reduceCtorEq, reduceIte, Nat.reduceEqDiff, Nat.reduceLT, Nat.reduceLeDiff, Int.natCast_succ, Post, this, decide_false, decide_true]
  have hl : a.length = b.length := by omega
  simp (maxSteps := 1000000) only [go_sem, reduceCtorEq, Nat.reduceLT, Nat.reduceLeDiff, reduceIte, ↓reduceIte, Nat.reduceEqDiff, Nat.reduceAdd, Nat.reduceMul, Nat.reduceSub, Int.reduceLE, Int.reduceLT, Int.reduceNeg, Int.reduceToNat]
  refine Asm.intro fun _ => VcLoop.intro (fun i : Nat => ⟨26, [(0, .ro (.ints .u8 a)), (1, .ro (.ints .u8 b)), (12, .int .i64 a.length), (13, .int .i64 i)], [], 0⟩) (fun i => i ≤ a.length ∧ ∀ j, j < i → a.getD j 0 = b.getD j 0) (fun i => a.length - i) 0 ?_ ⟨by omega, fun j hj => by omega⟩ fun i hi => ?_
  · refine Ent.auto0 rfl ?_ ?_ <;> simp only [go_sem, reduceCtorEq, reduceIte, Nat.reduceEqDiff, Nat.reduceLT, Nat.reduceLeDiff, Int.natCast_succ]
  simp (maxSteps := 1000000) only [go_sem, reduceCtorEq, Nat.reduceLT, Nat.reduceLeDiff, reduceIte, ↓reduceIte, Nat.reduceEqDiff, Nat.reduceAdd, Nat.reduceMul, Nat.reduceSub, Int.reduceLE, Int.reduceLT, Int.reduceNeg, Int.reduceToNat]
  refine Ite.decide (fun h1 => ?_) (fun h1 => ?_)
  · simp (maxSteps := 1000000) only [go_sem, reduceCtorEq, Nat.reduceLT, Nat.reduceLeDiff, reduceIte, ↓reduceIte, Nat.reduceEqDiff, Nat.reduceAdd, Nat.reduceMul, Nat.reduceSub, Int.reduceLE, Int.reduceLT, Int.reduceNeg, Int.reduceToNat]
    refine VcDraw.lex [] [] (by kernel_rfl) (by kernel_rfl) ?_
    simp (maxSteps := 1000000) only [go_sem, reduceCtorEq, Nat.reduceLT, Nat.reduceLeDiff, reduceIte, ↓reduceIte, Nat.reduceEqDiff, Nat.reduceAdd, Nat.reduceMul, Nat.reduceSub, Int.reduceLE, Int.reduceLT, Int.reduceNeg, Int.reduceToNat]
    (repeat' first | (with_reducible refine Asm.intro fun _ => ?_) | ((with_reducible refine Chk.intro ?_ ?_); (· first | omega | (with_reducible refine Chk.intro ?_ ?_ <;> omega) | (simp; done) | (simp; omega))) | ((with_reducible refine LetW.i64 ?_ ?_ ?_); (· omega); (· omega)) | ((with_reducible refine Ite.decide (fun _ => ?_) (fun _ => ?_)) <;> first | (exfalso; omega) | simp (maxSteps := 1000000) only [go_sem, reduceCtorEq, Nat.reduceLT, Nat.reduceLeDiff, reduceIte, ↓reduceIte, Nat.reduceEqDiff, Nat.reduceAdd, Nat.reduceMul, Nat.reduceSub, Int.reduceLE, Int.reduceLT, Int.reduceNeg, Int.reduceToNat]) | ((with_reducible refine Ite.bool (fun _ => ?_) (fun _ => ?_)) <;> simp (maxSteps := 1000000) only [go_sem, reduceCtorEq, Nat.reduceLT, Nat.reduceLeDiff, reduceIte, ↓reduceIte, Nat.reduceEqDiff, Nat.reduceAdd, Nat.reduceMul, Nat.reduceSub, Int.reduceLE, Int.reduceLT, Int.reduceNeg, Int.reduceToNat]) | (with_reducible refine And.intro ?_ ?_))
    · rename_i h2
      refine Ret.auto 0 ?_ rfl (by simp [subOk])
      have : a ≠ b := by intro e; subst e; exact h2 rfl
      simp only [go_sem, reduceCtorEq, reduceIte, Nat.reduceEqDiff, Nat.reduceLT, Nat.reduceLeDiff, Int.natCast_succ, Post, this]
    · rename_i h2
      refine ⟨i + 1, Ent.auto0 rfl ?_ ?_, ⟨by omega, fun j hj => ?_⟩, by omega⟩
      · simp only [go_sem, reduceCtorEq, reduceIte, Nat.reduceEqDiff, Nat.reduceLT, Nat.reduceLeDiff, Int.natCast_succ]
        all_goals omega
      · simp only [go_sem, reduceCtorEq, reduceIte, Nat.reduceEqDiff, Nat.reduceLT, Nat.reduceLeDiff, Int.natCast_succ]
      · by_cases e : j = i
        · subst e; exact Decidable.of_not_not h2
        · exact hi.2 j (by omega)
  · simp (maxSteps := 1000000) only [go_sem, reduceCtorEq, Nat.reduceLT, Nat.reduceLeDiff, reduceIte, ↓reduceIte, Nat.reduceEqDiff, Nat.reduceAdd, Nat.reduceMul, Nat.reduceSub, Int.reduceLE, Int.reduceLT, Int.reduceNeg, Int.reduceToNat]
    refine Ret.auto 0 ?_ rfl (by simp [subOk])
    have : a = b := eq_of_getD 0 hl fun j hj => hi.2 j (by omega)
    simp only [go_sem, reduceCtorEq, reduceIte, Nat.reduceEqDiff, Nat.reduceLT, Nat.reduceLeDiff, Int.natCast_succ, Post, this, decide_false, decide_true]

theorem sameGray_ok (w h w' h' : Int) (p p' : List Int) : FnOk Tryd.prog 68 [.agg [.int .i64 w, .int .i64 h, .ro (.ints .u8 p)], .agg [.int .i64 w', .int .i64 h', .ro (.ints .u8 p')]] (.bool (decide (w = w' ∧ h = h' ∧ p = p'))) [] := by
  have k := equalBytes_ok p p'
  refine FnOk.of_vc Tryd.func68 rfl (by decide) (by simp [Tryd.f68]) [.tmp 4] rfl fun w0 T0 _ => ?_
  simp only [Tryd.f68, argEnv]
  by_cases h1 : w = w'
  · by_cases h2 : h = h'
    · subst h1 h2
      (repeat' first | with_reducible (first | refine Asm.intro fun _ => ?_ | refine Chk.g ?_ | refine AnyI.i64 fun _ _ => ?_ | refine LetW.g ?_ | refine LetW.h ?_ | refine Ite.t fun _ => ?_ | refine Ite.f fun _ => ?_ | refine Ite.decide (fun _ => ?_) fun _ => ?_ | refine Ite.bool (fun _ => ?_) fun _ => ?_ | refine And.intro ?_ ?_) | omega | simp (maxSteps := 1000000) only [go_sem, reduceCtorEq, Nat.reduceLT, Nat.reduceLeDiff, reduceIte, ↓reduceIte, Nat.reduceEqDiff, Nat.reduceAdd, Nat.reduceMul, Nat.reduceSub, Int.reduceLE, Int.reduceLT, Int.reduceNeg, Int.reduceToNat])
      refine VcCall.fr (FnFr.of_ok (k) rfl rfl) (by simp only [noIdR_ok, argOkL, argOk, allOk, argOkN, List.drop_zero, lk, reduceIte, reduceCtorEq, Nat.reduceEqDiff, Option.some.injEq, Item.row.injEq, Item.box.injEq, AV.ro.injEq, exists_eq_left, exists_and_left, exists_eq_left', exists_eq_right, and_assoc, and_true, true_and, List.cons.injEq, exists_eq', exists_eq]) 0 rfl (by simp [rowsB]) ?_
      (repeat' first | with_reducible (first | refine Asm.intro fun _ => ?_ | refine Chk.g ?_ | refine AnyI.i64 fun _ _ => ?_ | refine LetW.g ?_ | refine LetW.h ?_ | refine Ite.t fun _ => ?_ | refine Ite.f fun _ => ?_ | refine Ite.decide (fun _ => ?_) fun _ => ?_ | refine Ite.bool (fun _ => ?_) fun _ => ?_ | refine And.intro ?_ ?_) | omega | simp (maxSteps := 1000000) only [go_sem, reduceCtorEq, Nat.reduceLT, Nat.reduceLeDiff, reduceIte, ↓reduceIte, Nat.reduceEqDiff, Nat.reduceAdd, Nat.reduceMul, Nat.reduceSub, Int.reduceLE, Int.reduceLT, Int.reduceNeg, Int.reduceToNat])
      refine Ret.auto 0 ?_ rfl ?_ <;> simp only [go_sem, reduceCtorEq, reduceIte, Nat.reduceEqDiff, Nat.reduceLT, Nat.reduceLeDiff, Int.natCast_succ, Post, true_and]
    · subst h1
      (repeat' first | with_reducible (first | refine Asm.intro fun _ => ?_ | refine Chk.g ?_ | refine AnyI.i64 fun _ _ => ?_ | refine LetW.g ?_ | refine LetW.h ?_ | refine Ite.t fun _ => ?_ | refine Ite.f fun _ => ?_ | refine Ite.decide (fun _ => ?_) fun _ => ?_ | refine Ite.bool (fun _ => ?_) fun _ => ?_ | refine And.intro ?_ ?_) | omega | simp (maxSteps := 1000000) only [go_sem, reduceCtorEq, Nat.reduceLT, Nat.reduceLeDiff, reduceIte, ↓reduceIte, Nat.reduceEqDiff, Nat.reduceAdd, Nat.reduceMul, Nat.reduceSub, Int.reduceLE, Int.reduceLT, Int.reduceNeg, Int.reduceToNat, h2])
      refine Ret.auto 0 ?_ rfl ?_ <;> simp only [go_sem, reduceCtorEq, reduceIte, Nat.reduceEqDiff, Nat.reduceLT, Nat.reduceLeDiff, Int.natCast_succ, Post, h2, false_and, and_false, decide_false]
  · (repeat' first | with_reducible (first | refine Asm.intro fun _ => ?_ | refine Chk.g ?_ | refine AnyI.i64 fun _ _ => ?_ | refine LetW.g ?_ | refine LetW.h ?_ | refine Ite.t fun _ => ?_ | refine Ite.f fun _ => ?_ | refine Ite.decide (fun _ => ?_) fun _ => ?_ | refine Ite.bool (fun _ => ?_) fun _ => ?_ | refine And.intro ?_ ?_) | omega | simp (maxSteps := 1000000) only [go_sem, reduceCtorEq, Nat.reduceLT, Nat.reduceLeDiff, reduceIte, ↓reduceIte, Nat.reduceEqDiff, Nat.reduceAdd, Nat.reduceMul, Nat.reduceSub, Int.reduceLE, Int.reduceLT, Int.reduceNeg, Int.reduceToNat, h1])
    refine Ret.auto 0 ?_ rfl ?_ <;> simp only [go_sem, reduceCtorEq, reduceIte, Nat.reduceEqDiff, Nat.reduceLT, Nat.reduceLeDiff, Int.natCast_succ, Post, h1, false_and, decide_false]
theorem alikeGray_err (f : Int) (hf : f ≠ 0) (w' h' : Int) (p' : List Int) : FnOk Tryd.prog 33 [.agg [.int .i64 0, .int .i64 0, .ro (.ints .u8 [])], .int .i64 f, .agg [.int .i64 w', .int .i64 h', .ro (.ints .u8 p')], .int .i64 f] (.bool true) [] := by
  refine FnOk.of_vc Tryd.func33 rfl (by decide) (by simp [Tryd.f33]) [.tmp 8] rfl fun w0 T0 _ => ?_
  simp only [Tryd.f33, argEnv]
  (repeat' first | with_reducible (first | refine Asm.intro fun _ => ?_ | refine Chk.g ?_ | refine AnyI.i64 fun _ _ => ?_ | refine LetW.g ?_ | refine LetW.h ?_ | refine Ite.t fun _ => ?_ | refine Ite.f fun _ => ?_ | refine Ite.decide (fun _ => ?_) fun _ => ?_ | refine Ite.bool (fun _ => ?_) fun _ => ?_ | refine And.intro ?_ ?_) | omega | simp (maxSteps := 1000000) only [go_sem, reduceCtorEq, Nat.reduceLT, Nat.reduceLeDiff, reduceIte, ↓reduceIte, Nat.reduceEqDiff, Nat.reduceAdd, Nat.reduceMul, Nat.reduceSub, Int.reduceLE, Int.reduceLT, Int.reduceNeg, Int.reduceToNat, hf])
  all_goals refine Ret.auto 0 ?_ rfl ?_ <;> simp only [go_sem, reduceCtorEq, reduceIte, Nat.reduceEqDiff, Nat.reduceLT, Nat.reduceLeDiff, Int.natCast_succ, Post]
  all_goals simp
theorem alikeGray_ok (w h : Int) (p : List Int) : FnOk Tryd.prog 33 [.agg [.int .i64 w, .int .i64 h, .ro (.ints .u8 p)], .int .i64 0, .agg [.int .i64 w, .int .i64 h, .ro (.ints .u8 p)], .int .i64 0] (.bool true) [] := by
  have k := sameGray_ok w h w h p p
  rw [decide_eq_true (by simp)] at k
  refine FnOk.of_vc Tryd.func33 rfl (by decide) (by simp [Tryd.f33]) [.tmp 8] rfl fun w0 T0 _ => ?_
  simp only [Tryd.f33, argEnv]
  (repeat' first | with_reducible (first | refine Asm.intro fun _ => ?_ | refine Chk.g ?_ | refine AnyI.i64 fun _ _ => ?_ | refine LetW.g ?_ | refine LetW.h ?_ | refine Ite.t fun _ => ?_ | refine Ite.f fun _ => ?_ | refine Ite.decide (fun _ => ?_) fun _ => ?_ | refine Ite.bool (fun _ => ?_) fun _ => ?_ | refine And.intro ?_ ?_) | omega | simp (maxSteps := 1000000) only [go_sem, reduceCtorEq, Nat.reduceLT, Nat.reduceLeDiff, reduceIte, ↓reduceIte, Nat.reduceEqDiff, Nat.reduceAdd, Nat.reduceMul, Nat.reduceSub, Int.reduceLE, Int.reduceLT, Int.reduceNeg, Int.reduceToNat])
  refine VcCall.fr (FnFr.of_ok (k) rfl rfl) (by simp only [noIdR_ok, argOkL, argOk, allOk, argOkN, List.drop_zero, lk, reduceIte, reduceCtorEq, Nat.reduceEqDiff, Option.some.injEq, Item.row.injEq, Item.box.injEq, AV.ro.injEq, exists_eq_left, exists_and_left, exists_eq_left', exists_eq_right, and_assoc, and_true, true_and, List.cons.injEq, exists_eq', exists_eq]) 0 rfl (by simp [rowsB]) ?_
  (repeat' first | with_reducible (first | refine Asm.intro fun _ => ?_ | refine Chk.g ?_ | refine AnyI.i64 fun _ _ => ?_ | refine LetW.g ?_ | refine LetW.h ?_ | refine Ite.t fun _ => ?_ | refine Ite.f fun _ => ?_ | refine Ite.decide (fun _ => ?_) fun _ => ?_ | refine Ite.bool (fun _ => ?_) fun _ => ?_ | refine And.intro ?_ ?_) | omega | simp (maxSteps := 1000000) only [go_sem, reduceCtorEq, Nat.reduceLT, Nat.reduceLeDiff, reduceIte, ↓reduceIte, Nat.reduceEqDiff, Nat.reduceAdd, Nat.reduceMul, Nat.reduceSub, Int.reduceLE, Int.reduceLT, Int.reduceNeg, Int.reduceToNat])
  refine Ret.auto 0 ?_ rfl ?_ <;> simp only [go_sem, reduceCtorEq, reduceIte, Nat.reduceEqDiff, Nat.reduceLT, Nat.reduceLeDiff, Int.natCast_succ, Post]
set_option maxHeartbeats 1000000 in
theorem gray_ok (w h : Nat) (hw : w ≤ 4000) (hh : h ≤ 4000) (f : Nat) (caps : List AV) [CapsOk caps] (q : Nat → Int) (hb : ∀ i, i < w * h → 0 ≤ q i ∧ q i ≤ 255) (hq : ∀ i : Nat, i < w * h → FnFr Tryd.prog f ([.int .i64 i] ++ caps) (.int .i64 (q i)) []) :
    FnOk Tryd.prog 63 [.int .i64 w, .int .i64 h, .fn f caps] (.agg [.int .i64 w, .int .i64 h, .own 0]) [(0, .row 5 (.ints .u8 ((List.range (w * h)).map q)))] := by
  have hwh : w * h ≤ 4000 * 4000 := Nat.mul_le_mul hw hh
  have hc : ((w : Int) * h) = ((w * h : Nat) : Int) := (Int.natCast_mul w h).symm
  generalize hn : w * h = n at hwh hc hq hb ⊢
  refine FnOk.of_vc Tryd.func63 rfl (by decide) (by simp [Tryd.f63]) [.cell 6 59] rfl fun w0 T0 _ => ?_
  simp only [Tryd.f63, argEnv]
  (repeat' first | with_reducible (first | refine Asm.intro fun _ => ?_ | refine Chk.g ?_ | refine AnyI.i64 fun _ _ => ?_ | refine LetW.g ?_ | refine LetW.h ?_ | refine Ite.t fun _ => ?_ | refine Ite.f fun _ => ?_ | refine Ite.decide (fun _ => ?_) fun _ => ?_ | refine Ite.bool (fun _ => ?_) fun _ => ?_ | refine And.intro ?_ ?_) | omega | simp (maxSteps := 1000000) only [go_sem, reduceCtorEq, Nat.reduceLT, Nat.reduceLeDiff, reduceIte, ↓reduceIte, Nat.reduceEqDiff, Nat.reduceAdd, Nat.reduceMul, Nat.reduceSub, Int.reduceLE, Int.reduceLT, Int.reduceNeg, Int.reduceToNat, hc])
  refine VcLoop.intro (fun i : Nat => ⟨32, [(19, .int .i64 i), (18, .int .i64 n), (7, .ptr 2 0), (6, .ptr 0 0), (2, .fn f caps)], [(2, .box 59 [.int .i64 w, .int .i64 h, .own 1]), (0, .box 59 [.int .i64 0, .int .i64 0, .nilS]), (1, .row 5 (.ints .u8 ((List.range i).map q ++ List.replicate (n - i) 0)))], 3⟩) (fun i => i ≤ n) (fun i => n - i) 0 ?_ (Nat.zero_le _) fun i hi => ?_
  · refine Ent.auto0 rfl ?_ ?_ <;> simp only [go_sem, reduceCtorEq, reduceIte, Nat.reduceEqDiff, Nat.reduceLT, Nat.reduceLeDiff, Int.natCast_succ, zrow, List.range_zero, List.map_nil, Nat.sub_zero, Int.toNat_natCast]
  by_cases hlt : i < n
  · obtain ⟨b1, b2⟩ := hb i hlt
    (repeat' first | with_reducible (first | refine Asm.intro fun _ => ?_ | refine Chk.g ?_ | refine AnyI.i64 fun _ _ => ?_ | refine LetW.g ?_ | refine LetW.h ?_ | refine Ite.t fun _ => ?_ | refine Ite.f fun _ => ?_ | refine Ite.decide (fun _ => ?_) fun _ => ?_ | refine Ite.bool (fun _ => ?_) fun _ => ?_ | refine And.intro ?_ ?_) | omega | simp (maxSteps := 1000000) only [go_sem, reduceCtorEq, Nat.reduceLT, Nat.reduceLeDiff, reduceIte, ↓reduceIte, Nat.reduceEqDiff, Nat.reduceAdd, Nat.reduceMul, Nat.reduceSub, Int.reduceLE, Int.reduceLT, Int.reduceNeg, Int.reduceToNat])
    refine VcDraw.lex [8] [] (by kernel_rfl) (by kernel_rfl) ?_
    (repeat' first | with_reducible (first | refine Asm.intro fun _ => ?_ | refine Chk.g ?_ | refine AnyI.i64 fun _ _ => ?_ | refine LetW.g ?_ | refine LetW.h ?_ | refine Ite.t fun _ => ?_ | refine Ite.f fun _ => ?_ | refine Ite.decide (fun _ => ?_) fun _ => ?_ | refine Ite.bool (fun _ => ?_) fun _ => ?_ | refine And.intro ?_ ?_) | omega | simp (maxSteps := 1000000) only [go_sem, reduceCtorEq, Nat.reduceLT, Nat.reduceLeDiff, reduceIte, ↓reduceIte, Nat.reduceEqDiff, Nat.reduceAdd, Nat.reduceMul, Nat.reduceSub, Int.reduceLE, Int.reduceLT, Int.reduceNeg, Int.reduceToNat])
    refine QV.intro (.int .i64 (q i)) ?_ ?_
    · (repeat' first | with_reducible (first | refine Asm.intro fun _ => ?_ | refine Chk.g ?_ | refine AnyI.i64 fun _ _ => ?_ | refine LetW.g ?_ | refine LetW.h ?_ | refine Ite.t fun _ => ?_ | refine Ite.f fun _ => ?_ | refine Ite.decide (fun _ => ?_) fun _ => ?_ | refine Ite.bool (fun _ => ?_) fun _ => ?_ | refine And.intro ?_ ?_) | omega | simp (maxSteps := 1000000) only [go_sem, reduceCtorEq, Nat.reduceLT, Nat.reduceLeDiff, reduceIte, ↓reduceIte, Nat.reduceEqDiff, Nat.reduceAdd, Nat.reduceMul, Nat.reduceSub, Int.reduceLE, Int.reduceLT, Int.reduceNeg, Int.reduceToNat])
      refine VcCall.fr (args' := [.int .i64 i] ++ caps) (hq i (by omega)) (by simp [argOkL, allOk, argOkN, allOk_caps]) 0 rfl (by simp [rowsB]) ?_
      (repeat' first | with_reducible (first | refine Asm.intro fun _ => ?_ | refine Chk.g ?_ | refine AnyI.i64 fun _ _ => ?_ | refine LetW.g ?_ | refine LetW.h ?_ | refine Ite.t fun _ => ?_ | refine Ite.f fun _ => ?_ | refine Ite.decide (fun _ => ?_) fun _ => ?_ | refine Ite.bool (fun _ => ?_) fun _ => ?_ | refine And.intro ?_ ?_) | omega | simp (maxSteps := 1000000) only [go_sem, reduceCtorEq, Nat.reduceLT, Nat.reduceLeDiff, reduceIte, ↓reduceIte, Nat.reduceEqDiff, Nat.reduceAdd, Nat.reduceMul, Nat.reduceSub, Int.reduceLE, Int.reduceLT, Int.reduceNeg, Int.reduceToNat])
    · have hs := set_range (n := n) q 0 (show i < n by omega)
      (repeat' first | with_reducible (first | refine Asm.intro fun _ => ?_ | refine Chk.g ?_ | refine AnyI.i64 fun _ _ => ?_ | refine LetW.g ?_ | refine LetW.h ?_ | refine Ite.t fun _ => ?_ | refine Ite.f fun _ => ?_ | refine Ite.decide (fun _ => ?_) fun _ => ?_ | refine Ite.bool (fun _ => ?_) fun _ => ?_ | refine And.intro ?_ ?_) | omega | simp (maxSteps := 1000000) only [go_sem, reduceCtorEq, Nat.reduceLT, Nat.reduceLeDiff, reduceIte, ↓reduceIte, Nat.reduceEqDiff, Nat.reduceAdd, Nat.reduceMul, Nat.reduceSub, Int.reduceLE, Int.reduceLT, Int.reduceNeg, Int.reduceToNat, List.length_map, List.length_range, hs, Int.toNat_natCast])
      refine ⟨i + 1, Ent.auto0 rfl ?_ ?_, by omega, by omega⟩ <;> simp only [go_sem, reduceCtorEq, reduceIte, Nat.reduceEqDiff, Nat.reduceLT, Nat.reduceLeDiff, Int.natCast_succ]
      all_goals first | rfl | rw [List.range_succ]
  · have e : i = n := by omega
    subst e
    (repeat' first | with_reducible (first | refine Asm.intro fun _ => ?_ | refine Chk.g ?_ | refine AnyI.i64 fun _ _ => ?_ | refine LetW.g ?_ | refine LetW.h ?_ | refine Ite.t fun _ => ?_ | refine Ite.f fun _ => ?_ | refine Ite.decide (fun _ => ?_) fun _ => ?_ | refine Ite.bool (fun _ => ?_) fun _ => ?_ | refine And.intro ?_ ?_) | omega | simp (maxSteps := 1000000) only [go_sem, reduceCtorEq, Nat.reduceLT, Nat.reduceLeDiff, reduceIte, ↓reduceIte, Nat.reduceEqDiff, Nat.reduceAdd, Nat.reduceMul, Nat.reduceSub, Int.reduceLE, Int.reduceLT, Int.reduceNeg, Int.reduceToNat])
    refine Ret.auto 1 ?_ rfl ?_ <;> simp only [go_sem, reduceCtorEq, reduceIte, Nat.reduceEqDiff, Nat.reduceLT, Nat.reduceLeDiff, Int.natCast_succ, Post, List.drop_zero, Nat.sub_self, List.replicate_zero, List.append_nil]
    all_goals simp (maxSteps := 1000000) only [go_sem, reduceCtorEq, Nat.reduceLT, Nat.reduceLeDiff, reduceIte, ↓reduceIte, Nat.reduceEqDiff, Nat.reduceAdd, Nat.reduceMul, Nat.reduceSub, Int.reduceLE, Int.reduceLT, Int.reduceNeg, Int.reduceToNat]
end Go.Fv.M
