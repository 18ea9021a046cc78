/-
  A part of the proof of the claim: walks over the program's functions and the plain laws that these need. No condition of its own.
-/
import Derived.Test.YtmfhpdfebmhclaaDoorFvPart9
import Derived.Test.YtmfhpdfebmhclaaDoorProg
/- Facts about the program's types: each shown by reckoning it out. -/
namespace Go.Fv.T
open Go Go.Proofs
theorem e1 : ElemZ Tryd.prog 1 (.nilFunc) := .of (by kernel_rfl) (by kernel_rfl)
theorem z1 : zeroOf Tryd.prog 1 = some (.nilFunc) := e1.zero
theorem c1 : Tryd.prog.cellsOf 1 = 1 := e1.cellsOf
theorem e2 : ElemZ Tryd.prog 2 (.int .i64 0) := .of (by kernel_rfl) (by kernel_rfl)
theorem z2 : zeroOf Tryd.prog 2 = some (.int .i64 0) := e2.zero
theorem c2 : Tryd.prog.cellsOf 2 = 1 := e2.cellsOf
theorem e3 : ElemZ Tryd.prog 3 (.int .i64 0) := .of (by kernel_rfl) (by kernel_rfl)
theorem z3 : zeroOf Tryd.prog 3 = some (.int .i64 0) := e3.zero
theorem c3 : Tryd.prog.cellsOf 3 = 1 := e3.cellsOf
theorem e4 : ElemZ Tryd.prog 4 (.bool false) := .of (by kernel_rfl) (by kernel_rfl)
theorem z4 : zeroOf Tryd.prog 4 = some (.bool false) := e4.zero
theorem c4 : Tryd.prog.cellsOf 4 = 1 := e4.cellsOf
theorem e5 : ElemZ Tryd.prog 5 (.int .u8 0) := .of (by kernel_rfl) (by kernel_rfl)
theorem z5 : zeroOf Tryd.prog 5 = some (.int .u8 0) := e5.zero
theorem c5 : Tryd.prog.cellsOf 5 = 1 := e5.cellsOf
theorem e6 : ElemZ Tryd.prog 6 (.int .u8 0) := .of (by kernel_rfl) (by kernel_rfl)
theorem e9 : ElemZ Tryd.prog 9 (.string ⟨#[]⟩) := .of (by kernel_rfl) (by kernel_rfl)
theorem z9 : zeroOf Tryd.prog 9 = some (.string ⟨#[]⟩) := e9.zero
theorem c9 : Tryd.prog.cellsOf 9 = 1 := e9.cellsOf
theorem e12 : ElemZ Tryd.prog 12 (.int .u64 0) := .of (by kernel_rfl) (by kernel_rfl)
theorem e23 : ElemZ Tryd.prog 23 (.slice none 0 0) := .of (by kernel_rfl) (by kernel_rfl)
theorem z23 : zeroOf Tryd.prog 23 = some (.slice none 0 0) := e23.zero
theorem c23 : Tryd.prog.cellsOf 23 = 1 := e23.cellsOf
theorem e25 : ElemZ Tryd.prog 25 (.slice none 0 0) := .of (by kernel_rfl) (by kernel_rfl)
theorem c25 : Tryd.prog.cellsOf 25 = 1 := e25.cellsOf
theorem e26 : ElemZ Tryd.prog 26 (.slice none 0 0) := .of (by kernel_rfl) (by kernel_rfl)
theorem c26 : Tryd.prog.cellsOf 26 = 1 := e26.cellsOf
theorem e28 : ElemZ Tryd.prog 28 (.agg #[.int .i64 0, .int .i64 0, .slice none 0 0]) := .of (by kernel_rfl) (by kernel_rfl)
theorem z28 : zeroOf Tryd.prog 28 = some (.agg #[.int .i64 0, .int .i64 0, .slice none 0 0]) := e28.zero
theorem c28 : Tryd.prog.cellsOf 28 = 3 := e28.cellsOf
theorem e43 : ElemZ Tryd.prog 43 (.agg #[.int .i64 0, .int .i64 0, .slice none 0 0, .slice none 0 0, .string ⟨#[]⟩]) := .of (by kernel_rfl) (by kernel_rfl)
theorem z43 : zeroOf Tryd.prog 43 = some (.agg #[.int .i64 0, .int .i64 0, .slice none 0 0, .slice none 0 0, .string ⟨#[]⟩]) := e43.zero
theorem c43 : Tryd.prog.cellsOf 43 = 5 := e43.cellsOf
theorem e45 : ElemZ Tryd.prog 45 (.slice none 0 0) := .of (by kernel_rfl) (by kernel_rfl)
theorem z45 : zeroOf Tryd.prog 45 = some (.slice none 0 0) := e45.zero
theorem c45 : Tryd.prog.cellsOf 45 = 1 := e45.cellsOf
theorem e48 : ElemZ Tryd.prog 48 (.slice none 0 0) := .of (by kernel_rfl) (by kernel_rfl)
theorem c48 : Tryd.prog.cellsOf 48 = 1 := e48.cellsOf
theorem e50 : ElemZ Tryd.prog 50 (.agg #[.string ⟨#[]⟩, .bool false, .int .i64 0, .int .i64 0, .int .i64 0, .slice none 0 0]) := .of (by kernel_rfl) (by kernel_rfl)
theorem z50 : zeroOf Tryd.prog 50 = some (.agg #[.string ⟨#[]⟩, .bool false, .int .i64 0, .int .i64 0, .int .i64 0, .slice none 0 0]) := e50.zero
theorem e51 : ElemZ Tryd.prog 51 (.agg #[.string ⟨#[]⟩, .slice none 0 0]) := .of (by kernel_rfl) (by kernel_rfl)
theorem z51 : zeroOf Tryd.prog 51 = some (.agg #[.string ⟨#[]⟩, .slice none 0 0]) := e51.zero
theorem e52 : ElemZ Tryd.prog 52 (.agg #[.string ⟨#[]⟩, .slice none 0 0]) := .of (by kernel_rfl) (by kernel_rfl)
theorem z52 : zeroOf Tryd.prog 52 = some (.agg #[.string ⟨#[]⟩, .slice none 0 0]) := e52.zero
theorem c52 : Tryd.prog.cellsOf 52 = 2 := e52.cellsOf
theorem e75 : ElemZ Tryd.prog 75 (.agg #[.int .i64 0, .int .i64 0, .int .i64 0, .int .i64 0]) := .of (by kernel_rfl) (by kernel_rfl)
theorem z75 : zeroOf Tryd.prog 75 = some (.agg #[.int .i64 0, .int .i64 0, .int .i64 0, .int .i64 0]) := e75.zero
theorem c75 : Tryd.prog.cellsOf 75 = 4 := e75.cellsOf
theorem e80 : ElemZ Tryd.prog 80 (.agg #[.string ⟨#[]⟩, .slice none 0 0, .string ⟨#[]⟩]) := .of (by kernel_rfl) (by kernel_rfl)
theorem z80 : zeroOf Tryd.prog 80 = some (.agg #[.string ⟨#[]⟩, .slice none 0 0, .string ⟨#[]⟩]) := e80.zero
theorem c80 : Tryd.prog.cellsOf 80 = 3 := e80.cellsOf
theorem e81 : ElemZ Tryd.prog 81 (.map none) := .of (by kernel_rfl) (by kernel_rfl)
theorem z81 : zeroOf Tryd.prog 81 = some (.map none) := e81.zero
theorem c81 : Tryd.prog.cellsOf 81 = 1 := e81.cellsOf
theorem e97 : ElemZ Tryd.prog 97 (.slice none 0 0) := .of (by kernel_rfl) (by kernel_rfl)
theorem z97 : zeroOf Tryd.prog 97 = some (.slice none 0 0) := e97.zero
theorem c97 : Tryd.prog.cellsOf 97 = 1 := e97.cellsOf
theorem e100 : ElemZ Tryd.prog 100 (.agg #[.string ⟨#[]⟩, .bool false]) := .of (by kernel_rfl) (by kernel_rfl)
theorem z100 : zeroOf Tryd.prog 100 = some (.agg #[.string ⟨#[]⟩, .bool false]) := e100.zero
theorem c100 : Tryd.prog.cellsOf 100 = 2 := e100.cellsOf
theorem f7 : fieldsOkT Tryd.prog 7 := by
  intro d hd; rw [Tryd.underlying7] at hd; cases hd
  intro f hf; simp only [List.mem_cons, List.not_mem_nil, or_false] at hf
  rcases hf with rfl | rfl | rfl | rfl
  · obtain ⟨i, h, _⟩ := e2.ex; exact ⟨i, h⟩
  · obtain ⟨i, h, _⟩ := e3.ex; exact ⟨i, h⟩
  · obtain ⟨i, h, _⟩ := e4.ex; exact ⟨i, h⟩
  · obtain ⟨i, h, _⟩ := e6.ex; exact ⟨i, h⟩
theorem f13 : fieldsOkT Tryd.prog 13 := by
  intro d hd; rw [Tryd.underlying13] at hd; cases hd
  intro f hf; simp only [List.mem_cons, List.not_mem_nil, or_false] at hf
  rcases hf with rfl | rfl
  · obtain ⟨i, h, _⟩ := e9.ex; exact ⟨i, h⟩
  · obtain ⟨i, h, _⟩ := e12.ex; exact ⟨i, h⟩
theorem f14 : fieldsOkT Tryd.prog 14 := by
  intro d hd; rw [Tryd.underlying14] at hd; cases hd
  intro f hf; simp only [List.mem_cons, List.not_mem_nil, or_false] at hf
  rcases hf with rfl | rfl
  · obtain ⟨i, h, _⟩ := e9.ex; exact ⟨i, h⟩
  · obtain ⟨i, h, _⟩ := e12.ex; exact ⟨i, h⟩
theorem f27 : fieldsOkT Tryd.prog 27 := by
  intro d hd; rw [Tryd.underlying27] at hd; cases hd
  intro f hf; simp only [List.mem_cons, List.not_mem_nil, or_false] at hf
  rcases hf with rfl | rfl | rfl
  · obtain ⟨i, h, _⟩ := e3.ex; exact ⟨i, h⟩
  · obtain ⟨i, h, _⟩ := e3.ex; exact ⟨i, h⟩
  · obtain ⟨i, h, _⟩ := e26.ex; exact ⟨i, h⟩
theorem f28 : fieldsOkT Tryd.prog 28 := by
  intro d hd; rw [Tryd.underlying28] at hd; cases hd
  intro f hf; simp only [List.mem_cons, List.not_mem_nil, or_false] at hf
  rcases hf with rfl | rfl | rfl
  · obtain ⟨i, h, _⟩ := e3.ex; exact ⟨i, h⟩
  · obtain ⟨i, h, _⟩ := e3.ex; exact ⟨i, h⟩
  · obtain ⟨i, h, _⟩ := e26.ex; exact ⟨i, h⟩
theorem f42 : fieldsOkT Tryd.prog 42 := by
  intro d hd; rw [Tryd.underlying42] at hd; cases hd
  intro f hf; simp only [List.mem_cons, List.not_mem_nil, or_false] at hf
  rcases hf with rfl | rfl | rfl
  · obtain ⟨i, h, _⟩ := e28.ex; exact ⟨i, h⟩
  · obtain ⟨i, h, _⟩ := e25.ex; exact ⟨i, h⟩
  · obtain ⟨i, h, _⟩ := e9.ex; exact ⟨i, h⟩
theorem f43 : fieldsOkT Tryd.prog 43 := by
  intro d hd; rw [Tryd.underlying43] at hd; cases hd
  intro f hf; simp only [List.mem_cons, List.not_mem_nil, or_false] at hf
  rcases hf with rfl | rfl | rfl
  · obtain ⟨i, h, _⟩ := e28.ex; exact ⟨i, h⟩
  · obtain ⟨i, h, _⟩ := e25.ex; exact ⟨i, h⟩
  · obtain ⟨i, h, _⟩ := e9.ex; exact ⟨i, h⟩
theorem f49 : fieldsOkT Tryd.prog 49 := by
  intro d hd; rw [Tryd.underlying49] at hd; cases hd
  intro f hf; simp only [List.mem_cons, List.not_mem_nil, or_false] at hf
  rcases hf with rfl | rfl | rfl | rfl | rfl | rfl
  · obtain ⟨i, h, _⟩ := e9.ex; exact ⟨i, h⟩
  · obtain ⟨i, h, _⟩ := e4.ex; exact ⟨i, h⟩
  · obtain ⟨i, h, _⟩ := e3.ex; exact ⟨i, h⟩
  · obtain ⟨i, h, _⟩ := e3.ex; exact ⟨i, h⟩
  · obtain ⟨i, h, _⟩ := e3.ex; exact ⟨i, h⟩
  · obtain ⟨i, h, _⟩ := e48.ex; exact ⟨i, h⟩
theorem f50 : fieldsOkT Tryd.prog 50 := by
  intro d hd; rw [Tryd.underlying50] at hd; cases hd
  intro f hf; simp only [List.mem_cons, List.not_mem_nil, or_false] at hf
  rcases hf with rfl | rfl | rfl | rfl | rfl | rfl
  · obtain ⟨i, h, _⟩ := e9.ex; exact ⟨i, h⟩
  · obtain ⟨i, h, _⟩ := e4.ex; exact ⟨i, h⟩
  · obtain ⟨i, h, _⟩ := e3.ex; exact ⟨i, h⟩
  · obtain ⟨i, h, _⟩ := e3.ex; exact ⟨i, h⟩
  · obtain ⟨i, h, _⟩ := e3.ex; exact ⟨i, h⟩
  · obtain ⟨i, h, _⟩ := e48.ex; exact ⟨i, h⟩
theorem f52 : fieldsOkT Tryd.prog 52 := by
  intro d hd; rw [Tryd.underlying52] at hd; cases hd
  intro f hf; simp only [List.mem_cons, List.not_mem_nil, or_false] at hf
  rcases hf with rfl | rfl
  · obtain ⟨i, h, _⟩ := e9.ex; exact ⟨i, h⟩
  · obtain ⟨i, h, _⟩ := e23.ex; exact ⟨i, h⟩
theorem f74 : fieldsOkT Tryd.prog 74 := by
  intro d hd; rw [Tryd.underlying74] at hd; cases hd
  intro f hf; simp only [List.mem_cons, List.not_mem_nil, or_false] at hf
  rcases hf with rfl | rfl | rfl | rfl
  · obtain ⟨i, h, _⟩ := e3.ex; exact ⟨i, h⟩
  · obtain ⟨i, h, _⟩ := e3.ex; exact ⟨i, h⟩
  · obtain ⟨i, h, _⟩ := e3.ex; exact ⟨i, h⟩
  · obtain ⟨i, h, _⟩ := e3.ex; exact ⟨i, h⟩
theorem f75 : fieldsOkT Tryd.prog 75 := by
  intro d hd; rw [Tryd.underlying75] at hd; cases hd
  intro f hf; simp only [List.mem_cons, List.not_mem_nil, or_false] at hf
  rcases hf with rfl | rfl | rfl | rfl
  · obtain ⟨i, h, _⟩ := e3.ex; exact ⟨i, h⟩
  · obtain ⟨i, h, _⟩ := e3.ex; exact ⟨i, h⟩
  · obtain ⟨i, h, _⟩ := e3.ex; exact ⟨i, h⟩
  · obtain ⟨i, h, _⟩ := e3.ex; exact ⟨i, h⟩
theorem f100 : fieldsOkT Tryd.prog 100 := by
  intro d hd; rw [Tryd.underlying100] at hd; cases hd
  intro f hf; simp only [List.mem_cons, List.not_mem_nil, or_false] at hf
  rcases hf with rfl | rfl
  · obtain ⟨i, h, _⟩ := e9.ex; exact ⟨i, h⟩
  · obtain ⟨i, h, _⟩ := e4.ex; exact ⟨i, h⟩
theorem k1 {K : Prop} : Chk (ElemZ Tryd.prog 1 (.nilFunc)) K = K := Chk_of e1
theorem k2 {K : Prop} : Chk (ElemZ Tryd.prog 2 (.int .i64 0)) K = K := Chk_of e2
theorem k3 {K : Prop} : Chk (ElemZ Tryd.prog 3 (.int .i64 0)) K = K := Chk_of e3
theorem ke3 : (ElemZ Tryd.prog 3 (.int .i64 0)) = True := eq_true e3
theorem k4 {K : Prop} : Chk (ElemZ Tryd.prog 4 (.bool false)) K = K := Chk_of e4
theorem ke4 : (ElemZ Tryd.prog 4 (.bool false)) = True := eq_true e4
theorem ke9 : (ElemZ Tryd.prog 9 (.string ⟨#[]⟩)) = True := eq_true e9
theorem ke23 : (ElemZ Tryd.prog 23 (.slice none 0 0)) = True := eq_true e23
theorem ke43 : (ElemZ Tryd.prog 43 (.agg #[.int .i64 0, .int .i64 0, .slice none 0 0, .slice none 0 0, .string ⟨#[]⟩])) = True := eq_true e43
theorem ke52 : (ElemZ Tryd.prog 52 (.agg #[.string ⟨#[]⟩, .slice none 0 0])) = True := eq_true e52
theorem ke100 : (ElemZ Tryd.prog 100 (.agg #[.string ⟨#[]⟩, .bool false])) = True := eq_true e100
theorem kt28 : (fieldsOkT Tryd.prog 28) = True := eq_true f28
theorem kt43 : (fieldsOkT Tryd.prog 43) = True := eq_true f43
theorem kt50 : (fieldsOkT Tryd.prog 50) = True := eq_true f50
theorem kt52 : (fieldsOkT Tryd.prog 52) = True := eq_true f52
theorem kt75 : (fieldsOkT Tryd.prog 75) = True := eq_true f75
theorem kt100 : (fieldsOkT Tryd.prog 100) = True := eq_true f100
theorem ky9 : Maps.Keyed Tryd.prog 9 = True := eq_true (Maps.string_keyed Tryd.underlying9)
theorem kt_9 (s : List UInt8) : KeyT Tryd.prog 9 (.str s) = True := eq_true (.str Tryd.underlying9 s)
theorem km_9 (l : List (List UInt8)) : KeysT Tryd.prog 9 (l.map .str) = True := eq_true (KeysT_map (fun n => .str Tryd.underlying9 n) l)
attribute [go_sem] Tryd.underlying0 Tryd.underlying1 Tryd.underlying2 Tryd.underlying3 Tryd.underlying4 Tryd.underlying5 Tryd.underlying6 Tryd.underlying7
attribute [go_sem] Tryd.underlying8 Tryd.underlying9 Tryd.underlying10 Tryd.underlying11 Tryd.underlying12 Tryd.underlying13 Tryd.underlying14 Tryd.underlying15 Tryd.underlying16 Tryd.underlying17 Tryd.underlying18 Tryd.underlying19
attribute [go_sem] Tryd.underlying20 Tryd.underlying21 Tryd.underlying22 Tryd.underlying23 Tryd.underlying24 Tryd.underlying25 Tryd.underlying26 Tryd.underlying27 Tryd.underlying28 Tryd.underlying29 Tryd.underlying30 Tryd.underlying31
attribute [go_sem] Tryd.underlying32 Tryd.underlying33 Tryd.underlying34 Tryd.underlying35 Tryd.underlying36 Tryd.underlying37 Tryd.underlying38 Tryd.underlying39 Tryd.underlying40 Tryd.underlying41 Tryd.underlying42 Tryd.underlying43
attribute [go_sem] Tryd.underlying44 Tryd.underlying45 Tryd.underlying46 Tryd.underlying47 Tryd.underlying48 Tryd.underlying49 Tryd.underlying50 Tryd.underlying51 Tryd.underlying52 Tryd.underlying53 Tryd.underlying54 Tryd.underlying55
attribute [go_sem] Tryd.underlying56 Tryd.underlying57 Tryd.underlying58 Tryd.underlying59 Tryd.underlying60 Tryd.underlying61 Tryd.underlying62 Tryd.underlying63 Tryd.underlying64 Tryd.underlying65 Tryd.underlying66 Tryd.underlying67
attribute [go_sem] Tryd.underlying68 Tryd.underlying69 Tryd.underlying70 Tryd.underlying71 Tryd.underlying72 Tryd.underlying73 Tryd.underlying74 Tryd.underlying75 Tryd.underlying76 Tryd.underlying77 Tryd.underlying78 Tryd.underlying79
attribute [go_sem] Tryd.underlying80 Tryd.underlying81 Tryd.underlying82 Tryd.underlying83 Tryd.underlying84 Tryd.underlying85 Tryd.underlying86 Tryd.underlying87 Tryd.underlying88 Tryd.underlying89 Tryd.underlying90 Tryd.underlying91
attribute [go_sem] Tryd.underlying92 Tryd.underlying93 Tryd.underlying94 Tryd.underlying95 Tryd.underlying96 Tryd.underlying97 Tryd.underlying98 Tryd.underlying99 Tryd.underlying100 Tryd.underlying101 Tryd.underlying102 Tryd.underlying103
attribute [go_sem] Tryd.underlying104 Tryd.underlying105 Tryd.underlying106 Tryd.underlying107 Tryd.underlying108 Tryd.underlying109 Tryd.underlying110 Tryd.underlying111 Tryd.underlying112 Tryd.underlying113 Tryd.underlying114 Tryd.underlying115
attribute [go_sem] Tryd.underlying116 Tryd.underlying117 Tryd.underlying118 Tryd.underlying119 Tryd.underlying120 Tryd.underlying121 Tryd.underlying122 Tryd.underlying123 Tryd.underlying124 Tryd.underlying125 Tryd.underlying126 Tryd.underlying127
attribute [go_sem] Tryd.underlying128 Tryd.underlying129 Tryd.underlying130 Tryd.underlying131 Tryd.underlying132 Tryd.underlying133 Tryd.underlying134 Tryd.underlying135 Tryd.underlying136 Tryd.underlying137 Tryd.underlying138 Tryd.underlying139
attribute [go_sem] Tryd.underlying140 k1 z1 c1 k2 z2 c2 k3 ke3 z3
attribute [go_sem] c3 k4 ke4 z4 c4 z5 c5
attribute [go_sem] ke9 z9
attribute [go_sem] c9
attribute [go_sem] ke23 z23 c23
attribute [go_sem] c25 c26
attribute [go_sem] z28 c28
attribute [go_sem] ke43 z43 c43
attribute [go_sem] z45 c45
attribute [go_sem] c48 z50 z51
attribute [go_sem] ke52 z52 c52
attribute [go_sem] z75 c75
attribute [go_sem] z80 c80 z81 c81
attribute [go_sem] z97 c97
attribute [go_sem] ke100 z100 c100
attribute [go_sem] kt28 kt43 kt50
attribute [go_sem] kt52 kt75
attribute [go_sem] kt100
attribute [go_sem] ky9 kt_9 km_9
end Go.Fv.T

namespace Go.Fv.T
open Go Go.Proofs
set_option linter.unusedSimpArgs false
set_option linter.unusedVariables false
set_option maxRecDepth 8000
end Go.Fv.T

namespace Go.Fv.T
open Go Go.Proofs
set_option linter.unusedSimpArgs false
set_option linter.unusedVariables false
set_option maxRecDepth 8000
def sizeErr (w h : Int) : Int := if w < 1 ∨ 4000 < w ∨ h < 1 ∨ 4000 < h then 3 else if 1048576 < w * h then 4 else 0
set_option maxHeartbeats 1000000 in
theorem checkSize_ok (w h : Int) : FnOk Tryd.prog 52 [.int .i64 w, .int .i64 h] (.int .i64 (sizeErr w h)) [] := by
  refine FnOk.of_vc Tryd.func52 rfl (by decide) (by simp [Tryd.f52]) [.tmp 4] rfl fun w0 T0 _ => ?_
  simp only [Tryd.f52, argEnv]
  simp (maxSteps := 1000000) only [go_sem, reduceCtorEq, Nat.reduceLT, Nat.reduceLeDiff, reduceIte, ↓reduceIte, Nat.reduceEqDiff, Nat.reduceAdd, Nat.reduceMul, Nat.reduceSub, Int.reduceLE, Int.reduceLT, Int.reduceNeg, Int.reduceToNat]
  (repeat' first | (with_reducible refine Asm.intro fun _ => ?_) | ((with_reducible refine Chk.intro ?_ ?_); (· first | omega | (with_reducible refine Chk.intro ?_ ?_ <;> omega) | (simp; done) | (simp; omega))) | ((with_reducible refine LetW.i64 ?_ ?_ ?_); (· omega); (· omega)) | ((with_reducible refine Ite.decide (fun _ => ?_) (fun _ => ?_)) <;> first | (exfalso; omega) | simp (maxSteps := 1000000) only [go_sem, reduceCtorEq, Nat.reduceLT, Nat.reduceLeDiff, reduceIte, ↓reduceIte, Nat.reduceEqDiff, Nat.reduceAdd, Nat.reduceMul, Nat.reduceSub, Int.reduceLE, Int.reduceLT, Int.reduceNeg, Int.reduceToNat]) | ((with_reducible refine Ite.bool (fun _ => ?_) (fun _ => ?_)) <;> simp (maxSteps := 1000000) only [go_sem, reduceCtorEq, Nat.reduceLT, Nat.reduceLeDiff, reduceIte, ↓reduceIte, Nat.reduceEqDiff, Nat.reduceAdd, Nat.reduceMul, Nat.reduceSub, Int.reduceLE, Int.reduceLT, Int.reduceNeg, Int.reduceToNat]) | (with_reducible refine And.intro ?_ ?_))
  · rename_i h1
    refine Ret.auto 0 ?_ rfl ?_ <;> simp only [go_sem, reduceCtorEq, reduceIte, Nat.reduceEqDiff, Nat.reduceLT, Nat.reduceLeDiff, Int.natCast_succ, Post, sizeErr]
    rw [if_pos (by omega)]
  · rename_i h1
    have hm1 : 0 ≤ w * h := Int.mul_nonneg (by omega) (by omega)
    have hm2 : w * h ≤ 4000 * 4000 := Int.mul_le_mul (by omega) (by omega) (by omega) (by omega)
    refine LetW.i64 (by omega) (by omega) ?_
    (repeat' first | (with_reducible refine Asm.intro fun _ => ?_) | ((with_reducible refine Chk.intro ?_ ?_); (· first | omega | (with_reducible refine Chk.intro ?_ ?_ <;> omega) | (simp; done) | (simp; omega))) | ((with_reducible refine LetW.i64 ?_ ?_ ?_); (· omega); (· omega)) | ((with_reducible refine Ite.decide (fun _ => ?_) (fun _ => ?_)) <;> first | (exfalso; omega) | simp (maxSteps := 1000000) only [go_sem, reduceCtorEq, Nat.reduceLT, Nat.reduceLeDiff, reduceIte, ↓reduceIte, Nat.reduceEqDiff, Nat.reduceAdd, Nat.reduceMul, Nat.reduceSub, Int.reduceLE, Int.reduceLT, Int.reduceNeg, Int.reduceToNat]) | ((with_reducible refine Ite.bool (fun _ => ?_) (fun _ => ?_)) <;> simp (maxSteps := 1000000) only [go_sem, reduceCtorEq, Nat.reduceLT, Nat.reduceLeDiff, reduceIte, ↓reduceIte, Nat.reduceEqDiff, Nat.reduceAdd, Nat.reduceMul, Nat.reduceSub, Int.reduceLE, Int.reduceLT, Int.reduceNeg, Int.reduceToNat]) | (with_reducible refine And.intro ?_ ?_))
    · refine Ret.auto 0 ?_ rfl ?_ <;> simp only [go_sem, reduceCtorEq, reduceIte, Nat.reduceEqDiff, Nat.reduceLT, Nat.reduceLeDiff, Int.natCast_succ, Post, sizeErr]
      rw [if_neg (by omega), if_pos (by omega)]
    · refine Ret.auto 0 ?_ rfl ?_ <;> simp only [go_sem, reduceCtorEq, reduceIte, Nat.reduceEqDiff, Nat.reduceLT, Nat.reduceLeDiff, Int.natCast_succ, Post, sizeErr]
      rw [if_neg (by omega), if_neg (by omega)]
def grayErr (w h : Int) (n : Nat) : Int := if sizeErr w h = 0 then (if (n : Int) = w * h then 0 else 2) else sizeErr w h
theorem sizeErr_zero {w h : Int} (e : sizeErr w h = 0) : 1 ≤ w ∧ w ≤ 4000 ∧ 1 ≤ h ∧ h ≤ 4000 ∧ w * h ≤ 1048576 ∧ 1 ≤ w * h := by
  unfold sizeErr at e
  split at e
  · omega
  · split at e
    · omega
    · rename_i h1 h2
      have : 1 * 1 ≤ w * h := Int.mul_le_mul (by omega) (by omega) (by omega) (by omega)
      omega
theorem sizeErr_of {w h : Int} (h1 : 1 ≤ w) (h2 : w ≤ 4000) (h3 : 1 ≤ h) (h4 : h ≤ 4000) (hm2 : w * h ≤ 1048576) : sizeErr w h = 0 := by
  unfold sizeErr
  rw [if_neg (by omega), if_neg (by omega)]
set_option maxHeartbeats 1000000 in
theorem checkBits_ok (w h : Int) (p : List Bool) : FnOk Tryd.prog 33 [.agg [.int .i64 w, .int .i64 h, .ro (.bools p)]] (.int .i64 (grayErr w h p.length)) [] := by
  refine FnOk.of_vc Tryd.func33 rfl (by decide) (by simp [Tryd.f33]) [.tmp 2] rfl fun w0 T0 _ => ?_
  simp only [Tryd.f33, argEnv]
  simp (maxSteps := 1000000) only [go_sem, reduceCtorEq, Nat.reduceLT, Nat.reduceLeDiff, reduceIte, ↓reduceIte, Nat.reduceEqDiff, Nat.reduceAdd, Nat.reduceMul, Nat.reduceSub, Int.reduceLE, Int.reduceLT, Int.reduceNeg, Int.reduceToNat]
  (repeat' first | (with_reducible refine Asm.intro fun _ => ?_) | ((with_reducible refine Chk.intro ?_ ?_); (· first | omega | (with_reducible refine Chk.intro ?_ ?_ <;> omega) | (simp; done) | (simp; omega))) | ((with_reducible refine LetW.i64 ?_ ?_ ?_); (· omega); (· omega)) | ((with_reducible refine Ite.decide (fun _ => ?_) (fun _ => ?_)) <;> first | (exfalso; omega) | simp (maxSteps := 1000000) only [go_sem, reduceCtorEq, Nat.reduceLT, Nat.reduceLeDiff, reduceIte, ↓reduceIte, Nat.reduceEqDiff, Nat.reduceAdd, Nat.reduceMul, Nat.reduceSub, Int.reduceLE, Int.reduceLT, Int.reduceNeg, Int.reduceToNat]) | ((with_reducible refine Ite.bool (fun _ => ?_) (fun _ => ?_)) <;> simp (maxSteps := 1000000) only [go_sem, reduceCtorEq, Nat.reduceLT, Nat.reduceLeDiff, reduceIte, ↓reduceIte, Nat.reduceEqDiff, Nat.reduceAdd, Nat.reduceMul, Nat.reduceSub, Int.reduceLE, Int.reduceLT, Int.reduceNeg, Int.reduceToNat]) | (with_reducible refine And.intro ?_ ?_))
  refine VcCall.fr (args' := [.int .i64 w, .int .i64 h]) (FnFr.of_ok (checkSize_ok w h) rfl rfl) (by simp [argOkL, allOk, argOkN]) 0 rfl (by simp [rowsB]) ?_
  simp (maxSteps := 1000000) only [go_sem, reduceCtorEq, Nat.reduceLT, Nat.reduceLeDiff, reduceIte, ↓reduceIte, Nat.reduceEqDiff, Nat.reduceAdd, Nat.reduceMul, Nat.reduceSub, Int.reduceLE, Int.reduceLT, Int.reduceNeg, Int.reduceToNat]
  (repeat' first | (with_reducible refine Asm.intro fun _ => ?_) | ((with_reducible refine Chk.intro ?_ ?_); (· first | omega | (with_reducible refine Chk.intro ?_ ?_ <;> omega) | (simp; done) | (simp; omega))) | ((with_reducible refine LetW.i64 ?_ ?_ ?_); (· omega); (· omega)) | ((with_reducible refine Ite.decide (fun _ => ?_) (fun _ => ?_)) <;> first | (exfalso; omega) | simp (maxSteps := 1000000) only [go_sem, reduceCtorEq, Nat.reduceLT, Nat.reduceLeDiff, reduceIte, ↓reduceIte, Nat.reduceEqDiff, Nat.reduceAdd, Nat.reduceMul, Nat.reduceSub, Int.reduceLE, Int.reduceLT, Int.reduceNeg, Int.reduceToNat]) | ((with_reducible refine Ite.bool (fun _ => ?_) (fun _ => ?_)) <;> simp (maxSteps := 1000000) only [go_sem, reduceCtorEq, Nat.reduceLT, Nat.reduceLeDiff, reduceIte, ↓reduceIte, Nat.reduceEqDiff, Nat.reduceAdd, Nat.reduceMul, Nat.reduceSub, Int.reduceLE, Int.reduceLT, Int.reduceNeg, Int.reduceToNat]) | (with_reducible refine And.intro ?_ ?_))

  · rename_i h1
    refine Ret.auto 0 ?_ rfl ?_ <;> simp only [go_sem, reduceCtorEq, reduceIte, Nat.reduceEqDiff, Nat.reduceLT, Nat.reduceLeDiff, Int.natCast_succ, Post, grayErr, h1, reduceIte]
  · have h1 : sizeErr w h = 0 := by omega
    have hs := sizeErr_zero h1
    refine LetW.i64 (by omega) (by omega) ?_
    (repeat' first | (with_reducible refine Asm.intro fun _ => ?_) | ((with_reducible refine Chk.intro ?_ ?_); (· first | omega | (with_reducible refine Chk.intro ?_ ?_ <;> omega) | (simp; done) | (simp; omega))) | ((with_reducible refine LetW.i64 ?_ ?_ ?_); (· omega); (· omega)) | ((with_reducible refine Ite.decide (fun _ => ?_) (fun _ => ?_)) <;> first | (exfalso; omega) | simp (maxSteps := 1000000) only [go_sem, reduceCtorEq, Nat.reduceLT, Nat.reduceLeDiff, reduceIte, ↓reduceIte, Nat.reduceEqDiff, Nat.reduceAdd, Nat.reduceMul, Nat.reduceSub, Int.reduceLE, Int.reduceLT, Int.reduceNeg, Int.reduceToNat]) | ((with_reducible refine Ite.bool (fun _ => ?_) (fun _ => ?_)) <;> simp (maxSteps := 1000000) only [go_sem, reduceCtorEq, Nat.reduceLT, Nat.reduceLeDiff, reduceIte, ↓reduceIte, Nat.reduceEqDiff, Nat.reduceAdd, Nat.reduceMul, Nat.reduceSub, Int.reduceLE, Int.reduceLT, Int.reduceNeg, Int.reduceToNat]) | (with_reducible refine And.intro ?_ ?_))
    · rename_i h2
      refine Ret.auto 0 ?_ rfl ?_ <;> simp only [go_sem, reduceCtorEq, reduceIte, Nat.reduceEqDiff, Nat.reduceLT, Nat.reduceLeDiff, Int.natCast_succ, Post, grayErr, h1, h2, reduceIte]
    · rename_i h2
      refine Ret.auto 0 ?_ rfl ?_ <;> simp only [go_sem, reduceCtorEq, reduceIte, Nat.reduceEqDiff, Nat.reduceLT, Nat.reduceLeDiff, Int.natCast_succ, Post, grayErr, h1, reduceIte]
      rw [if_pos (by omega)]
end Go.Fv.T

namespace Go.Fv.T
open Go Go.Proofs
set_option linter.unusedSimpArgs false
set_option linter.unusedVariables false
set_option maxRecDepth 8000
end Go.Fv.T

namespace Go.Fv.T
open Go Go.Proofs
set_option linter.unusedSimpArgs false
set_option linter.unusedVariables false
set_option maxRecDepth 8000

def firstErr : List Int → Int
  | [] => 0
  | e :: l => if e = 0 then firstErr l else e
end Go.Fv.T

namespace Go.Fv.T
open Go Go.Proofs
set_option linter.unusedSimpArgs false
set_option linter.unusedVariables false
set_option maxRecDepth 8000
/-- The first n values of a page told by places. -/
def rowsOf {α : Type} (w : Nat) (p : Nat → Nat → α) (n : Nat) : List α := (List.range n).map fun k => p (k % w) (k / w)
theorem rowsOf_len {α : Type} (w : Nat) (p : Nat → Nat → α) (n : Nat) : (rowsOf w p n).length = n := by simp [rowsOf]
theorem rowsOf_succ {α : Type} {w : Nat} (p : Nat → Nat → α) {x y : Nat} (hx : x < w) : rowsOf w p (y * w + (x + 1)) = rowsOf w p (y * w + x) ++ [p x y] := by
  unfold rowsOf
  rw [← Nat.add_assoc, List.range_succ, List.map_append]
  have e1 : (y * w + x) % w = x := by rw [Nat.mul_comm, Nat.mul_add_mod, Nat.mod_eq_of_lt hx]
  have e2 : (y * w + x) / w = y := by rw [Nat.mul_comm, Nat.mul_add_div (by omega), Nat.div_eq_of_lt hx, Nat.add_zero]
  simp [e1, e2]

end Go.Fv.T

namespace Go.Fv.T
open Go Go.Proofs
set_option linter.unusedSimpArgs false
set_option linter.unusedVariables false
set_option maxRecDepth 8000
theorem and_bd (a : Int) (m : Nat) (hm : m < 2 ^ 63) : 0 ≤ bitsI .and .i64 a m ∧ bitsI .and .i64 a m ≤ m := by
  unfold bitsI
  dsimp only
  have h1 : (BitVec.ofInt 64 a &&& BitVec.ofInt 64 (m : Int)).toNat ≤ m := by
    rw [BitVec.toNat_and]
    refine Nat.le_trans Nat.and_le_right ?_
    rw [BitVec.ofInt_natCast, BitVec.toNat_ofNat]
    exact Nat.mod_le _ _
  rw [show IntKind.i64.bits = 64 from rfl]
  rw [wrap_of_in (InK_i64.2 ⟨by omega, by omega⟩)]
  omega
/-- The size that a page is fitted to. -/
def fitN (a : Int) (m : Nat) : Nat := (1 + bitsI .and .i64 a m).toNat
theorem fitN_bd (a : Int) (m : Nat) (hm : m < 2 ^ 63) : 1 ≤ fitN a m ∧ fitN a m ≤ m + 1 ∧ 1 + bitsI .and .i64 a m = ((fitN a m : Nat) : Int) := by
  have := and_bd a m hm
  unfold fitN; omega
def fitB (p : List Bool) (w x y : Nat) : Bool := decide (0 < p.length) && p.getD ((y * w + x) % p.length) false
end Go.Fv.T

namespace Go.Fv.T
open Go Go.Proofs
set_option linter.unusedSimpArgs false
set_option linter.unusedVariables false
set_option maxRecDepth 8000

/-- A sheet, as data. -/
structure Sh where
  W : Int
  H : Int
  p : List Bool
  codes : List (List UInt8)
  text : List UInt8
def Sh.av (s : Sh) : List AV := [.int .i64 s.W, .int .i64 s.H, .ro (.bools s.p), .ro (.strs s.codes), .str s.text]
def Sh.zero : Sh := ⟨0, 0, [], [], []⟩
abbrev shs (l : List Sh) : RowV := .objs 5 (l.map Sh.av)
instance : FNoId Sh.av := ⟨fun _ => rfl⟩
theorem sh_elem (l : List Sh) {i : Nat} (h : i < l.length) : (l.map Sh.av).getD i [] = [.int .i64 (l.getD i Sh.zero).W, .int .i64 (l.getD i Sh.zero).H, .ro (.bools (l.getD i Sh.zero).p), .ro (.strs (l.getD i Sh.zero).codes), .str (l.getD i Sh.zero).text] := by
  simp [List.getD_eq_getElem?_getD, h, Sh.av]

def codeOk (c : List UInt8) : Bool := decide (c.length ≤ 80) && c.all fun b => decide (32 ≤ b.toNat ∧ b.toNat ≤ 126)
def shErr (s : Sh) : Int := firstErr [grayErr s.W s.H s.p.length, if 20 < s.codes.length then 4 else 0, if s.codes.all codeOk = true then 0 else 2, if 1048576 < s.text.length then 4 else 0]
def shsErr (l : List Sh) : Int := if 1000 < l.length then 4 else firstErr (l.map shErr)
def fitSh (s : Sh) : Sh := { s with W := fitN s.W 31, H := fitN s.H 31, p := rowsOf (fitN s.W 31) (fitB s.p (fitN s.W 31)) (fitN s.H 31 * fitN s.W 31) }
/-- The right ones of the first sheets, their pages fitted. -/
def keep (l : List Sh) : List Sh := ((l.take 20).map fitSh).filter fun s => decide (shErr s = 0)
end Go.Fv.T

/- Tokens of a text: what Split and its reference compute, in plain words. -/
namespace Go.Fv.T
open Go
set_option linter.unusedSimpArgs false
set_option linter.unusedVariables false
set_option linter.unnecessarySimpa false

abbrev Bytes := List UInt8
/-- A letter. -/
def isL (c : UInt8) : Bool := decide (97 ≤ c.toNat) && decide (c.toNat ≤ 122) || decide (65 ≤ c.toNat) && decide (c.toNat ≤ 90) || decide (128 ≤ c.toNat)
/-- What can be in a word. -/
def inW (c : UInt8) : Bool := isL c || decide (c = 39)
def qu (c : UInt8) : Bool := decide (c = 39)
/-- The quotes before and behind are left out. -/
def preQ (t : Bytes) : Bytes := t.takeWhile qu
def dropQ (t : Bytes) : Bytes := t.dropWhile qu
def dropR (t : Bytes) : Bytes := (t.reverse.dropWhile qu).reverse
def postQ (t : Bytes) : Bytes := (t.reverse.takeWhile qu).reverse
def midQ (t : Bytes) : Bytes := dropR (dropQ t)
def isWd (s : Bytes) : Bool := decide (s ≠ []) && decide (s.length ≤ 40) && isL (s.headD 0) && isL (s.getLastD 0) && s.all inW

abbrev Tok := Bytes × Bool
/-- What is between goes out, if it is something. -/
def flush (out : List Tok) (btw : Bytes) : List Tok := if btw = [] then out else out ++ [(btw, false)]

theorem takeWhile_len_le {α : Type} (p : α → Bool) (l : List α) : (l.takeWhile p).length + (l.dropWhile p).length = l.length := by
  conv => rhs; rw [← List.takeWhile_append_dropWhile (p := p) (l := l)]
  rw [List.length_append]
theorem drop_lt {c : UInt8} {s : Bytes} (h : inW c = true) : ((c :: s).dropWhile inW).length < (c :: s).length := by
  have := takeWhile_len_le inW (c :: s)
  have h2 : 0 < ((c :: s).takeWhile inW).length := by simp [List.takeWhile_cons, h]
  omega
/-- The tokens of what is left, behind those that are there. -/
def toks (s btw : Bytes) (out : List Tok) : List Tok :=
  match s with
  | [] => flush out btw
  | c :: s' => if h : inW c = true then
      if isWd (midQ ((c :: s').takeWhile inW)) = true then
        toks ((c :: s').dropWhile inW) (postQ (dropQ ((c :: s').takeWhile inW))) (flush out (btw ++ preQ ((c :: s').takeWhile inW)) ++ [(midQ ((c :: s').takeWhile inW), true)])
      else toks ((c :: s').dropWhile inW) (btw ++ (c :: s').takeWhile inW) out
    else toks s' (btw ++ [c]) out
termination_by s.length
decreasing_by
  · exact drop_lt h
  · exact drop_lt h
  · simp

theorem toks_nil (btw : Bytes) (out : List Tok) : toks [] btw out = flush out btw := by unfold toks; rfl
theorem toks_other {c : UInt8} {s : Bytes} (h : inW c = false) (btw : Bytes) (out : List Tok) : toks (c :: s) btw out = toks s (btw ++ [c]) out := by
  rw [toks]; simp [h]
theorem toks_word {c : UInt8} {s : Bytes} (h : inW c = true) (btw : Bytes) (out : List Tok) (hw : isWd (midQ ((c :: s).takeWhile inW)) = true) :
    toks (c :: s) btw out = toks ((c :: s).dropWhile inW) (postQ (dropQ ((c :: s).takeWhile inW))) (flush out (btw ++ preQ ((c :: s).takeWhile inW)) ++ [(midQ ((c :: s).takeWhile inW), true)]) := by
  rw [toks, dif_pos h, if_pos hw]
theorem toks_row {c : UInt8} {s : Bytes} (h : inW c = true) (btw : Bytes) (out : List Tok) (hw : ¬ isWd (midQ ((c :: s).takeWhile inW)) = true) :
    toks (c :: s) btw out = toks ((c :: s).dropWhile inW) (btw ++ (c :: s).takeWhile inW) out := by
  rw [toks, dif_pos h, if_neg hw]

/-- All bytes of the tokens. -/
def textOf (l : List Tok) : Bytes := (l.map (·.1)).flatten
theorem textOf_app (a b : List Tok) : textOf (a ++ b) = textOf a ++ textOf b := by simp [textOf]
theorem textOf_flush (out : List Tok) (btw : Bytes) : textOf (flush out btw) = textOf out ++ btw := by
  unfold flush; split
  · rename_i h; simp [h]
  · simp [textOf]
theorem pre_drop (t : Bytes) : preQ t ++ dropQ t = t := List.takeWhile_append_dropWhile
theorem mid_post (t : Bytes) : dropR t ++ postQ t = t := by
  have h := List.takeWhile_append_dropWhile (p := qu) (l := t.reverse)
  have := congrArg List.reverse h
  rw [List.reverse_append, List.reverse_reverse] at this
  exact this
theorem three (t : Bytes) : preQ t ++ (midQ t ++ postQ (dropQ t)) = t := by
  unfold midQ; rw [mid_post, pre_drop]
theorem toks_text : ∀ (n : Nat) (s btw : Bytes) (out : List Tok), s.length ≤ n → textOf (toks s btw out) = textOf out ++ btw ++ s
  | 0, s, btw, out, h => by
    have : s = [] := List.eq_nil_of_length_eq_zero (by omega)
    subst this
    rw [toks_nil, textOf_flush]; simp
  | n + 1, [], btw, out, h => by rw [toks_nil, textOf_flush]; simp
  | n + 1, c :: s, btw, out, h => by
    cases hc : inW c with
    | false =>
      rw [toks_other hc, toks_text n _ _ _ (by simpa using h)]
      simp
    | true =>
      have hd := drop_lt (s := s) hc
      have hj : (c :: s).takeWhile inW ++ (c :: s).dropWhile inW = c :: s := List.takeWhile_append_dropWhile
      have h3 := three ((c :: s).takeWhile inW)
      by_cases hw : isWd (midQ ((c :: s).takeWhile inW)) = true
      · rw [toks_word hc _ _ hw, toks_text n _ _ _ (by omega), textOf_app, textOf_flush]
        have e : textOf [(midQ ((c :: s).takeWhile inW), true)] = midQ ((c :: s).takeWhile inW) := by simp [textOf]
        rw [e]
        have key := congrArg (· ++ (c :: s).dropWhile inW) h3
        simp only [List.append_assoc] at key ⊢
        rw [key, hj]
      · rw [toks_row hc _ _ hw, toks_text n _ _ _ (by omega)]
        conv => rhs; rw [← hj]
        simp only [List.append_assoc]
end Go.Fv.T

/- A text is one word just where its tokens are that word alone; small letters. -/
namespace Go.Fv.T
open Go
set_option linter.unusedSimpArgs false
set_option linter.unusedVariables false
set_option linter.unnecessarySimpa false

theorem isL_nq {c : UInt8} (h : isL c = true) : qu c = false := by
  cases hq : qu c with
  | false => rfl
  | true =>
    have : c = 39 := of_decide_eq_true hq
    subst this; revert h; decide
theorem isWd_parts {s : Bytes} (h : isWd s = true) : s ≠ [] ∧ isL (s.headD 0) = true ∧ isL (s.getLastD 0) = true ∧ s.all inW = true := by
  unfold isWd at h
  simp only [Bool.and_eq_true, decide_eq_true_eq] at h
  exact ⟨h.1.1.1.1, h.1.1.2, h.1.2, h.2⟩
theorem dropQ_wd {s : Bytes} (h : isWd s = true) : dropQ s = s := by
  obtain ⟨h0, h1, _, _⟩ := isWd_parts h
  cases s with
  | nil => exact absurd rfl h0
  | cons c t => simp [dropQ, List.dropWhile_cons, isL_nq (show isL c = true from h1)]
theorem preQ_wd {s : Bytes} (h : isWd s = true) : preQ s = [] := by
  obtain ⟨h0, h1, _, _⟩ := isWd_parts h
  cases s with
  | nil => rfl
  | cons c t => simp [preQ, List.takeWhile_cons, isL_nq (show isL c = true from h1)]
theorem rev_head {s : Bytes} (h0 : s ≠ []) : ∃ t, s.reverse = s.getLastD 0 :: t := by
  rcases List.eq_nil_or_concat s with rfl | ⟨t, c, rfl⟩
  · exact absurd rfl h0
  · exact ⟨t.reverse, by simp⟩
theorem dropR_wd {s : Bytes} (h : isWd s = true) : dropR s = s ∧ postQ s = [] := by
  obtain ⟨h0, _, h1, _⟩ := isWd_parts h
  obtain ⟨t, ht⟩ := rev_head h0
  unfold dropR postQ
  rw [ht, List.dropWhile_cons, List.takeWhile_cons, isL_nq h1]
  simp only [Bool.false_eq_true, if_false, List.reverse_nil, and_true]
  rw [← ht, List.reverse_reverse]
theorem midQ_wd {s : Bytes} (h : isWd s = true) : midQ s = s := by unfold midQ; rw [dropQ_wd h, (dropR_wd h).1]
theorem all_take_drop {p : UInt8 → Bool} : ∀ {s : Bytes}, s.all p = true → s.takeWhile p = s ∧ s.dropWhile p = []
  | [], _ => ⟨rfl, rfl⟩
  | c :: t, h => by
    rw [List.all_cons, Bool.and_eq_true] at h
    have ih := all_take_drop h.2
    rw [List.takeWhile_cons, List.dropWhile_cons, if_pos h.1, if_pos h.1, ih.1, ih.2]; exact ⟨rfl, rfl⟩
theorem toks_wd {s : Bytes} (h : isWd s = true) : toks s [] [] = [(s, true)] := by
  obtain ⟨h0, _, _, ha⟩ := isWd_parts h
  cases s with
  | nil => exact absurd rfl h0
  | cons c t =>
    have hc : inW c = true := by rw [List.all_cons, Bool.and_eq_true] at ha; exact ha.1
    obtain ⟨e1, e2⟩ := all_take_drop ha
    rw [toks_word hc _ _ (by rw [e1, midQ_wd h]; exact h), e1, e2, toks_nil, midQ_wd h, dropQ_wd h, (dropR_wd h).2, preQ_wd h]
    rfl
/-- Each word among the tokens is a word. -/
def WordsOk (l : List Tok) : Prop := ∀ t, t ∈ l → t.2 = true → isWd t.1 = true
theorem WordsOk.flush {l : List Tok} (h : WordsOk l) (b : Bytes) : WordsOk (flush l b) := by
  unfold Go.Fv.T.flush
  split
  · exact h
  · intro t ht hw
    rcases List.mem_append.1 ht with h1 | h1
    · exact h t h1 hw
    · simp at h1; subst h1; cases hw
theorem WordsOk.snoc {l : List Tok} (h : WordsOk l) {w : Bytes} (hw : isWd w = true) : WordsOk (l ++ [(w, true)]) := by
  intro t ht h2
  rcases List.mem_append.1 ht with h1 | h1
  · exact h t h1 h2
  · simp at h1; subst h1; exact hw
theorem toks_words : ∀ (n : Nat) (s btw : Bytes) (out : List Tok), s.length ≤ n → WordsOk out → WordsOk (toks s btw out)
  | 0, s, btw, out, h, ho => by
    have : s = [] := List.eq_nil_of_length_eq_zero (by omega)
    subst this
    rw [toks_nil]; exact ho.flush _
  | n + 1, [], btw, out, h, ho => by rw [toks_nil]; exact ho.flush _
  | n + 1, c :: s, btw, out, h, ho => by
    cases hc : inW c with
    | false => rw [toks_other hc]; exact toks_words n _ _ _ (by simpa using h) ho
    | true =>
      have hd := drop_lt (s := s) hc
      by_cases hw : isWd (midQ ((c :: s).takeWhile inW)) = true
      · rw [toks_word hc _ _ hw]; exact toks_words n _ _ _ (by omega) ((ho.flush _).snoc hw)
      · rw [toks_row hc _ _ hw]; exact toks_words n _ _ _ (by omega) ho
/-- One token, and it is a word. -/
def oneWord (l : List Tok) : Bool := match l with
  | [t] => t.2
  | _ => false
theorem oneWord_iff (s : Bytes) : oneWord (toks s [] []) = isWd s := by
  cases h : isWd s with
  | true => rw [toks_wd h]; rfl
  | false =>
    have hw := toks_words _ s [] [] (Nat.le_refl _) (fun t ht => by cases ht)
    have ht := toks_text _ s [] [] (Nat.le_refl _)
    generalize toks s [] [] = l at *
    match l, hw, ht with
    | [], _, _ => rfl
    | [t], hw, ht =>
      have e : t.1 = s := by simpa [textOf] using ht
      cases h2 : t.2 with
      | false => exact h2
      | true => rw [← e, hw t (by simp) h2] at h; cases h
    | _ :: _ :: _, _, _ => rfl

/-- A to Z made small. -/
def smallB (c : UInt8) : UInt8 := if 65 ≤ c.toNat ∧ c.toNat ≤ 90 then c + 32 else c
def smallL (s : Bytes) : Bytes := s.map smallB
end Go.Fv.T

namespace Go.Fv.T
open Go Go.Proofs
set_option linter.unusedSimpArgs false
set_option linter.unusedVariables false
set_option maxRecDepth 8000
theorem drop_bools {tab : List Bool} {n : Nat} (h : n < tab.length) : (tab.map AV.bool).drop n = .bool (tab.getD n false) :: (tab.map AV.bool).drop (n + 1) := by
  rw [List.drop_eq_getElem_cons (by simpa using h)]
  simp [List.getD, h]

set_option maxHeartbeats 1000000 in
theorem contains_ok (tab : List Bool) (b : Int) (hl : tab.length = 256) (h0 : 0 ≤ b) (h1 : b < 256) : FnOk Tryd.prog 60 [.cell (tab.map .bool), .int .u8 b] (.bool (tab.getD b.toNat false)) [] := by
  refine FnOk.of_vc Tryd.func60 rfl (by decide) (by simp [Tryd.f60]) [.tmp 4] rfl fun w0 T0 _ => ?_
  simp only [Tryd.f60, argEnv]
  have hd := drop_bools (tab := tab) (n := b.toNat) (by omega)
  simp (maxSteps := 1000000) only [go_sem, reduceCtorEq, Nat.reduceLT, Nat.reduceLeDiff, reduceIte, ↓reduceIte, Nat.reduceEqDiff, Nat.reduceAdd, Nat.reduceMul, Nat.reduceSub, Int.reduceLE, Int.reduceLT, Int.reduceNeg, Int.reduceToNat, Nat.mul_one, hd]
  (repeat' first | (with_reducible refine Asm.intro fun _ => ?_) | ((with_reducible refine Chk.intro ?_ ?_); (· first | omega | (with_reducible refine Chk.intro ?_ ?_ <;> omega) | (simp; done) | (simp; omega))) | ((with_reducible refine LetW.i64 ?_ ?_ ?_); (· omega); (· omega)) | ((with_reducible refine Ite.decide (fun _ => ?_) (fun _ => ?_)) <;> first | (exfalso; omega) | simp (maxSteps := 1000000) only [go_sem, reduceCtorEq, Nat.reduceLT, Nat.reduceLeDiff, reduceIte, ↓reduceIte, Nat.reduceEqDiff, Nat.reduceAdd, Nat.reduceMul, Nat.reduceSub, Int.reduceLE, Int.reduceLT, Int.reduceNeg, Int.reduceToNat]) | ((with_reducible refine Ite.bool (fun _ => ?_) (fun _ => ?_)) <;> simp (maxSteps := 1000000) only [go_sem, reduceCtorEq, Nat.reduceLT, Nat.reduceLeDiff, reduceIte, ↓reduceIte, Nat.reduceEqDiff, Nat.reduceAdd, Nat.reduceMul, Nat.reduceSub, Int.reduceLE, Int.reduceLT, Int.reduceNeg, Int.reduceToNat]) | (with_reducible refine And.intro ?_ ?_))
  refine Ret.auto 0 ?_ rfl ?_ <;> simp only [go_sem, reduceCtorEq, reduceIte, Nat.reduceEqDiff, Nat.reduceLT, Nat.reduceLeDiff, Int.natCast_succ, Post]

set_option maxHeartbeats 1000000 in
theorem trimRight_a (tab : List Bool) (hl : tab.length = 256) (ha : tab.getD 97 false = true) : FnOk Tryd.prog 49 [.str [97], .cell (tab.map .bool)] (.str []) [] := by
  refine FnOk.of_vc Tryd.func49 rfl (by decide) (by simp [Tryd.f49]) [.tmp 4] rfl fun w0 T0 _ => ?_
  simp only [Tryd.f49, argEnv]
  simp (maxSteps := 1000000) only [go_sem, reduceCtorEq, Nat.reduceLT, Nat.reduceLeDiff, reduceIte, ↓reduceIte, Nat.reduceEqDiff, Nat.reduceAdd, Nat.reduceMul, Nat.reduceSub, Int.reduceLE, Int.reduceLT, Int.reduceNeg, Int.reduceToNat]
  refine VcLoop.intro (fun k : Bool => ⟨22, [(0, .str (cond k [97] [])), (1, .cell (tab.map .bool))], [], 0⟩) (fun _ => True) (fun k => cond k 1 0) true ?_ trivial fun k _ => ?_
  · refine Ent.auto0 rfl ?_ ?_ <;> simp only [go_sem, reduceCtorEq, reduceIte, Nat.reduceEqDiff, Nat.reduceLT, Nat.reduceLeDiff, Int.natCast_succ, cond_true]
  cases k with
  | true =>
    simp (maxSteps := 1000000) only [go_sem, reduceCtorEq, Nat.reduceLT, Nat.reduceLeDiff, reduceIte, ↓reduceIte, Nat.reduceEqDiff, Nat.reduceAdd, Nat.reduceMul, Nat.reduceSub, Int.reduceLE, Int.reduceLT, Int.reduceNeg, Int.reduceToNat]
    (repeat' first | (with_reducible refine Asm.intro fun _ => ?_) | ((with_reducible refine Chk.intro ?_ ?_); (· first | omega | (with_reducible refine Chk.intro ?_ ?_ <;> omega) | (simp; done) | (simp; omega))) | ((with_reducible refine LetW.i64 ?_ ?_ ?_); (· omega); (· omega)) | ((with_reducible refine Ite.decide (fun _ => ?_) (fun _ => ?_)) <;> first | (exfalso; omega) | simp (maxSteps := 1000000) only [go_sem, reduceCtorEq, Nat.reduceLT, Nat.reduceLeDiff, reduceIte, ↓reduceIte, Nat.reduceEqDiff, Nat.reduceAdd, Nat.reduceMul, Nat.reduceSub, Int.reduceLE, Int.reduceLT, Int.reduceNeg, Int.reduceToNat]) | ((with_reducible refine Ite.bool (fun _ => ?_) (fun _ => ?_)) <;> simp (maxSteps := 1000000) only [go_sem, reduceCtorEq, Nat.reduceLT, Nat.reduceLeDiff, reduceIte, ↓reduceIte, Nat.reduceEqDiff, Nat.reduceAdd, Nat.reduceMul, Nat.reduceSub, Int.reduceLE, Int.reduceLT, Int.reduceNeg, Int.reduceToNat]) | (with_reducible refine And.intro ?_ ?_))
    have e : ((([97] : List UInt8).getD (((1 : Nat) : Int) - 1).toNat 0).toNat : Int) = 97 := rfl
    rw [e]
    refine VcCall.fr (args' := [.cell (tab.map .bool), .int .u8 97]) (FnFr.of_ok (contains_ok tab 97 hl (by omega) (by omega)) rfl rfl) (by simp [argOkL, allOk, argOkN]) 0 rfl (by simp [rowsB]) ?_
    simp (maxSteps := 1000000) only [go_sem, reduceCtorEq, Nat.reduceLT, Nat.reduceLeDiff, reduceIte, ↓reduceIte, Nat.reduceEqDiff, Nat.reduceAdd, Nat.reduceMul, Nat.reduceSub, Int.reduceLE, Int.reduceLT, Int.reduceNeg, Int.reduceToNat, ha]
    (repeat' first | (with_reducible refine Asm.intro fun _ => ?_) | ((with_reducible refine Chk.intro ?_ ?_); (· first | omega | (with_reducible refine Chk.intro ?_ ?_ <;> omega) | (simp; done) | (simp; omega))) | ((with_reducible refine LetW.i64 ?_ ?_ ?_); (· omega); (· omega)) | ((with_reducible refine Ite.decide (fun _ => ?_) (fun _ => ?_)) <;> first | (exfalso; omega) | simp (maxSteps := 1000000) only [go_sem, reduceCtorEq, Nat.reduceLT, Nat.reduceLeDiff, reduceIte, ↓reduceIte, Nat.reduceEqDiff, Nat.reduceAdd, Nat.reduceMul, Nat.reduceSub, Int.reduceLE, Int.reduceLT, Int.reduceNeg, Int.reduceToNat]) | ((with_reducible refine Ite.bool (fun _ => ?_) (fun _ => ?_)) <;> simp (maxSteps := 1000000) only [go_sem, reduceCtorEq, Nat.reduceLT, Nat.reduceLeDiff, reduceIte, ↓reduceIte, Nat.reduceEqDiff, Nat.reduceAdd, Nat.reduceMul, Nat.reduceSub, Int.reduceLE, Int.reduceLT, Int.reduceNeg, Int.reduceToNat]) | (with_reducible refine And.intro ?_ ?_))
    refine ⟨false, Ent.auto0 rfl ?_ ?_, Nat.zero_lt_one⟩ <;> simp only [go_sem, reduceCtorEq, reduceIte, Nat.reduceEqDiff, Nat.reduceLT, Nat.reduceLeDiff, Int.natCast_succ, cond_false]
    simp
  | false =>
    simp (maxSteps := 1000000) only [go_sem, reduceCtorEq, Nat.reduceLT, Nat.reduceLeDiff, reduceIte, ↓reduceIte, Nat.reduceEqDiff, Nat.reduceAdd, Nat.reduceMul, Nat.reduceSub, Int.reduceLE, Int.reduceLT, Int.reduceNeg, Int.reduceToNat]
    (repeat' first | (with_reducible refine Asm.intro fun _ => ?_) | ((with_reducible refine Chk.intro ?_ ?_); (· first | omega | (with_reducible refine Chk.intro ?_ ?_ <;> omega) | (simp; done) | (simp; omega))) | ((with_reducible refine LetW.i64 ?_ ?_ ?_); (· omega); (· omega)) | ((with_reducible refine Ite.decide (fun _ => ?_) (fun _ => ?_)) <;> first | (exfalso; omega) | simp (maxSteps := 1000000) only [go_sem, reduceCtorEq, Nat.reduceLT, Nat.reduceLeDiff, reduceIte, ↓reduceIte, Nat.reduceEqDiff, Nat.reduceAdd, Nat.reduceMul, Nat.reduceSub, Int.reduceLE, Int.reduceLT, Int.reduceNeg, Int.reduceToNat]) | ((with_reducible refine Ite.bool (fun _ => ?_) (fun _ => ?_)) <;> simp (maxSteps := 1000000) only [go_sem, reduceCtorEq, Nat.reduceLT, Nat.reduceLeDiff, reduceIte, ↓reduceIte, Nat.reduceEqDiff, Nat.reduceAdd, Nat.reduceMul, Nat.reduceSub, Int.reduceLE, Int.reduceLT, Int.reduceNeg, Int.reduceToNat]) | (with_reducible refine And.intro ?_ ?_))
    refine Ret.auto 0 ?_ rfl ?_ <;> simp only [go_sem, reduceCtorEq, reduceIte, Nat.reduceEqDiff, Nat.reduceLT, Nat.reduceLeDiff, Int.natCast_succ, Post]

set_option maxHeartbeats 1000000 in
theorem trimLeft_nil (tab : List Bool) : FnOk Tryd.prog 48 [.str [], .cell (tab.map .bool)] (.str []) [] := by
  refine FnOk.of_vc Tryd.func48 rfl (by decide) (by simp [Tryd.f48]) [.tmp 4] rfl fun w0 T0 _ => ?_
  simp only [Tryd.f48, argEnv]
  simp (maxSteps := 1000000) only [go_sem, reduceCtorEq, Nat.reduceLT, Nat.reduceLeDiff, reduceIte, ↓reduceIte, Nat.reduceEqDiff, Nat.reduceAdd, Nat.reduceMul, Nat.reduceSub, Int.reduceLE, Int.reduceLT, Int.reduceNeg, Int.reduceToNat]
  refine VcLoop.intro (fun k : Unit => ⟨16, [(0, .str [])], [], 0⟩) (fun _ => True) (fun k => 0) () ?_ trivial fun k _ => ?_
  · refine Ent.auto0 rfl ?_ ?_ <;> simp only [go_sem, reduceCtorEq, reduceIte, Nat.reduceEqDiff, Nat.reduceLT, Nat.reduceLeDiff, Int.natCast_succ]
  simp (maxSteps := 1000000) only [go_sem, reduceCtorEq, Nat.reduceLT, Nat.reduceLeDiff, reduceIte, ↓reduceIte, Nat.reduceEqDiff, Nat.reduceAdd, Nat.reduceMul, Nat.reduceSub, Int.reduceLE, Int.reduceLT, Int.reduceNeg, Int.reduceToNat]
  (repeat' first | (with_reducible refine Asm.intro fun _ => ?_) | ((with_reducible refine Chk.intro ?_ ?_); (· first | omega | (with_reducible refine Chk.intro ?_ ?_ <;> omega) | (simp; done) | (simp; omega))) | ((with_reducible refine LetW.i64 ?_ ?_ ?_); (· omega); (· omega)) | ((with_reducible refine Ite.decide (fun _ => ?_) (fun _ => ?_)) <;> first | (exfalso; omega) | simp (maxSteps := 1000000) only [go_sem, reduceCtorEq, Nat.reduceLT, Nat.reduceLeDiff, reduceIte, ↓reduceIte, Nat.reduceEqDiff, Nat.reduceAdd, Nat.reduceMul, Nat.reduceSub, Int.reduceLE, Int.reduceLT, Int.reduceNeg, Int.reduceToNat]) | ((with_reducible refine Ite.bool (fun _ => ?_) (fun _ => ?_)) <;> simp (maxSteps := 1000000) only [go_sem, reduceCtorEq, Nat.reduceLT, Nat.reduceLeDiff, reduceIte, ↓reduceIte, Nat.reduceEqDiff, Nat.reduceAdd, Nat.reduceMul, Nat.reduceSub, Int.reduceLE, Int.reduceLT, Int.reduceNeg, Int.reduceToNat]) | (with_reducible refine And.intro ?_ ?_))
  refine Ret.auto 0 ?_ rfl ?_ <;> simp only [go_sem, reduceCtorEq, reduceIte, Nat.reduceEqDiff, Nat.reduceLT, Nat.reduceLeDiff, Int.natCast_succ, Post]

theorem z88 : zeroOf Tryd.prog 88 = some (.agg (Array.replicate 256 (.bool false))) := by kernel_rfl
theorem c88 : Tryd.prog.cellsOf 88 = 256 := by kernel_rfl

attribute [go_sem] z88 c88
def asciiAt (s : List UInt8) : Nat → List Bool
  | 0 => List.replicate 256 false
  | i + 1 => (asciiAt s i).set (s.getD i 0).toNat true
theorem asciiAt_len (s : List UInt8) : ∀ i, (asciiAt s i).length = 256
  | 0 => by simp [asciiAt]
  | i + 1 => by simp [asciiAt, asciiAt_len s i]

set_option maxHeartbeats 1000000 in
theorem makeAscii_ok (s : List UInt8) (hs : ∀ i, i < s.length → (s.getD i 0).toNat < 128) : FnOk Tryd.prog 47 [.str s] (.tup [.agg ((asciiAt s s.length).map .bool), .bool true]) [] := by
  refine FnOk.of_vc Tryd.func47 rfl (by decide) (by simp [Tryd.f47]) [.cell 2 88, .tmp 3] rfl fun w0 T0 _ => ?_
  simp only [Tryd.f47, argEnv]
  simp (maxSteps := 1000000) only [go_sem, reduceCtorEq, Nat.reduceLT, Nat.reduceLeDiff, reduceIte, ↓reduceIte, Nat.reduceEqDiff, Nat.reduceAdd, Nat.reduceMul, Nat.reduceSub, Int.reduceLE, Int.reduceLT, Int.reduceNeg, Int.reduceToNat]
  refine VcLoop.intro (fun i : Nat => ⟨21, [(0, .str s), (2, .ptr 0 0), (4, .int .i64 i)], [(0, .box 88 ((asciiAt s i).map .bool))], 1⟩) (fun i => i ≤ s.length) (fun i => s.length - i) 0 ?_ (Nat.zero_le _) fun i hi => ?_
  · refine Ent.auto0 rfl ?_ ?_ <;> simp only [go_sem, reduceCtorEq, reduceIte, Nat.reduceEqDiff, Nat.reduceLT, Nat.reduceLeDiff, Int.natCast_succ, asciiAt]
  have hlen := asciiAt_len s i
  simp (maxSteps := 1000000) only [go_sem, reduceCtorEq, Nat.reduceLT, Nat.reduceLeDiff, reduceIte, ↓reduceIte, Nat.reduceEqDiff, Nat.reduceAdd, Nat.reduceMul, Nat.reduceSub, Int.reduceLE, Int.reduceLT, Int.reduceNeg, Int.reduceToNat]
  (repeat' first | (with_reducible refine Asm.intro fun _ => ?_) | ((with_reducible refine Chk.intro ?_ ?_); (· first | omega | (with_reducible refine Chk.intro ?_ ?_ <;> omega) | (simp; done) | (simp; omega))) | ((with_reducible refine LetW.i64 ?_ ?_ ?_); (· omega); (· omega)) | ((with_reducible refine Ite.decide (fun _ => ?_) (fun _ => ?_)) <;> first | (exfalso; omega) | simp (maxSteps := 1000000) only [go_sem, reduceCtorEq, Nat.reduceLT, Nat.reduceLeDiff, reduceIte, ↓reduceIte, Nat.reduceEqDiff, Nat.reduceAdd, Nat.reduceMul, Nat.reduceSub, Int.reduceLE, Int.reduceLT, Int.reduceNeg, Int.reduceToNat]) | ((with_reducible refine Ite.bool (fun _ => ?_) (fun _ => ?_)) <;> simp (maxSteps := 1000000) only [go_sem, reduceCtorEq, Nat.reduceLT, Nat.reduceLeDiff, reduceIte, ↓reduceIte, Nat.reduceEqDiff, Nat.reduceAdd, Nat.reduceMul, Nat.reduceSub, Int.reduceLE, Int.reduceLT, Int.reduceNeg, Int.reduceToNat]) | (with_reducible refine And.intro ?_ ?_))
  · have := hs i (by omega)
    omega
  · refine ⟨i + 1, Ent.auto0 rfl ?_ ?_, by omega, by omega⟩
    · simp only [go_sem, reduceCtorEq, reduceIte, Nat.reduceEqDiff, Nat.reduceLT, Nat.reduceLeDiff, Int.natCast_succ]
    · simp only [go_sem, reduceCtorEq, reduceIte, Nat.reduceEqDiff, Nat.reduceLT, Nat.reduceLeDiff, Int.natCast_succ, asciiAt]
  · have e : i = s.length := by omega
    subst e
    have e2 : ((asciiAt s s.length).map AV.bool).take 256 = (asciiAt s s.length).map AV.bool := List.take_of_length_le (by simp [hlen])
    have e3 : spl ((asciiAt s s.length).map AV.bool) 0 ((asciiAt s s.length).map AV.bool) = (asciiAt s s.length).map AV.bool := spl_all rfl
    refine Ret.auto 0 ?_ ?_ ?_ <;> simp only [go_sem, reduceCtorEq, reduceIte, Nat.reduceEqDiff, Nat.reduceLT, Nat.reduceLeDiff, Int.natCast_succ, Post, e2, e3, List.drop_zero]
    simp (maxSteps := 1000000) only [go_sem, reduceCtorEq, Nat.reduceLT, Nat.reduceLeDiff, reduceIte, ↓reduceIte, Nat.reduceEqDiff, Nat.reduceAdd, Nat.reduceMul, Nat.reduceSub, Int.reduceLE, Int.reduceLT, Int.reduceNeg, Int.reduceToNat, e2, hlen, List.length_map]

def cutset : List UInt8 := [97, 98, 99, 100, 101, 102, 103, 104, 105, 106, 107, 108, 109, 110, 111, 112, 113, 114, 115, 116, 117, 118, 119, 120, 121, 122, 48, 49, 50, 51, 52, 53, 54, 55, 56, 57, 45]
theorem cut_small : ∀ i, i < cutset.length → (cutset.getD i 0).toNat < 128 := by decide
theorem cut_a : (asciiAt cutset cutset.length).getD 97 false = true := by decide

set_option maxHeartbeats 1000000 in
theorem trim_a : FnOk Tryd.prog 32 [.str [97], .str cutset] (.str []) [] := by
  refine FnOk.of_vc Tryd.func32 rfl (by decide) (by simp [Tryd.f32]) [.tmp 4] rfl fun w0 T0 _ => ?_
  simp only [Tryd.f32, argEnv]
  have hc : ¬ cutset = [] := by decide
  have hl : cutset.length = 37 := rfl
  simp (maxSteps := 1000000) only [go_sem, reduceCtorEq, Nat.reduceLT, Nat.reduceLeDiff, reduceIte, ↓reduceIte, Nat.reduceEqDiff, Nat.reduceAdd, Nat.reduceMul, Nat.reduceSub, Int.reduceLE, Int.reduceLT, Int.reduceNeg, Int.reduceToNat, hc, hl]
  (repeat' first | (with_reducible refine Asm.intro fun _ => ?_) | ((with_reducible refine Chk.intro ?_ ?_); (· first | omega | (with_reducible refine Chk.intro ?_ ?_ <;> omega) | (simp; done) | (simp; omega))) | ((with_reducible refine LetW.i64 ?_ ?_ ?_); (· omega); (· omega)) | ((with_reducible refine Ite.decide (fun _ => ?_) (fun _ => ?_)) <;> first | (exfalso; omega) | simp (maxSteps := 1000000) only [go_sem, reduceCtorEq, Nat.reduceLT, Nat.reduceLeDiff, reduceIte, ↓reduceIte, Nat.reduceEqDiff, Nat.reduceAdd, Nat.reduceMul, Nat.reduceSub, Int.reduceLE, Int.reduceLT, Int.reduceNeg, Int.reduceToNat]) | ((with_reducible refine Ite.bool (fun _ => ?_) (fun _ => ?_)) <;> simp (maxSteps := 1000000) only [go_sem, reduceCtorEq, Nat.reduceLT, Nat.reduceLeDiff, reduceIte, ↓reduceIte, Nat.reduceEqDiff, Nat.reduceAdd, Nat.reduceMul, Nat.reduceSub, Int.reduceLE, Int.reduceLT, Int.reduceNeg, Int.reduceToNat]) | (with_reducible refine And.intro ?_ ?_))
  have hlen := asciiAt_len cutset cutset.length
  refine VcCall.fr (args' := [.str cutset]) (FnFr.of_ok (makeAscii_ok cutset cut_small) (by simp [noRo, noRoL, noRoL_bools]) rfl) (by simp [argOkL, allOk, argOkN]) 0 (by simp [Fv.below, belowL, belowL_bools]) (by simp [rowsB]) ?_
  have ha := cut_a
  generalize asciiAt cutset cutset.length = tab at hlen ha ⊢
  simp (maxSteps := 1000000) only [go_sem, reduceCtorEq, Nat.reduceLT, Nat.reduceLeDiff, reduceIte, ↓reduceIte, Nat.reduceEqDiff, Nat.reduceAdd, Nat.reduceMul, Nat.reduceSub, Int.reduceLE, Int.reduceLT, Int.reduceNeg, Int.reduceToNat]
  have e1 : spl (List.replicate 256 (AV.bool false)) 0 (tab.map .bool) = tab.map .bool := spl_all (by simp [hlen])
  refine Chk.intro (by simp [hlen]) ?_
  rw [e1]
  refine Chk.intro (by omega) ?_
  refine VcCall.fr (args' := [.str [97], .cell (tab.map .bool)]) (FnFr.of_ok (trimRight_a tab hlen ha) rfl rfl) ?_ 0 rfl (by simp [rowsB]) ?_
  · exact ⟨_, _, rfl, ⟨_, _, ⟨_, _, _, rfl, allOk_bools _ 4 _, rfl⟩, rfl, rfl⟩, rfl⟩
  simp (maxSteps := 1000000) only [go_sem, reduceCtorEq, Nat.reduceLT, Nat.reduceLeDiff, reduceIte, ↓reduceIte, Nat.reduceEqDiff, Nat.reduceAdd, Nat.reduceMul, Nat.reduceSub, Int.reduceLE, Int.reduceLT, Int.reduceNeg, Int.reduceToNat]
  refine VcCall.fr (args' := [.str [], .cell (tab.map .bool)]) (FnFr.of_ok (trimLeft_nil tab) rfl rfl) ?_ 0 rfl (by simp [rowsB]) ?_
  · exact ⟨_, _, rfl, ⟨_, _, ⟨_, _, _, rfl, allOk_bools _ 4 _, rfl⟩, rfl, rfl⟩, rfl⟩
  simp (maxSteps := 1000000) only [go_sem, reduceCtorEq, Nat.reduceLT, Nat.reduceLeDiff, reduceIte, ↓reduceIte, Nat.reduceEqDiff, Nat.reduceAdd, Nat.reduceMul, Nat.reduceSub, Int.reduceLE, Int.reduceLT, Int.reduceNeg, Int.reduceToNat]
  refine Ret.auto 0 ?_ rfl ?_ <;> simp only [go_sem, reduceCtorEq, reduceIte, Nat.reduceEqDiff, Nat.reduceLT, Nat.reduceLeDiff, Int.natCast_succ, Post]

set_option maxHeartbeats 1000000 in
theorem isName_a : FnOk Tryd.prog 15 [.str [97]] (.bool true) [] := by
  refine FnOk.of_vc Tryd.func15 rfl (by decide) (by simp [Tryd.f15]) [.tmp 2] rfl fun w0 T0 _ => ?_
  simp only [Tryd.f15, argEnv]
  simp (maxSteps := 1000000) only [go_sem, reduceCtorEq, Nat.reduceLT, Nat.reduceLeDiff, reduceIte, ↓reduceIte, Nat.reduceEqDiff, Nat.reduceAdd, Nat.reduceMul, Nat.reduceSub, Int.reduceLE, Int.reduceLT, Int.reduceNeg, Int.reduceToNat]
  (repeat' first | (with_reducible refine Asm.intro fun _ => ?_) | ((with_reducible refine Chk.intro ?_ ?_); (· first | omega | (with_reducible refine Chk.intro ?_ ?_ <;> omega) | (simp; done) | (simp; omega))) | ((with_reducible refine LetW.i64 ?_ ?_ ?_); (· omega); (· omega)) | ((with_reducible refine Ite.decide (fun _ => ?_) (fun _ => ?_)) <;> first | (exfalso; omega) | simp (maxSteps := 1000000) only [go_sem, reduceCtorEq, Nat.reduceLT, Nat.reduceLeDiff, reduceIte, ↓reduceIte, Nat.reduceEqDiff, Nat.reduceAdd, Nat.reduceMul, Nat.reduceSub, Int.reduceLE, Int.reduceLT, Int.reduceNeg, Int.reduceToNat]) | ((with_reducible refine Ite.bool (fun _ => ?_) (fun _ => ?_)) <;> simp (maxSteps := 1000000) only [go_sem, reduceCtorEq, Nat.reduceLT, Nat.reduceLeDiff, reduceIte, ↓reduceIte, Nat.reduceEqDiff, Nat.reduceAdd, Nat.reduceMul, Nat.reduceSub, Int.reduceLE, Int.reduceLT, Int.reduceNeg, Int.reduceToNat]) | (with_reducible refine And.intro ?_ ?_))
  · refine VcCall.fr (args' := [.str [97], .str cutset]) (FnFr.of_ok trim_a rfl rfl) (by simp [argOkL, allOk, argOkN, cutset]) 0 rfl (by simp [rowsB]) ?_
    simp (maxSteps := 1000000) only [go_sem, reduceCtorEq, Nat.reduceLT, Nat.reduceLeDiff, reduceIte, ↓reduceIte, Nat.reduceEqDiff, Nat.reduceAdd, Nat.reduceMul, Nat.reduceSub, Int.reduceLE, Int.reduceLT, Int.reduceNeg, Int.reduceToNat]
    (repeat' first | (with_reducible refine Asm.intro fun _ => ?_) | ((with_reducible refine Chk.intro ?_ ?_); (· first | omega | (with_reducible refine Chk.intro ?_ ?_ <;> omega) | (simp; done) | (simp; omega))) | ((with_reducible refine LetW.i64 ?_ ?_ ?_); (· omega); (· omega)) | ((with_reducible refine Ite.decide (fun _ => ?_) (fun _ => ?_)) <;> first | (exfalso; omega) | simp (maxSteps := 1000000) only [go_sem, reduceCtorEq, Nat.reduceLT, Nat.reduceLeDiff, reduceIte, ↓reduceIte, Nat.reduceEqDiff, Nat.reduceAdd, Nat.reduceMul, Nat.reduceSub, Int.reduceLE, Int.reduceLT, Int.reduceNeg, Int.reduceToNat]) | ((with_reducible refine Ite.bool (fun _ => ?_) (fun _ => ?_)) <;> simp (maxSteps := 1000000) only [go_sem, reduceCtorEq, Nat.reduceLT, Nat.reduceLeDiff, reduceIte, ↓reduceIte, Nat.reduceEqDiff, Nat.reduceAdd, Nat.reduceMul, Nat.reduceSub, Int.reduceLE, Int.reduceLT, Int.reduceNeg, Int.reduceToNat]) | (with_reducible refine And.intro ?_ ?_))
    refine Ret.auto 0 ?_ rfl ?_ <;> simp only [go_sem, reduceCtorEq, reduceIte, Nat.reduceEqDiff, Nat.reduceLT, Nat.reduceLeDiff, Int.natCast_succ, Post]
  · rename_i h
    exact (h (by decide)).elim

end Go.Fv.T
