/-
  A part of the proof of the claim: walks over the program's functions and the plain laws that these need. No condition of its own.
-/
import Derived.Test.YthhdmejmdjhbkaaGreatDoorFvPart10
import Derived.Test.YthhdmejmdjhbkaaGreatDoorProg
import Derived.Test.YthhdmejmdjhbkaaGreatDoorFvPart11
import Derived.Lib.Bytealg
/- Facts about the program's types: each shown by reckoning it out. -/
namespace Go.Fv.Y
open Go Go.Proofs
theorem e1 : ElemZ Tryz.prog 1 (.nilFunc) := .of (by kernel_rfl) (by kernel_rfl)
theorem z1 : zeroOf Tryz.prog 1 = some (.nilFunc) := e1.zero
theorem c1 : Tryz.prog.cellsOf 1 = 1 := e1.cellsOf
theorem e2 : ElemZ Tryz.prog 2 (.int .i64 0) := .of (by kernel_rfl) (by kernel_rfl)
theorem z2 : zeroOf Tryz.prog 2 = some (.int .i64 0) := e2.zero
theorem c2 : Tryz.prog.cellsOf 2 = 1 := e2.cellsOf
theorem e3 : ElemZ Tryz.prog 3 (.int .i64 0) := .of (by kernel_rfl) (by kernel_rfl)
theorem z3 : zeroOf Tryz.prog 3 = some (.int .i64 0) := e3.zero
theorem c3 : Tryz.prog.cellsOf 3 = 1 := e3.cellsOf
theorem e4 : ElemZ Tryz.prog 4 (.bool false) := .of (by kernel_rfl) (by kernel_rfl)
theorem z4 : zeroOf Tryz.prog 4 = some (.bool false) := e4.zero
theorem c4 : Tryz.prog.cellsOf 4 = 1 := e4.cellsOf
theorem e5 : ElemZ Tryz.prog 5 (.int .u8 0) := .of (by kernel_rfl) (by kernel_rfl)
theorem z5 : zeroOf Tryz.prog 5 = some (.int .u8 0) := e5.zero
theorem c5 : Tryz.prog.cellsOf 5 = 1 := e5.cellsOf
theorem e6 : ElemZ Tryz.prog 6 (.int .u8 0) := .of (by kernel_rfl) (by kernel_rfl)
theorem e9 : ElemZ Tryz.prog 9 (.string ⟨#[]⟩) := .of (by kernel_rfl) (by kernel_rfl)
theorem z9 : zeroOf Tryz.prog 9 = some (.string ⟨#[]⟩) := e9.zero
theorem c9 : Tryz.prog.cellsOf 9 = 1 := e9.cellsOf
theorem e12 : ElemZ Tryz.prog 12 (.int .u64 0) := .of (by kernel_rfl) (by kernel_rfl)
theorem e17 : ElemZ Tryz.prog 17 (.pointer none) := .of (by kernel_rfl) (by kernel_rfl)
theorem e22 : ElemZ Tryz.prog 22 (.slice none 0 0) := .of (by kernel_rfl) (by kernel_rfl)
theorem e24 : ElemZ Tryz.prog 24 (.agg #[.string ⟨#[]⟩, .string ⟨#[]⟩, .int .i64 0]) := .of (by kernel_rfl) (by kernel_rfl)
theorem z24 : zeroOf Tryz.prog 24 = some (.agg #[.string ⟨#[]⟩, .string ⟨#[]⟩, .int .i64 0]) := e24.zero
theorem c24 : Tryz.prog.cellsOf 24 = 3 := e24.cellsOf
theorem e26 : ElemZ Tryz.prog 26 (.agg #[.string ⟨#[]⟩, .int .i64 0]) := .of (by kernel_rfl) (by kernel_rfl)
theorem z26 : zeroOf Tryz.prog 26 = some (.agg #[.string ⟨#[]⟩, .int .i64 0]) := e26.zero
theorem e27 : ElemZ Tryz.prog 27 (.agg #[.string ⟨#[]⟩, .int .i64 0]) := .of (by kernel_rfl) (by kernel_rfl)
theorem z27 : zeroOf Tryz.prog 27 = some (.agg #[.string ⟨#[]⟩, .int .i64 0]) := e27.zero
theorem c27 : Tryz.prog.cellsOf 27 = 2 := e27.cellsOf
theorem e28 : ElemZ Tryz.prog 28 (.pointer none) := .of (by kernel_rfl) (by kernel_rfl)
theorem c28 : Tryz.prog.cellsOf 28 = 1 := e28.cellsOf
theorem e29 : ElemZ Tryz.prog 29 (.int .i64 0) := .of (by kernel_rfl) (by kernel_rfl)
theorem z29 : zeroOf Tryz.prog 29 = some (.int .i64 0) := e29.zero
theorem e32 : ElemZ Tryz.prog 32 (.nilFunc) := .of (by kernel_rfl) (by kernel_rfl)
theorem z32 : zeroOf Tryz.prog 32 = some (.nilFunc) := e32.zero
theorem e35 : ElemZ Tryz.prog 35 (.slice none 0 0) := .of (by kernel_rfl) (by kernel_rfl)
theorem z35 : zeroOf Tryz.prog 35 = some (.slice none 0 0) := e35.zero
theorem e37 : ElemZ Tryz.prog 37 (.nilFunc) := .of (by kernel_rfl) (by kernel_rfl)
theorem z37 : zeroOf Tryz.prog 37 = some (.nilFunc) := e37.zero
theorem e41 : ElemZ Tryz.prog 41 (.slice none 0 0) := .of (by kernel_rfl) (by kernel_rfl)
theorem z41 : zeroOf Tryz.prog 41 = some (.slice none 0 0) := e41.zero
theorem c41 : Tryz.prog.cellsOf 41 = 1 := e41.cellsOf
theorem e44 : ElemZ Tryz.prog 44 (.agg #[.string ⟨#[]⟩, .bool false]) := .of (by kernel_rfl) (by kernel_rfl)
theorem z44 : zeroOf Tryz.prog 44 = some (.agg #[.string ⟨#[]⟩, .bool false]) := e44.zero
theorem c44 : Tryz.prog.cellsOf 44 = 2 := e44.cellsOf
theorem e49 : ElemZ Tryz.prog 49 (.agg #[.int .i64 0, .string ⟨#[]⟩, .string ⟨#[]⟩]) := .of (by kernel_rfl) (by kernel_rfl)
theorem z49 : zeroOf Tryz.prog 49 = some (.agg #[.int .i64 0, .string ⟨#[]⟩, .string ⟨#[]⟩]) := e49.zero
theorem c49 : Tryz.prog.cellsOf 49 = 3 := e49.cellsOf
theorem e51 : ElemZ Tryz.prog 51 (.slice none 0 0) := .of (by kernel_rfl) (by kernel_rfl)
theorem z51 : zeroOf Tryz.prog 51 = some (.slice none 0 0) := e51.zero
theorem c51 : Tryz.prog.cellsOf 51 = 1 := e51.cellsOf
theorem e53 : ElemZ Tryz.prog 53 (.nilFunc) := .of (by kernel_rfl) (by kernel_rfl)
theorem z53 : zeroOf Tryz.prog 53 = some (.nilFunc) := e53.zero
theorem e57 : ElemZ Tryz.prog 57 (.nilFunc) := .of (by kernel_rfl) (by kernel_rfl)
theorem z57 : zeroOf Tryz.prog 57 = some (.nilFunc) := e57.zero
theorem e63 : ElemZ Tryz.prog 63 (.nilFunc) := .of (by kernel_rfl) (by kernel_rfl)
theorem z63 : zeroOf Tryz.prog 63 = some (.nilFunc) := e63.zero
theorem e64 : ElemZ Tryz.prog 64 (.agg #[.string ⟨#[]⟩, .int .i64 0, .int .i64 0]) := .of (by kernel_rfl) (by kernel_rfl)
theorem z64 : zeroOf Tryz.prog 64 = some (.agg #[.string ⟨#[]⟩, .int .i64 0, .int .i64 0]) := e64.zero
theorem e65 : ElemZ Tryz.prog 65 (.agg #[.string ⟨#[]⟩, .int .i64 0, .int .i64 0]) := .of (by kernel_rfl) (by kernel_rfl)
theorem z65 : zeroOf Tryz.prog 65 = some (.agg #[.string ⟨#[]⟩, .int .i64 0, .int .i64 0]) := e65.zero
theorem c65 : Tryz.prog.cellsOf 65 = 3 := e65.cellsOf
theorem e70 : ElemZ Tryz.prog 70 (.map none) := .of (by kernel_rfl) (by kernel_rfl)
theorem z70 : zeroOf Tryz.prog 70 = some (.map none) := e70.zero
theorem c70 : Tryz.prog.cellsOf 70 = 1 := e70.cellsOf
theorem e72 : ElemZ Tryz.prog 72 (.agg #[.map none, .slice none 0 0]) := .of (by kernel_rfl) (by kernel_rfl)
theorem z72 : zeroOf Tryz.prog 72 = some (.agg #[.map none, .slice none 0 0]) := e72.zero
theorem e75 : ElemZ Tryz.prog 75 (.agg #[.string ⟨#[]⟩, .string ⟨#[]⟩]) := .of (by kernel_rfl) (by kernel_rfl)
theorem z75 : zeroOf Tryz.prog 75 = some (.agg #[.string ⟨#[]⟩, .string ⟨#[]⟩]) := e75.zero
theorem c75 : Tryz.prog.cellsOf 75 = 2 := e75.cellsOf
theorem e77 : ElemZ Tryz.prog 77 (.map none) := .of (by kernel_rfl) (by kernel_rfl)
theorem z77 : zeroOf Tryz.prog 77 = some (.map none) := e77.zero
theorem c77 : Tryz.prog.cellsOf 77 = 1 := e77.cellsOf
theorem e86 : ElemZ Tryz.prog 86 (.slice none 0 0) := .of (by kernel_rfl) (by kernel_rfl)
theorem c86 : Tryz.prog.cellsOf 86 = 1 := e86.cellsOf
theorem e88 : ElemZ Tryz.prog 88 (.agg #[.pointer none, .slice none 0 0]) := .of (by kernel_rfl) (by kernel_rfl)
theorem z88 : zeroOf Tryz.prog 88 = some (.agg #[.pointer none, .slice none 0 0]) := e88.zero
theorem e123 : ElemZ Tryz.prog 123 (.agg #[.string ⟨#[]⟩, .string ⟨#[]⟩, .int .i64 0]) := .of (by kernel_rfl) (by kernel_rfl)
theorem z123 : zeroOf Tryz.prog 123 = some (.agg #[.string ⟨#[]⟩, .string ⟨#[]⟩, .int .i64 0]) := e123.zero
theorem c123 : Tryz.prog.cellsOf 123 = 3 := e123.cellsOf
theorem e124 : ElemZ Tryz.prog 124 (.slice none 0 0) := .of (by kernel_rfl) (by kernel_rfl)
theorem z124 : zeroOf Tryz.prog 124 = some (.slice none 0 0) := e124.zero
theorem e146 : ElemZ Tryz.prog 146 (.nilFunc) := .of (by kernel_rfl) (by kernel_rfl)
theorem z146 : zeroOf Tryz.prog 146 = some (.nilFunc) := e146.zero
theorem f7 : fieldsOkT Tryz.prog 7 := by
  intro d hd; rw [Tryz.underlying7] at hd; cases hd
  intro f hf; simp only [List.mem_cons, List.not_mem_nil, or_false] at hf
  rcases hf with rfl | rfl | rfl | rfl
  · obtain ⟨i, h, _⟩ := e2.ex; exact ⟨i, h⟩
  · obtain ⟨i, h, _⟩ := e3.ex; exact ⟨i, h⟩
  · obtain ⟨i, h, _⟩ := e4.ex; exact ⟨i, h⟩
  · obtain ⟨i, h, _⟩ := e6.ex; exact ⟨i, h⟩
theorem f8 : fieldsOkT Tryz.prog 8 := by
  intro d hd; rw [Tryz.underlying8] at hd; cases hd
  intro f hf; simp only [List.mem_cons, List.not_mem_nil, or_false] at hf
  rcases hf with rfl | rfl | rfl | rfl
  · obtain ⟨i, h, _⟩ := e2.ex; exact ⟨i, h⟩
  · obtain ⟨i, h, _⟩ := e3.ex; exact ⟨i, h⟩
  · obtain ⟨i, h, _⟩ := e4.ex; exact ⟨i, h⟩
  · obtain ⟨i, h, _⟩ := e6.ex; exact ⟨i, h⟩
theorem f13 : fieldsOkT Tryz.prog 13 := by
  intro d hd; rw [Tryz.underlying13] at hd; cases hd
  intro f hf; simp only [List.mem_cons, List.not_mem_nil, or_false] at hf
  rcases hf with rfl | rfl
  · obtain ⟨i, h, _⟩ := e9.ex; exact ⟨i, h⟩
  · obtain ⟨i, h, _⟩ := e12.ex; exact ⟨i, h⟩
theorem f14 : fieldsOkT Tryz.prog 14 := by
  intro d hd; rw [Tryz.underlying14] at hd; cases hd
  intro f hf; simp only [List.mem_cons, List.not_mem_nil, or_false] at hf
  rcases hf with rfl | rfl
  · obtain ⟨i, h, _⟩ := e9.ex; exact ⟨i, h⟩
  · obtain ⟨i, h, _⟩ := e12.ex; exact ⟨i, h⟩
theorem f19 : fieldsOkT Tryz.prog 19 := by
  intro d hd; rw [Tryz.underlying19] at hd; cases hd
  intro f hf; simp only [List.mem_cons, List.not_mem_nil, or_false] at hf
  rcases hf with rfl
  · obtain ⟨i, h, _⟩ := e17.ex; exact ⟨i, h⟩
theorem f23 : fieldsOkT Tryz.prog 23 := by
  intro d hd; rw [Tryz.underlying23] at hd; cases hd
  intro f hf; simp only [List.mem_cons, List.not_mem_nil, or_false] at hf
  rcases hf with rfl | rfl | rfl
  · obtain ⟨i, h, _⟩ := e9.ex; exact ⟨i, h⟩
  · obtain ⟨i, h, _⟩ := e9.ex; exact ⟨i, h⟩
  · obtain ⟨i, h, _⟩ := e3.ex; exact ⟨i, h⟩
theorem f24 : fieldsOkT Tryz.prog 24 := by
  intro d hd; rw [Tryz.underlying24] at hd; cases hd
  intro f hf; simp only [List.mem_cons, List.not_mem_nil, or_false] at hf
  rcases hf with rfl | rfl | rfl
  · obtain ⟨i, h, _⟩ := e9.ex; exact ⟨i, h⟩
  · obtain ⟨i, h, _⟩ := e9.ex; exact ⟨i, h⟩
  · obtain ⟨i, h, _⟩ := e3.ex; exact ⟨i, h⟩
theorem f26 : fieldsOkT Tryz.prog 26 := by
  intro d hd; rw [Tryz.underlying26] at hd; cases hd
  intro f hf; simp only [List.mem_cons, List.not_mem_nil, or_false] at hf
  rcases hf with rfl | rfl
  · obtain ⟨i, h, _⟩ := e9.ex; exact ⟨i, h⟩
  · obtain ⟨i, h, _⟩ := e3.ex; exact ⟨i, h⟩
theorem f27 : fieldsOkT Tryz.prog 27 := by
  intro d hd; rw [Tryz.underlying27] at hd; cases hd
  intro f hf; simp only [List.mem_cons, List.not_mem_nil, or_false] at hf
  rcases hf with rfl | rfl
  · obtain ⟨i, h, _⟩ := e9.ex; exact ⟨i, h⟩
  · obtain ⟨i, h, _⟩ := e3.ex; exact ⟨i, h⟩
theorem f44 : fieldsOkT Tryz.prog 44 := by
  intro d hd; rw [Tryz.underlying44] at hd; cases hd
  intro f hf; simp only [List.mem_cons, List.not_mem_nil, or_false] at hf
  rcases hf with rfl | rfl
  · obtain ⟨i, h, _⟩ := e9.ex; exact ⟨i, h⟩
  · obtain ⟨i, h, _⟩ := e4.ex; exact ⟨i, h⟩
theorem f48 : fieldsOkT Tryz.prog 48 := by
  intro d hd; rw [Tryz.underlying48] at hd; cases hd
  intro f hf; simp only [List.mem_cons, List.not_mem_nil, or_false] at hf
  rcases hf with rfl | rfl | rfl
  · obtain ⟨i, h, _⟩ := e3.ex; exact ⟨i, h⟩
  · obtain ⟨i, h, _⟩ := e9.ex; exact ⟨i, h⟩
  · obtain ⟨i, h, _⟩ := e9.ex; exact ⟨i, h⟩
theorem f49 : fieldsOkT Tryz.prog 49 := by
  intro d hd; rw [Tryz.underlying49] at hd; cases hd
  intro f hf; simp only [List.mem_cons, List.not_mem_nil, or_false] at hf
  rcases hf with rfl | rfl | rfl
  · obtain ⟨i, h, _⟩ := e3.ex; exact ⟨i, h⟩
  · obtain ⟨i, h, _⟩ := e9.ex; exact ⟨i, h⟩
  · obtain ⟨i, h, _⟩ := e9.ex; exact ⟨i, h⟩
theorem f65 : fieldsOkT Tryz.prog 65 := by
  intro d hd; rw [Tryz.underlying65] at hd; cases hd
  intro f hf; simp only [List.mem_cons, List.not_mem_nil, or_false] at hf
  rcases hf with rfl | rfl | rfl
  · obtain ⟨i, h, _⟩ := e9.ex; exact ⟨i, h⟩
  · obtain ⟨i, h, _⟩ := e3.ex; exact ⟨i, h⟩
  · obtain ⟨i, h, _⟩ := e3.ex; exact ⟨i, h⟩
theorem f72 : fieldsOkT Tryz.prog 72 := by
  intro d hd; rw [Tryz.underlying72] at hd; cases hd
  intro f hf; simp only [List.mem_cons, List.not_mem_nil, or_false] at hf
  rcases hf with rfl | rfl
  · obtain ⟨i, h, _⟩ := e70.ex; exact ⟨i, h⟩
  · obtain ⟨i, h, _⟩ := e51.ex; exact ⟨i, h⟩
theorem f75 : fieldsOkT Tryz.prog 75 := by
  intro d hd; rw [Tryz.underlying75] at hd; cases hd
  obtain ⟨i, h, _⟩ := e9.ex; exact ⟨i, h⟩
theorem f111 : fieldsOkT Tryz.prog 111 := by
  intro d hd; rw [Tryz.underlying111] at hd; cases hd
  intro f hf; simp only [List.mem_cons, List.not_mem_nil, or_false] at hf
  rcases hf with rfl
  · obtain ⟨i, h, _⟩ := e22.ex; exact ⟨i, h⟩
theorem f122 : fieldsOkT Tryz.prog 122 := by
  intro d hd; rw [Tryz.underlying122] at hd; cases hd
  intro f hf; simp only [List.mem_cons, List.not_mem_nil, or_false] at hf
  rcases hf with rfl | rfl | rfl
  · obtain ⟨i, h, _⟩ := e9.ex; exact ⟨i, h⟩
  · obtain ⟨i, h, _⟩ := e9.ex; exact ⟨i, h⟩
  · obtain ⟨i, h, _⟩ := e3.ex; exact ⟨i, h⟩
theorem f123 : fieldsOkT Tryz.prog 123 := by
  intro d hd; rw [Tryz.underlying123] at hd; cases hd
  intro f hf; simp only [List.mem_cons, List.not_mem_nil, or_false] at hf
  rcases hf with rfl | rfl | rfl
  · obtain ⟨i, h, _⟩ := e9.ex; exact ⟨i, h⟩
  · obtain ⟨i, h, _⟩ := e9.ex; exact ⟨i, h⟩
  · obtain ⟨i, h, _⟩ := e3.ex; exact ⟨i, h⟩
theorem f148 : fieldsOkT Tryz.prog 148 := by
  intro d hd; rw [Tryz.underlying148] at hd; cases hd
  intro f hf; simp only [List.mem_cons, List.not_mem_nil, or_false] at hf
  rcases hf with rfl | rfl | rfl
  · obtain ⟨i, h, _⟩ := e3.ex; exact ⟨i, h⟩
  · obtain ⟨i, h, _⟩ := e3.ex; exact ⟨i, h⟩
  · obtain ⟨i, h, _⟩ := e3.ex; exact ⟨i, h⟩
theorem f149 : fieldsOkT Tryz.prog 149 := by
  intro d hd; rw [Tryz.underlying149] at hd; cases hd
  intro f hf; simp only [List.mem_cons, List.not_mem_nil, or_false] at hf
  rcases hf with rfl | rfl | rfl | rfl
  · obtain ⟨i, h, _⟩ := e3.ex; exact ⟨i, h⟩
  · obtain ⟨i, h, _⟩ := e9.ex; exact ⟨i, h⟩
  · obtain ⟨i, h, _⟩ := e9.ex; exact ⟨i, h⟩
  · obtain ⟨i, h, _⟩ := e3.ex; exact ⟨i, h⟩
theorem f150 : fieldsOkT Tryz.prog 150 := by
  intro d hd; rw [Tryz.underlying150] at hd; cases hd
  intro f hf; simp only [List.mem_cons, List.not_mem_nil, or_false] at hf
  rcases hf with rfl | rfl | rfl | rfl
  · obtain ⟨i, h, _⟩ := e3.ex; exact ⟨i, h⟩
  · obtain ⟨i, h, _⟩ := e9.ex; exact ⟨i, h⟩
  · obtain ⟨i, h, _⟩ := e9.ex; exact ⟨i, h⟩
  · obtain ⟨i, h, _⟩ := e3.ex; exact ⟨i, h⟩
theorem q49 : EqT Tryz.prog 49 [.i .i64, .s, .s] := ⟨by kernel_rfl, by kernel_rfl⟩
theorem kqt49 : (EqT Tryz.prog 49 [.i .i64, .s, .s]) = True := eq_true q49
theorem k1 {K : Prop} : Chk (ElemZ Tryz.prog 1 (.nilFunc)) K = K := Chk_of e1
theorem k2 {K : Prop} : Chk (ElemZ Tryz.prog 2 (.int .i64 0)) K = K := Chk_of e2
theorem k3 {K : Prop} : Chk (ElemZ Tryz.prog 3 (.int .i64 0)) K = K := Chk_of e3
theorem ke3 : (ElemZ Tryz.prog 3 (.int .i64 0)) = True := eq_true e3
theorem k4 {K : Prop} : Chk (ElemZ Tryz.prog 4 (.bool false)) K = K := Chk_of e4
theorem ke4 : (ElemZ Tryz.prog 4 (.bool false)) = True := eq_true e4
theorem ke5 : (ElemZ Tryz.prog 5 (.int .u8 0)) = True := eq_true e5
theorem ke9 : (ElemZ Tryz.prog 9 (.string ⟨#[]⟩)) = True := eq_true e9
theorem ke24 : (ElemZ Tryz.prog 24 (.agg #[.string ⟨#[]⟩, .string ⟨#[]⟩, .int .i64 0])) = True := eq_true e24
theorem ke27 : (ElemZ Tryz.prog 27 (.agg #[.string ⟨#[]⟩, .int .i64 0])) = True := eq_true e27
theorem ke44 : (ElemZ Tryz.prog 44 (.agg #[.string ⟨#[]⟩, .bool false])) = True := eq_true e44
theorem ke49 : (ElemZ Tryz.prog 49 (.agg #[.int .i64 0, .string ⟨#[]⟩, .string ⟨#[]⟩])) = True := eq_true e49
theorem ke65 : (ElemZ Tryz.prog 65 (.agg #[.string ⟨#[]⟩, .int .i64 0, .int .i64 0])) = True := eq_true e65
theorem ke123 : (ElemZ Tryz.prog 123 (.agg #[.string ⟨#[]⟩, .string ⟨#[]⟩, .int .i64 0])) = True := eq_true e123
theorem ke124 : (ElemZ Tryz.prog 124 (.slice none 0 0)) = True := eq_true e124
theorem kt44 : (fieldsOkT Tryz.prog 44) = True := eq_true f44
theorem kt49 : (fieldsOkT Tryz.prog 49) = True := eq_true f49
theorem kt65 : (fieldsOkT Tryz.prog 65) = True := eq_true f65
theorem kt72 : (fieldsOkT Tryz.prog 72) = True := eq_true f72
theorem kt75 : (fieldsOkT Tryz.prog 75) = True := eq_true f75
theorem kt123 : (fieldsOkT Tryz.prog 123) = True := eq_true f123
theorem ky5 : Maps.Keyed Tryz.prog 5 = True := eq_true (Maps.int_keyed Tryz.underlying5)
theorem kt_5 (n : Int) : KeyT Tryz.prog 5 (.int .u8 n) = True := eq_true (.int Tryz.underlying5 n)
theorem ky9 : Maps.Keyed Tryz.prog 9 = True := eq_true (Maps.string_keyed Tryz.underlying9)
theorem kt_9 (s : List UInt8) : KeyT Tryz.prog 9 (.str s) = True := eq_true (.str Tryz.underlying9 s)
attribute [go_sem] kqt49
attribute [go_sem] Tryz.underlying0 Tryz.underlying1 Tryz.underlying2 Tryz.underlying3 Tryz.underlying4 Tryz.underlying5 Tryz.underlying6 Tryz.underlying7
attribute [go_sem] Tryz.underlying8 Tryz.underlying9 Tryz.underlying10 Tryz.underlying11 Tryz.underlying12 Tryz.underlying13 Tryz.underlying14 Tryz.underlying15 Tryz.underlying16 Tryz.underlying17 Tryz.underlying18 Tryz.underlying19
attribute [go_sem] Tryz.underlying20 Tryz.underlying21 Tryz.underlying22 Tryz.underlying23 Tryz.underlying24 Tryz.underlying25 Tryz.underlying26 Tryz.underlying27 Tryz.underlying28 Tryz.underlying29 Tryz.underlying30 Tryz.underlying31
attribute [go_sem] Tryz.underlying32 Tryz.underlying33 Tryz.underlying34 Tryz.underlying35 Tryz.underlying36 Tryz.underlying37 Tryz.underlying38 Tryz.underlying39 Tryz.underlying40 Tryz.underlying41 Tryz.underlying42 Tryz.underlying43
attribute [go_sem] Tryz.underlying44 Tryz.underlying45 Tryz.underlying46 Tryz.underlying47 Tryz.underlying48 Tryz.underlying49 Tryz.underlying50 Tryz.underlying51 Tryz.underlying52 Tryz.underlying53 Tryz.underlying54 Tryz.underlying55
attribute [go_sem] Tryz.underlying56 Tryz.underlying57 Tryz.underlying58 Tryz.underlying59 Tryz.underlying60 Tryz.underlying61 Tryz.underlying62 Tryz.underlying63 Tryz.underlying64 Tryz.underlying65 Tryz.underlying66 Tryz.underlying67
attribute [go_sem] Tryz.underlying68 Tryz.underlying69 Tryz.underlying70 Tryz.underlying71 Tryz.underlying72 Tryz.underlying73 Tryz.underlying74 Tryz.underlying75 Tryz.underlying76 Tryz.underlying77 Tryz.underlying78 Tryz.underlying79
attribute [go_sem] Tryz.underlying80 Tryz.underlying81 Tryz.underlying82 Tryz.underlying83 Tryz.underlying84 Tryz.underlying85 Tryz.underlying86 Tryz.underlying87 Tryz.underlying88 Tryz.underlying89 Tryz.underlying90 Tryz.underlying91
attribute [go_sem] Tryz.underlying92 Tryz.underlying93 Tryz.underlying94 Tryz.underlying95 Tryz.underlying96 Tryz.underlying97 Tryz.underlying98 Tryz.underlying99 Tryz.underlying100 Tryz.underlying101 Tryz.underlying102 Tryz.underlying103
attribute [go_sem] Tryz.underlying104 Tryz.underlying105 Tryz.underlying106 Tryz.underlying107 Tryz.underlying108 Tryz.underlying109 Tryz.underlying110 Tryz.underlying111 Tryz.underlying112 Tryz.underlying113 Tryz.underlying114 Tryz.underlying115
attribute [go_sem] Tryz.underlying116 Tryz.underlying117 Tryz.underlying118 Tryz.underlying119 Tryz.underlying120 Tryz.underlying121 Tryz.underlying122 Tryz.underlying123 Tryz.underlying124 Tryz.underlying125 Tryz.underlying126 Tryz.underlying127
attribute [go_sem] Tryz.underlying128 Tryz.underlying129 Tryz.underlying130 Tryz.underlying131 Tryz.underlying132 Tryz.underlying133 Tryz.underlying134 Tryz.underlying135 Tryz.underlying136 Tryz.underlying137 Tryz.underlying138 Tryz.underlying139
attribute [go_sem] Tryz.underlying140 Tryz.underlying141 Tryz.underlying142 Tryz.underlying143 Tryz.underlying144 Tryz.underlying145 Tryz.underlying146 Tryz.underlying147 Tryz.underlying148 Tryz.underlying149 Tryz.underlying150 Tryz.underlying151
attribute [go_sem] Tryz.underlying152 Tryz.underlying153 Tryz.underlying154 Tryz.underlying155 Tryz.underlying156 Tryz.underlying157 Tryz.underlying158 Tryz.underlying159 Tryz.underlying160 Tryz.underlying161 Tryz.underlying162 Tryz.underlying163
attribute [go_sem] Tryz.underlying164 Tryz.underlying165 Tryz.underlying166 Tryz.underlying167 Tryz.underlying168 Tryz.underlying169 Tryz.underlying170 Tryz.underlying171 Tryz.underlying172 Tryz.underlying173 Tryz.underlying174 Tryz.underlying175
attribute [go_sem] Tryz.underlying176 Tryz.underlying177 Tryz.underlying178 Tryz.underlying179 Tryz.underlying180 Tryz.underlying181 Tryz.underlying182 Tryz.underlying183 Tryz.underlying184 Tryz.underlying185 Tryz.underlying186 Tryz.underlying187
attribute [go_sem] Tryz.underlying188 Tryz.underlying189 Tryz.underlying190 Tryz.underlying191 Tryz.underlying192 Tryz.underlying193 Tryz.underlying194 Tryz.underlying195 Tryz.underlying196 Tryz.underlying197 Tryz.underlying198 Tryz.underlying199
attribute [go_sem] Tryz.underlying200 Tryz.underlying201 Tryz.underlying202 Tryz.underlying203 Tryz.underlying204 Tryz.underlying205 Tryz.underlying206 Tryz.underlying207 Tryz.underlying208 Tryz.underlying209 Tryz.underlying210 Tryz.underlying211
attribute [go_sem] Tryz.underlying212 Tryz.underlying213 Tryz.underlying214 Tryz.underlying215 Tryz.underlying216 k1 z1 c1 k2 z2
attribute [go_sem] c2 k3 ke3 z3 c3 k4 ke4 z4 c4 ke5 z5
attribute [go_sem] c5
attribute [go_sem] ke9 z9 c9
attribute [go_sem] ke24 z24 c24 z26
attribute [go_sem] ke27 z27 c27 c28 z29
attribute [go_sem] z32
attribute [go_sem] z35 z37
attribute [go_sem] z41 c41
attribute [go_sem] ke44 z44 c44
attribute [go_sem] ke49 z49 c49
attribute [go_sem] z51 c51 z53
attribute [go_sem] z57
attribute [go_sem] z63 z64 ke65 z65
attribute [go_sem] c65
attribute [go_sem] z70 c70
attribute [go_sem] z72
attribute [go_sem] z75 c75 z77
attribute [go_sem] c77
attribute [go_sem] c86
attribute [go_sem] z88
attribute [go_sem] ke123 z123 c123 ke124 z124
attribute [go_sem] z146
attribute [go_sem] kt44 kt49 kt65
attribute [go_sem] kt72 kt75
attribute [go_sem] kt123
attribute [go_sem] ky5 kt_5 ky9 kt_9
end Go.Fv.Y

/- Guesses, and their order: by distance, then the greater count, then the text. -/
namespace Go.Fv.Y
open Go
set_option linter.unusedSimpArgs false
set_option linter.unusedVariables false
set_option linter.unnecessarySimpa false

structure Gs where
  t : List UInt8
  d : Int
  c : Int
def Gs.av (x : Gs) : List AV := [.str x.t, .int .i64 x.d, .int .i64 x.c]
def Gs.zero : Gs := ⟨[], 0, 0⟩
instance : Inhabited Gs := ⟨Gs.zero⟩
instance : FNoId Gs.av := ⟨fun _ => rfl⟩
def gsR (l : List Gs) : RowV := .objs 3 (l.map Gs.av)
/-- Less by the keys: what the comparison of the program tells. -/
def lt0 (x y : Gs) : Prop := x.d < y.d ∨ (x.d = y.d ∧ y.c < x.c)
def ke (x y : Gs) : Prop := x.d = y.d ∧ x.c = y.c
theorem lt0_asymm {x y : Gs} (h : lt0 x y) : ¬ lt0 y x := by unfold lt0 at *; omega
theorem lt0_irrefl (x : Gs) : ¬ lt0 x x := by unfold lt0; omega
theorem lt0_ke {x y : Gs} (h : lt0 x y) : ¬ ke x y ∧ ¬ ke y x := by unfold lt0 at h; unfold ke; omega
/-- Not behind: a weak order. -/
theorem nlt_trans {x y z : Gs} (h1 : ¬ lt0 y x) (h2 : ¬ lt0 z y) : ¬ lt0 z x := by unfold lt0 at *; omega
theorem nlt_ke {x y : Gs} (h : ¬ lt0 y x) : lt0 x y ∨ ke x y := by unfold lt0 at *; unfold ke; omega
instance (x y : Gs) : Decidable (lt0 x y) := by unfold lt0; infer_instance
instance (x y : Gs) : Decidable (ke x y) := by unfold ke; infer_instance
/-- The whole order. -/
def leG (x y : Gs) : Bool := decide (lt0 x y) || (decide (ke x y) && decide (x.t ≤ y.t))
def sortG (l : List Gs) : List Gs := l.mergeSort leG
theorem leG_iff {x y : Gs} : leG x y = true ↔ lt0 x y ∨ (ke x y ∧ x.t ≤ y.t) := by
  unfold leG; simp
theorem leG_trans (a b c : Gs) (h1 : leG a b = true) (h2 : leG b c = true) : leG a c = true := by
  rw [leG_iff] at *
  rcases h1 with h1 | ⟨k1, t1⟩ <;> rcases h2 with h2 | ⟨k2, t2⟩
  · left; unfold lt0 at *; omega
  · left; unfold lt0 ke at *; omega
  · left; unfold lt0 ke at *; omega
  · right; exact ⟨by unfold ke at *; omega, List.le_trans t1 t2⟩
theorem leG_total (a b : Gs) : (leG a b || leG b a) = true := by
  rw [Bool.or_eq_true, leG_iff, leG_iff]
  by_cases h1 : lt0 a b
  · exact .inl (.inl h1)
  by_cases h2 : lt0 b a
  · exact .inr (.inl h2)
  have hk : ke a b ∧ ke b a := by unfold lt0 at *; unfold ke; omega
  rcases List.le_total a.t b.t with h | h
  · exact .inl (.inr ⟨hk.1, h⟩)
  · exact .inr (.inr ⟨hk.2, h⟩)
theorem leG_anti {a b : Gs} (h1 : leG a b = true) (h2 : leG b a = true) : a = b := by
  rw [leG_iff] at *
  rcases h1 with h1 | ⟨k1, t1⟩ <;> rcases h2 with h2 | ⟨k2, t2⟩
  · exact absurd h2 (lt0_asymm h1)
  · exact absurd k2 (lt0_ke h1).2
  · exact absurd k1 (lt0_ke h2).2
  · obtain ⟨at', ad, ac⟩ := a
    obtain ⟨bt, bd, bc⟩ := b
    have := List.le_antisymm t1 t2
    obtain ⟨e1, e2⟩ := k1
    dsimp only at *
    subst this e1 e2; rfl
theorem sortG_perm (l : List Gs) : (sortG l).Perm l := List.mergeSort_perm _ _
theorem sortG_len (l : List Gs) : (sortG l).length = l.length := (sortG_perm l).length_eq
theorem sortG_le (l : List Gs) : (sortG l).Pairwise fun x y => leG x y = true := List.pairwise_mergeSort leG_trans leG_total l
theorem sortG_eq {l l' : List Gs} (hp : l'.Perm l) (hs : l'.Pairwise fun x y => leG x y = true) : l' = sortG l :=
  List.Perm.eq_of_pairwise (fun a b _ _ h1 h2 => leG_anti h1 h2) hs (sortG_le l) (hp.trans (sortG_perm l).symm)
/-- What is of equal keys stands in the order of its texts. -/
def Stab (l : List Gs) : Prop := l.Pairwise fun x y => ke x y → x.t < y.t
def Srt (l : List Gs) : Prop := l.Pairwise fun x y => ¬ lt0 y x
theorem leG_of {x y : Gs} (h1 : ¬ lt0 y x) (h2 : ke x y → x.t < y.t) : leG x y = true := by
  rw [leG_iff]
  rcases nlt_ke h1 with h | h
  · exact .inl h
  · exact .inr ⟨h, List.le_of_lt (h2 h)⟩
theorem both_le {l : List Gs} (h1 : Srt l) (h2 : Stab l) : l.Pairwise fun x y => leG x y = true :=
  (h1.and h2).imp fun h => leG_of h.1 h.2
theorem srt_eq {l l' : List Gs} (hp : l'.Perm l) (h1 : Srt l') (h2 : Stab l') : l' = sortG l := sortG_eq hp (both_le h1 h2)
theorem nlt_of_le {x y : Gs} (h : leG x y = true) : ¬ lt0 y x := by
  rw [leG_iff] at h
  rcases h with h | ⟨h, _⟩
  · exact lt0_asymm h
  · unfold lt0 ke at *; omega
theorem sortG_srt (l : List Gs) : Srt (sortG l) := (sortG_le l).imp fun h => nlt_of_le h
/-- In an ordered list with different texts at equal keys, equal keys stand by their texts. -/
theorem stab_sort {l : List Gs} (h : Stab l) : Stab (sortG l) := by
  have hd : l.Pairwise fun x y => ke x y → x.t ≠ y.t := h.imp fun h k e => by
    have := h k
    rw [e] at this
    exact List.lt_irrefl _ this
  have hd2 : (sortG l).Pairwise fun x y => ke x y → x.t ≠ y.t := ((sortG_perm l).symm.pairwise_iff (fun {x y} h k e => h ⟨k.1.symm, k.2.symm⟩ e.symm)).1 hd
  refine ((sortG_le l).and hd2).imp fun {x y} hh k => ?_
  obtain ⟨h1, h2⟩ := hh
  rw [leG_iff] at h1
  rcases h1 with h1 | ⟨_, h1⟩
  · exact absurd k (lt0_ke h1).1
  · rcases Std.Trichotomous.rel_or_eq_or_rel_swap (r := fun a b : List UInt8 => a < b) (a := x.t) (b := y.t) with h3 | h3 | h3
    · exact h3
    · exact absurd h3 (h2 k)
    · exact absurd (List.le_antisymm h1 (List.le_of_lt h3)) (h2 k)
theorem sortG_self {l : List Gs} (h1 : Srt l) (h2 : Stab l) : sortG l = l := (srt_eq (List.Perm.refl l) h1 h2).symm
theorem gs_elem (l : List Gs) {i : Nat} (h : i < l.length) : (l.map Gs.av).getD i [] = [.str (l.getD i Gs.zero).t, .int .i64 (l.getD i Gs.zero).d, .int .i64 (l.getD i Gs.zero).c] := by
  rw [List.getD_eq_getElem?_getD, List.getElem?_map, List.getElem?_eq_getElem h, getD_lt h]; rfl
end Go.Fv.Y

/- Words with counts, as data; their order. -/
namespace Go.Fv.Y
open Go Go.Proofs
set_option linter.unusedSimpArgs false
set_option linter.unusedVariables false
set_option maxRecDepth 8000

structure Wd where
  t : List UInt8
  c : Int
deriving DecidableEq
def Wd.av (x : Wd) : List AV := [.str x.t, .int .i64 x.c]
def Wd.zero : Wd := ⟨[], 0⟩
abbrev wdR (l : List Wd) : RowV := .objs 2 (l.map Wd.av)
instance : FNoId Wd.av := ⟨fun _ => rfl⟩
theorem wd_elem (l : List Wd) {i : Nat} (h : i < l.length) : (l.map Wd.av).getD i [] = [.str (l.getD i Wd.zero).t, .int .i64 (l.getD i Wd.zero).c] := by
  rw [getD_lt (by simpa using h), getD_lt h, List.getElem_map]; rfl
theorem wd_snoc (l : List Wd) (s : List UInt8) (n : Int) : l.map Wd.av ++ [[.str s, .int .i64 n]] = (l ++ [(⟨s, n⟩ : Wd)]).map Wd.av := by simp [Wd.av]
end Go.Fv.Y

/-! A list without what comes twice, in order of the first places; and how often each is there, as a map has it. -/
namespace Go.Fv.Y
open Go
set_option linter.unusedSimpArgs false
set_option linter.unusedVariables false
set_option linter.unusedSectionVars false
section
variable {α β : Type} [DecidableEq α] [DecidableEq β]
variable {f : α → AV}
end
/-- How many places are left. -/
def left (n : Nat) (seen : List Nat) : Nat := ((List.range n).filter fun j => decide (j ∉ seen)).length
end Go.Fv.Y

/- Tokens of a text: what Split and its reference compute, in plain words. -/
namespace Go.Fv.Y
open Go
set_option linter.unusedSimpArgs false
set_option linter.unusedVariables false
set_option linter.unnecessarySimpa false

abbrev Bytes := List UInt8
/-- A letter. -/
def isL (c : UInt8) : Bool := decide (97 ≤ c.toNat) && decide (c.toNat ≤ 122) || decide (65 ≤ c.toNat) && decide (c.toNat ≤ 90) || decide (128 ≤ c.toNat)
/-- What can be in a word. -/
def inW (c : UInt8) : Bool := isL c || decide (c = 39)
def qu (c : UInt8) : Bool := decide (c = 39)
/-- The quotes before and behind are left out. -/
def preQ (t : Bytes) : Bytes := t.takeWhile qu
def dropQ (t : Bytes) : Bytes := t.dropWhile qu
def dropR (t : Bytes) : Bytes := (t.reverse.dropWhile qu).reverse
def postQ (t : Bytes) : Bytes := (t.reverse.takeWhile qu).reverse
def midQ (t : Bytes) : Bytes := dropR (dropQ t)
def isWd (s : Bytes) : Bool := decide (s ≠ []) && decide (s.length ≤ 40) && isL (s.headD 0) && isL (s.getLastD 0) && s.all inW

abbrev Tok := Bytes × Bool
/-- What is between goes out, if it is something. -/
def flush (out : List Tok) (btw : Bytes) : List Tok := if btw = [] then out else out ++ [(btw, false)]

theorem takeWhile_len_le {α : Type} (p : α → Bool) (l : List α) : (l.takeWhile p).length + (l.dropWhile p).length = l.length := by
  conv => rhs; rw [← List.takeWhile_append_dropWhile (p := p) (l := l)]
  rw [List.length_append]
theorem drop_lt {c : UInt8} {s : Bytes} (h : inW c = true) : ((c :: s).dropWhile inW).length < (c :: s).length := by
  have := takeWhile_len_le inW (c :: s)
  have h2 : 0 < ((c :: s).takeWhile inW).length := by simp [List.takeWhile_cons, h]
  omega
/-- The tokens of what is left, behind those that are there. -/
def toks (s btw : Bytes) (out : List Tok) : List Tok :=
  match s with
  | [] => flush out btw
  | c :: s' => if h : inW c = true then
      if isWd (midQ ((c :: s').takeWhile inW)) = true then
        toks ((c :: s').dropWhile inW) (postQ (dropQ ((c :: s').takeWhile inW))) (flush out (btw ++ preQ ((c :: s').takeWhile inW)) ++ [(midQ ((c :: s').takeWhile inW), true)])
      else toks ((c :: s').dropWhile inW) (btw ++ (c :: s').takeWhile inW) out
    else toks s' (btw ++ [c]) out
termination_by s.length
decreasing_by
  · exact drop_lt h
  · exact drop_lt h
  · simp

theorem toks_nil (btw : Bytes) (out : List Tok) : toks [] btw out = flush out btw := by unfold toks; rfl
theorem toks_other {c : UInt8} {s : Bytes} (h : inW c = false) (btw : Bytes) (out : List Tok) : toks (c :: s) btw out = toks s (btw ++ [c]) out := by
  rw [toks]; simp [h]
theorem toks_word {c : UInt8} {s : Bytes} (h : inW c = true) (btw : Bytes) (out : List Tok) (hw : isWd (midQ ((c :: s).takeWhile inW)) = true) :
    toks (c :: s) btw out = toks ((c :: s).dropWhile inW) (postQ (dropQ ((c :: s).takeWhile inW))) (flush out (btw ++ preQ ((c :: s).takeWhile inW)) ++ [(midQ ((c :: s).takeWhile inW), true)]) := by
  rw [toks, dif_pos h, if_pos hw]
theorem toks_row {c : UInt8} {s : Bytes} (h : inW c = true) (btw : Bytes) (out : List Tok) (hw : ¬ isWd (midQ ((c :: s).takeWhile inW)) = true) :
    toks (c :: s) btw out = toks ((c :: s).dropWhile inW) (btw ++ (c :: s).takeWhile inW) out := by
  rw [toks, dif_pos h, if_neg hw]

/-- All bytes of the tokens. -/
def textOf (l : List Tok) : Bytes := (l.map (·.1)).flatten
theorem textOf_app (a b : List Tok) : textOf (a ++ b) = textOf a ++ textOf b := by simp [textOf]
theorem textOf_flush (out : List Tok) (btw : Bytes) : textOf (flush out btw) = textOf out ++ btw := by
  unfold flush; split
  · rename_i h; simp [h]
  · simp [textOf]
theorem pre_drop (t : Bytes) : preQ t ++ dropQ t = t := List.takeWhile_append_dropWhile
theorem mid_post (t : Bytes) : dropR t ++ postQ t = t := by
  have h := List.takeWhile_append_dropWhile (p := qu) (l := t.reverse)
  have := congrArg List.reverse h
  rw [List.reverse_append, List.reverse_reverse] at this
  exact this
theorem three (t : Bytes) : preQ t ++ (midQ t ++ postQ (dropQ t)) = t := by
  unfold midQ; rw [mid_post, pre_drop]
theorem toks_text : ∀ (n : Nat) (s btw : Bytes) (out : List Tok), s.length ≤ n → textOf (toks s btw out) = textOf out ++ btw ++ s
  | 0, s, btw, out, h => by
    have : s = [] := List.eq_nil_of_length_eq_zero (by omega)
    subst this
    rw [toks_nil, textOf_flush]; simp
  | n + 1, [], btw, out, h => by rw [toks_nil, textOf_flush]; simp
  | n + 1, c :: s, btw, out, h => by
    cases hc : inW c with
    | false =>
      rw [toks_other hc, toks_text n _ _ _ (by simpa using h)]
      simp
    | true =>
      have hd := drop_lt (s := s) hc
      have hj : (c :: s).takeWhile inW ++ (c :: s).dropWhile inW = c :: s := List.takeWhile_append_dropWhile
      have h3 := three ((c :: s).takeWhile inW)
      by_cases hw : isWd (midQ ((c :: s).takeWhile inW)) = true
      · rw [toks_word hc _ _ hw, toks_text n _ _ _ (by omega), textOf_app, textOf_flush]
        have e : textOf [(midQ ((c :: s).takeWhile inW), true)] = midQ ((c :: s).takeWhile inW) := by simp [textOf]
        rw [e]
        have key := congrArg (· ++ (c :: s).dropWhile inW) h3
        simp only [List.append_assoc] at key ⊢
        rw [key, hj]
      · rw [toks_row hc _ _ hw, toks_text n _ _ _ (by omega)]
        conv => rhs; rw [← hj]
        simp only [List.append_assoc]
end Go.Fv.Y

/- Dictionaries. Plain law. -/
namespace Go.Fv.Y
open Go
set_option linter.unusedSimpArgs false
set_option linter.unusedVariables false
set_option linter.unnecessarySimpa false

/-! ### What is wrong with a list -/
def wdE (seen : List Bytes) (w : Wd) : Int := if isWd w.t = false then 2 else if w.c < 1 ∨ 1000000000 < w.c then 3 else if w.t ∈ seen then 6 else 0
def wdEs : List Bytes → List Wd → Int
  | _, [] => 0
  | seen, w :: l => if wdE seen w = 0 then wdEs (seen ++ [w.t]) l else wdE seen w
def dictErr (l : List Wd) : Int := if 5000 < l.length then 4 else wdEs [] l
theorem wdE_zero {seen : List Bytes} {w : Wd} (h : wdE seen w = 0) : isWd w.t = true ∧ (1 ≤ w.c ∧ w.c ≤ 1000000000) ∧ w.t ∉ seen := by
  unfold wdE at h
  split at h
  · cases h
  · rename_i h1
    split at h
    · cases h
    · rename_i h2
      split at h
      · cases h
      · rename_i h3
        exact ⟨by simpa using h1, by omega, h3⟩
structure GoodD (l : List Wd) : Prop where
  len : l.length ≤ 5000
  wd : ∀ w, w ∈ l → isWd w.t = true ∧ (1 ≤ w.c ∧ w.c ≤ 1000000000)
  nd : (l.map Wd.t).Nodup
theorem wdEs_zero : ∀ {l : List Wd} {seen : List Bytes}, seen.Nodup → wdEs seen l = 0 → (∀ w, w ∈ l → isWd w.t = true ∧ (1 ≤ w.c ∧ w.c ≤ 1000000000)) ∧ (seen ++ l.map Wd.t).Nodup
  | [], seen, hn, _ => ⟨fun w h => (by cases h), by simpa using hn⟩
  | w :: l, seen, hn, h => by
    unfold wdEs at h
    split at h
    · rename_i h0
      obtain ⟨h1, h2, h3⟩ := wdE_zero h0
      have hn' : (seen ++ [w.t]).Nodup := List.nodup_append.2 ⟨hn, by simp, fun a ha b hb e => h3 (by rw [List.mem_singleton.1 hb] at e; rw [← e]; exact ha)⟩
      obtain ⟨i1, i2⟩ := wdEs_zero hn' h
      refine ⟨fun x hx => ?_, by rw [List.append_assoc] at i2; exact i2⟩
      rcases List.mem_cons.1 hx with rfl | hx
      · exact ⟨h1, h2⟩
      · exact i1 x hx
    · rename_i h0
      exact absurd h h0
theorem dictErr_zero {l : List Wd} (h : dictErr l = 0) : GoodD l := by
  unfold dictErr at h
  split at h
  · cases h
  · rename_i h0
    obtain ⟨h1, h2⟩ := wdEs_zero List.nodup_nil h
    exact ⟨by omega, h1, by simpa using h2⟩
theorem wdEs_drop (l : List Wd) {i : Nat} (h : i < l.length) (s : List Bytes) : wdEs s (l.drop i) = if wdE s (l.getD i Wd.zero) = 0 then wdEs (s ++ [(l.getD i Wd.zero).t]) (l.drop (i + 1)) else wdE s (l.getD i Wd.zero) := by
  rw [List.drop_eq_getElem_cons h, wdEs, getD_lt h]
/-! ### Counts -/
def cntD (l : List Wd) (x : Bytes) : Int := match l.find? fun w => decide (w.t = x) with | some w => w.c | none => 0
theorem cntD_cons (w : Wd) (l : List Wd) (x : Bytes) : cntD (w :: l) x = if w.t = x then w.c else cntD l x := by
  unfold cntD
  rw [List.find?_cons]
  by_cases h : w.t = x
  · rw [if_pos h]; simp [h]
  · rw [if_neg h]; simp [h]
theorem cntD_mem {l : List Wd} (hn : (l.map Wd.t).Nodup) {w : Wd} (hw : w ∈ l) : cntD l w.t = w.c := by
  induction l with
  | nil => cases hw
  | cons v l ih =>
    rw [cntD_cons]
    obtain ⟨h1, h2⟩ := List.nodup_cons.1 hn
    rcases List.mem_cons.1 hw with rfl | hw
    · rw [if_pos rfl]
    · rw [if_neg (fun e => h1 (List.mem_map.2 ⟨w, hw, e.symm⟩))]
      exact ih h2 hw
theorem cntD_none {l : List Wd} {x : Bytes} (h : x ∉ l.map Wd.t) : cntD l x = 0 := by
  induction l with
  | nil => rfl
  | cons v l ih =>
    simp only [List.map_cons, List.mem_cons, not_or] at h
    rw [cntD_cons, if_neg (fun e => h.1 e.symm)]
    exact ih h.2
/-- The map of a list. -/
def dKs (l : List Wd) : List AV := (l.map Wd.t).map .str
def dVs (l : List Wd) : List AV := (l.map Wd.c).map (.int .i64)
theorem getI_d (l : List Wd) (x : Bytes) : getI (dKs l) (dVs l) (.str x) = cntD l x := by
  unfold getI getV dKs dVs
  rw [keyIdx_strs]
  induction l with
  | nil => rfl
  | cons w l ih =>
    rw [cntD_cons, List.map_cons, ixOf]
    by_cases h : w.t = x
    · rw [if_pos h, if_pos h]; rfl
    · rw [if_neg h, if_neg h, ← ih]
      cases ixOf (l.map Wd.t) x with
      | none => rfl
      | some j => simp
theorem updKs_d {l : List Wd} {w : Wd} (h : w.t ∉ l.map Wd.t) : updKs (dKs l) (.str w.t) = dKs (l ++ [w]) := by
  unfold dKs; rw [updKs_strs]; unfold insE; rw [if_neg h]; simp
theorem updVs_d {l : List Wd} {w : Wd} (h : w.t ∉ l.map Wd.t) : updVs (dKs l) (dVs l) (.str w.t) (.int .i64 w.c) = dVs (l ++ [w]) := by
  unfold updVs dKs
  rw [keyIdx_strs, ixOf_none.2 h]
  simp [dVs]
theorem isI_d (l : List Wd) : (dVs l).all (isI .i64) = true := by simp [dVs, isI]
/-! ### Words in order -/
def wsD (l : List Wd) : List Bytes := sortS (l.map Wd.t)
theorem sortS_le (l : List Bytes) : (sortS l).Pairwise fun x y => x ≤ y := by
  have h := List.pairwise_mergeSort (le := fun x y : Bytes => decide (x ≤ y)) (fun a b c h1 h2 => decide_eq_true (List.le_trans (of_decide_eq_true h1) (of_decide_eq_true h2))) (fun a b => by
    rcases List.le_total a b with h | h <;> simp [h]) l
  exact h.imp fun h => of_decide_eq_true h
end Go.Fv.Y

/- Distances of words: what the table, the script and their references compute, in plain words. -/
namespace Go.Fv.Y
open Go
set_option linter.unusedSimpArgs false
set_option linter.unusedVariables false
set_option linter.unnecessarySimpa false

structure Mx where
  f : List UInt8
  t : List UInt8
  c : Int
deriving DecidableEq
/-- A mix in one direction. -/
structure Sw where
  o : List UInt8
  n : List UInt8
  c : Int
deriving DecidableEq
structure St where
  a : Nat
  b : Nat
  c : Int
deriving DecidableEq
def swL (l : List Mx) : List Sw := l.flatMap fun m => [⟨m.f, m.t, m.c⟩, ⟨m.t, m.f, m.c⟩]
structure GoodSw (sw : List Sw) : Prop where
  o : ∀ s, s ∈ sw → s.o ≠ []
  n : ∀ s, s ∈ sw → s.n ≠ []
  ne : ∀ s, s ∈ sw → s.o ≠ s.n
  c0 : ∀ s, s ∈ sw → 0 ≤ s.c
  c1 : ∀ s, s ∈ sw → s.c ≤ 100
  sy : ∀ s, s ∈ sw → (⟨s.n, s.o, s.c⟩ : Sw) ∈ sw

def swSteps (sw : List Sw) (x y : List UInt8) : List St := (sw.filter fun s => s.o.isPrefixOf x && s.n.isPrefixOf y).map fun s => ⟨s.o.length, s.n.length, s.c⟩
/-- The steps at two places, in their order. -/
def steps (sw : List Sw) (x y : List UInt8) : List St :=
  (if x ≠ [] ∧ y ≠ [] ∧ x.headD 0 = y.headD 0 then [⟨1, 1, 0⟩] else []) ++ swSteps sw x y ++ (if x ≠ [] ∧ y ≠ [] then [⟨1, 1, 100⟩] else []) ++ (if x ≠ [] then [⟨1, 0, 100⟩] else []) ++ (if y ≠ [] then [⟨0, 1, 100⟩] else [])
def minL : List Int → Int
  | [] => 0
  | [x] => x
  | x :: y :: l => min x (minL (y :: l))
theorem minL_le : ∀ (l : List Int) (v : Int), v ∈ l → minL l ≤ v
  | [x], v, h => by simp at h; subst h; exact Int.le_refl _
  | x :: y :: l, v, h => by
    simp only [minL]
    cases List.mem_cons.1 h with
    | inl e => subst e; omega
    | inr e => have := minL_le (y :: l) v e; omega
theorem minL_mem : ∀ (l : List Int), l ≠ [] → minL l ∈ l
  | [x], _ => by simp [minL]
  | x :: y :: l, _ => by
    simp only [minL]
    have := minL_mem (y :: l) (by simp)
    rcases Int.le_total x (minL (y :: l)) with h | h
    · rw [Int.min_eq_left h]; exact .head _
    · rw [Int.min_eq_right h]; exact .tail _ this
def distF (sw : List Sw) : Nat → List UInt8 → List UInt8 → Int
  | 0, _, _ => 0
  | k + 1, x, y => minL ((steps sw x y).map fun s => s.c + distF sw k (x.drop s.a) (y.drop s.b))
def dist (sw : List Sw) (x y : List UInt8) : Int := distF sw (x.length + y.length) x y

section
variable {sw : List Sw} (hg : GoodSw sw)
theorem step_cases {x y : List UInt8} {s : St} (h : s ∈ steps sw x y) :
    (x ≠ [] ∧ y ≠ [] ∧ x.headD 0 = y.headD 0 ∧ s = ⟨1, 1, 0⟩) ∨ (∃ q, q ∈ sw ∧ q.o.isPrefixOf x = true ∧ q.n.isPrefixOf y = true ∧ s = ⟨q.o.length, q.n.length, q.c⟩) ∨ (x ≠ [] ∧ y ≠ [] ∧ s = ⟨1, 1, 100⟩) ∨ (x ≠ [] ∧ s = ⟨1, 0, 100⟩) ∨ (y ≠ [] ∧ s = ⟨0, 1, 100⟩) := by
  simp only [steps, swSteps, List.mem_append, List.mem_map, List.mem_filter, Bool.and_eq_true] at h
  rcases h with (((h | ⟨q, ⟨h1, h2, h3⟩, rfl⟩) | h) | h) | h
  · split at h
    · rename_i hc; simp at h; exact .inl ⟨hc.1, hc.2.1, hc.2.2, h⟩
    · simp at h
  · exact .inr (.inl ⟨q, h1, h2, h3, rfl⟩)
  · split at h
    · rename_i hc; simp at h; exact .inr (.inr (.inl ⟨hc.1, hc.2, h⟩))
    · simp at h
  · split at h
    · rename_i hc; simp at h; exact .inr (.inr (.inr (.inl ⟨hc, h⟩)))
    · simp at h
  · split at h
    · rename_i hc; simp at h; exact .inr (.inr (.inr (.inr ⟨hc, h⟩)))
    · simp at h
theorem pos_of_ne {x : List UInt8} (h : x ≠ []) : 1 ≤ x.length := by cases x with
  | nil => exact absurd rfl h
  | cons => simp
theorem prefix_len {o x : List UInt8} (h : o.isPrefixOf x = true) : o.length ≤ x.length := (List.isPrefixOf_iff_prefix.1 h).length_le
include hg
theorem step_bd {x y : List UInt8} {s : St} (h : s ∈ steps sw x y) : s.a ≤ x.length ∧ s.b ≤ y.length ∧ 1 ≤ s.a + s.b ∧ 0 ≤ s.c ∧ s.c ≤ 100 := by
  rcases step_cases h with ⟨h1, h2, _, rfl⟩ | ⟨q, h1, h2, h3, rfl⟩ | ⟨h1, h2, rfl⟩ | ⟨h1, rfl⟩ | ⟨h1, rfl⟩
  · exact ⟨pos_of_ne h1, pos_of_ne h2, by simp, by simp, by simp⟩
  · have := pos_of_ne (hg.o q h1)
    exact ⟨prefix_len h2, prefix_len h3, by show 1 ≤ q.o.length + q.n.length; omega, hg.c0 q h1, hg.c1 q h1⟩
  · exact ⟨pos_of_ne h1, pos_of_ne h2, by simp, by simp, by simp⟩
  · exact ⟨pos_of_ne h1, by simp, by simp, by simp, by simp⟩
  · exact ⟨by simp, pos_of_ne h1, by simp, by simp, by simp⟩
omit hg in
theorem steps_nil (ho : ∀ s, s ∈ sw → s.o ≠ []) : steps sw [] [] = [] := by
  have : swSteps sw [] [] = [] := by
    unfold swSteps
    rw [List.map_eq_nil_iff, List.filter_eq_nil_iff]
    intro s hs
    have := ho s hs
    cases hq : s.o with
    | nil => exact absurd hq this
    | cons => simp [List.isPrefixOf]
  simp [steps, this]
theorem distF_fuel : ∀ (k : Nat) (x y : List UInt8), x.length + y.length ≤ k → distF sw k x y = dist sw x y
  | 0, x, y, h => by
    have e : x.length + y.length = 0 := by omega
    unfold dist; rw [e]
  | k + 1, x, y, h => by
    unfold dist
    cases hn : x.length + y.length with
    | zero =>
      have hx : x = [] := List.eq_nil_of_length_eq_zero (by omega)
      have hy : y = [] := List.eq_nil_of_length_eq_zero (by omega)
      subst hx; subst hy
      simp [distF, steps_nil hg.o, minL]
    | succ m =>
      simp only [distF]
      congr 1
      refine List.map_congr_left fun s hs => ?_
      have hb := step_bd hg hs
      have hl : (x.drop s.a).length + (y.drop s.b).length + (s.a + s.b) = x.length + y.length := by simp; omega
      rw [distF_fuel k _ _ (by omega), distF_fuel m _ _ (by omega)]
theorem dist_eq {x y : List UInt8} (h : ¬ (x = [] ∧ y = [])) : dist sw x y = minL ((steps sw x y).map fun s => s.c + dist sw (x.drop s.a) (y.drop s.b)) := by
  conv => lhs; unfold dist
  cases hn : x.length + y.length with
  | zero =>
    have hx : x = [] := List.eq_nil_of_length_eq_zero (by omega)
    have hy : y = [] := List.eq_nil_of_length_eq_zero (by omega)
    exact absurd ⟨hx, hy⟩ h
  | succ m =>
    simp only [distF]
    congr 1
    refine List.map_congr_left fun s hs => ?_
    have hb := step_bd hg hs
    have hl : (x.drop s.a).length + (y.drop s.b).length + (s.a + s.b) = x.length + y.length := by simp; omega
    rw [distF_fuel hg m _ _ (by omega)]
omit hg in
theorem dist_nil : dist sw [] [] = 0 := rfl
omit hg in
theorem steps_ne {x y : List UInt8} (h : ¬ (x = [] ∧ y = [])) : steps sw x y ≠ [] := by
  intro e
  by_cases hx : x = []
  · have hy : y ≠ [] := fun e => h ⟨hx, e⟩
    have : (⟨0, 1, 100⟩ : St) ∈ steps sw x y := by simp [steps, hy]
    rw [e] at this; simp at this
  · have : (⟨1, 0, 100⟩ : St) ∈ steps sw x y := by simp [steps, hx]
    rw [e] at this; simp at this
omit hg in
theorem steps_eq {x y : List UInt8} (h1 : x ≠ []) (h2 : y ≠ []) (h3 : x.headD 0 = y.headD 0) : (⟨1, 1, 0⟩ : St) ∈ steps sw x y := by
  have : (⟨1, 1, 0⟩ : St) ∈ (if x ≠ [] ∧ y ≠ [] ∧ x.headD 0 = y.headD 0 then [(⟨1, 1, 0⟩ : St)] else []) := by rw [if_pos ⟨h1, h2, h3⟩]; simp
  unfold steps
  simp only [List.mem_append]
  exact .inl (.inl (.inl (.inl this)))
/-- The distance is not more than by any step. -/
theorem dist_le {x y : List UInt8} {s : St} (h : s ∈ steps sw x y) : dist sw x y ≤ s.c + dist sw (x.drop s.a) (y.drop s.b) := by
  have hne : ¬ (x = [] ∧ y = []) := by
    rintro ⟨rfl, rfl⟩
    rw [steps_nil hg.o] at h; simp at h
  rw [dist_eq hg hne]
  exact minL_le _ _ (List.mem_map.2 ⟨s, h, rfl⟩)
theorem dist_step {x y : List UInt8} (h : ¬ (x = [] ∧ y = [])) : ∃ s, s ∈ steps sw x y ∧ s.c + dist sw (x.drop s.a) (y.drop s.b) = dist sw x y := by
  have := minL_mem ((steps sw x y).map fun s => s.c + dist sw (x.drop s.a) (y.drop s.b)) (by simpa using steps_ne h)
  rw [← dist_eq hg h] at this
  obtain ⟨s, hs, he⟩ := List.mem_map.1 this
  exact ⟨s, hs, he⟩
theorem dist_bd : ∀ (k : Nat) (x y : List UInt8), x.length + y.length ≤ k → 0 ≤ dist sw x y ∧ dist sw x y ≤ 100 * (x.length + y.length : Nat)
  | 0, x, y, h => by
    have hx : x = [] := List.eq_nil_of_length_eq_zero (by omega)
    have hy : y = [] := List.eq_nil_of_length_eq_zero (by omega)
    subst hx; subst hy
    simp [dist_nil]
  | k + 1, x, y, h => by
    by_cases hne : x = [] ∧ y = []
    · obtain ⟨rfl, rfl⟩ := hne; simp [dist_nil]
    · obtain ⟨s, hs, he⟩ := dist_step hg hne
      have hb := step_bd hg hs
      have hl : (x.drop s.a).length + (y.drop s.b).length + (s.a + s.b) = x.length + y.length := by simp; omega
      have ih := dist_bd k (x.drop s.a) (y.drop s.b) (by omega)
      refine ⟨by omega, ?_⟩
      have h1 : (∃ s, s ∈ steps sw x y ∧ (s = ⟨1, 0, 100⟩ ∨ s = ⟨0, 1, 100⟩)) := by
        by_cases hx : x = []
        · have hy : y ≠ [] := fun e => hne ⟨hx, e⟩
          exact ⟨⟨0, 1, 100⟩, by simp [steps, hy], .inr rfl⟩
        · exact ⟨⟨1, 0, 100⟩, by simp [steps, hx], .inl rfl⟩
      obtain ⟨q, hq, hq2⟩ := h1
      have hle := dist_le hg hq
      have hb2 := step_bd hg hq
      have hl2 : (x.drop q.a).length + (y.drop q.b).length + (q.a + q.b) = x.length + y.length := by simp; omega
      have ih2 := dist_bd k (x.drop q.a) (y.drop q.b) (by omega)
      have hc : q.c = 100 ∧ q.a + q.b = 1 := by rcases hq2 with rfl | rfl <;> exact ⟨rfl, rfl⟩
      omega
theorem dist_left (y : List UInt8) : dist sw [] y = 100 * (y.length : Int) := by
  induction y with
  | nil => rfl
  | cons c y ih =>
    have hsw : swSteps sw [] (c :: y) = [] := by
      unfold swSteps
      rw [List.map_eq_nil_iff, List.filter_eq_nil_iff]
      intro s hs
      have := hg.o s hs
      cases hq : s.o with
      | nil => exact absurd hq this
      | cons => simp [List.isPrefixOf]
    rw [dist_eq hg (by simp)]
    simp [steps, hsw, minL, ih]
    omega
theorem dist_right (x : List UInt8) : dist sw x [] = 100 * (x.length : Int) := by
  induction x with
  | nil => rfl
  | cons c x ih =>
    have hsw : swSteps sw (c :: x) [] = [] := by
      unfold swSteps
      rw [List.map_eq_nil_iff, List.filter_eq_nil_iff]
      intro s hs
      have := hg.n s hs
      cases hq : s.n with
      | nil => exact absurd hq this
      | cons => simp [List.isPrefixOf]
    rw [dist_eq hg (by simp)]
    simp [steps, hsw, minL, ih]
    omega
end

/-! ### The script -/
structure Sl where
  at_ : Nat
  o : List UInt8
  n : List UInt8
  c : Int
deriving DecidableEq
def pick (sw : List Sw) (x y : List UInt8) : St := ((steps sw x y).find? fun s => decide (s.c + dist sw (x.drop s.a) (y.drop s.b) = dist sw x y)).getD ⟨0, 1, 100⟩
section
variable {sw : List Sw} (hg : GoodSw sw)
include hg
end
end Go.Fv.Y

/- Lists of mixes: what is wrong with them, in plain words. -/
namespace Go.Fv.Y
open Go
set_option linter.unusedSimpArgs false
set_option linter.unusedVariables false
set_option linter.unnecessarySimpa false

def partOk (s : List UInt8) : Bool := decide (1 ≤ s.length) && decide (s.length ≤ 3)
abbrev Key := List UInt8 × List UInt8
def Mx.key (m : Mx) : Key := (m.f, m.t)
def mixE (seen : List Key) (m : Mx) : Int :=
  if partOk m.f = false ∨ partOk m.t = false ∨ m.f = m.t then 2 else if m.c < 0 ∨ 100 < m.c then 3 else if m.key ∈ seen then 6 else 0
def mixEs (seen : List Key) : List Mx → Int
  | [] => 0
  | m :: l => if mixE seen m = 0 then mixEs (seen ++ [m.key]) l else mixE seen m
def mixErr (l : List Mx) : Int := if 200 < l.length then 4 else mixEs [] l
theorem mixE_zero {seen : List Key} {m : Mx} (h : mixE seen m = 0) : partOk m.f = true ∧ partOk m.t = true ∧ m.f ≠ m.t ∧ 0 ≤ m.c ∧ m.c ≤ 100 ∧ m.key ∉ seen := by
  unfold mixE at h
  split at h
  · omega
  · rename_i h1
    split at h
    · omega
    · rename_i h2
      split at h
      · omega
      · rename_i h3
        simp only [not_or, Bool.not_eq_false] at h1
        exact ⟨h1.1, h1.2.1, h1.2.2, by omega, by omega, h3⟩
theorem mixEs_zero : ∀ {l : List Mx} {seen : List Key}, mixEs seen l = 0 → ∀ m, m ∈ l → partOk m.f = true ∧ partOk m.t = true ∧ m.f ≠ m.t ∧ 0 ≤ m.c ∧ m.c ≤ 100
  | x :: l, seen, h, m, hm => by
    simp only [mixEs] at h
    split at h
    · rename_i h1
      cases List.mem_cons.1 hm with
      | inl e => subst e; have := mixE_zero h1; exact ⟨this.1, this.2.1, this.2.2.1, this.2.2.2.1, this.2.2.2.2.1⟩
      | inr e => exact mixEs_zero h m e
    · rename_i h1; exact absurd h h1
theorem mixErr_zero {l : List Mx} (h : mixErr l = 0) : l.length ≤ 200 ∧ ∀ m, m ∈ l → partOk m.f = true ∧ partOk m.t = true ∧ m.f ≠ m.t ∧ 0 ≤ m.c ∧ m.c ≤ 100 := by
  unfold mixErr at h
  split at h
  · omega
  · rename_i h1; exact ⟨by omega, mixEs_zero h⟩
theorem mem_swL {l : List Mx} {s : Sw} : s ∈ swL l ↔ ∃ m, m ∈ l ∧ (s = ⟨m.f, m.t, m.c⟩ ∨ s = ⟨m.t, m.f, m.c⟩) := by
  simp [swL, List.mem_flatMap]
theorem part_ne {s : List UInt8} (h : partOk s = true) : s ≠ [] := by
  rintro rfl; simp [partOk] at h
theorem part_len {s : List UInt8} (h : partOk s = true) : 1 ≤ s.length ∧ s.length ≤ 3 := by simpa [partOk] using h
theorem good_swL {l : List Mx} (h : ∀ m, m ∈ l → partOk m.f = true ∧ partOk m.t = true ∧ m.f ≠ m.t ∧ 0 ≤ m.c ∧ m.c ≤ 100) : GoodSw (swL l) := by
  have key : ∀ s, s ∈ swL l → s.o ≠ [] ∧ s.n ≠ [] ∧ s.o ≠ s.n ∧ 0 ≤ s.c ∧ s.c ≤ 100 ∧ (⟨s.n, s.o, s.c⟩ : Sw) ∈ swL l := by
    intro s hs
    obtain ⟨m, hm, hq⟩ := mem_swL.1 hs
    obtain ⟨h1, h2, h3, h4, h5⟩ := h m hm
    rcases hq with rfl | rfl
    · exact ⟨part_ne h1, part_ne h2, h3, h4, h5, mem_swL.2 ⟨m, hm, .inr rfl⟩⟩
    · exact ⟨part_ne h2, part_ne h1, fun e => h3 e.symm, h4, h5, mem_swL.2 ⟨m, hm, .inl rfl⟩⟩
  exact ⟨fun s hs => (key s hs).1, fun s hs => (key s hs).2.1, fun s hs => (key s hs).2.2.1, fun s hs => (key s hs).2.2.2.1, fun s hs => (key s hs).2.2.2.2.1, fun s hs => (key s hs).2.2.2.2.2⟩
end Go.Fv.Y

/- Swaps by the first byte of what is old, in plain words. -/
namespace Go.Fv.Y
open Go
set_option linter.unusedSimpArgs false
set_option linter.unusedVariables false
set_option linter.unnecessarySimpa false

def Sw.zero : Sw := ⟨[], [], 0⟩
def Sw.av (s : Sw) : List AV := [.str s.o, .str s.n, .int .i64 s.c]
def sws (l : List Sw) : RowV := .objs 3 (l.map Sw.av)
instance : FNoId Sw.av := ⟨fun _ => rfl⟩
instance {l : List Sw} : RowNoId (sws l) := inferInstanceAs (RowNoId (.objs 3 (l.map Sw.av)))
abbrev KG := List (UInt8 × List Sw)
def kgK (kg : KG) : List UInt8 := kg.map (·.1)
def kgIns (kg : KG) (s : Sw) : KG := match ixOf (kgK kg) (s.o.getD 0 0) with
  | some j => kg.set j (s.o.getD 0 0, (kg.getD j (0, [])).2 ++ [s])
  | none => kg ++ [(s.o.getD 0 0, [s])]
def grp (kg : KG) : List Sw → KG
  | [] => kg
  | s :: l => grp (kgIns kg s) l
theorem grp_snoc : ∀ (l : List Sw) (kg : KG) (s : Sw), grp kg (l ++ [s]) = kgIns (grp kg l) s
  | [], kg, s => rfl
  | x :: l, kg, s => by simp only [List.cons_append, grp]; exact grp_snoc l _ s
/-- What stands under a byte. -/
def under (l : List Sw) (c : UInt8) : List Sw := l.filter fun s => decide (s.o.getD 0 0 = c)
theorem under_snoc (l : List Sw) (s : Sw) (c : UInt8) : under (l ++ [s]) c = if s.o.getD 0 0 = c then under l c ++ [s] else under l c := by
  unfold under
  rw [List.filter_append]
  split <;> simp_all
structure GrpOk (kg : KG) (l : List Sw) : Prop where
  some : ∀ c j, ixOf (kgK kg) c = some j → ∃ h : j < kg.length, kg[j].2 = under l c
  none : ∀ c, ixOf (kgK kg) c = none → under l c = []
  len : kg.length ≤ l.length
theorem kgK_len (kg : KG) : (kgK kg).length = kg.length := by simp [kgK]
theorem ixOf_lt {α : Type} [DecidableEq α] {l : List α} {x : α} {j : Nat} (h : ixOf l x = some j) : j < l.length := (List.getElem?_eq_some_iff.1 (ixOf_some h)).1
theorem ixOf_app {α : Type} [DecidableEq α] (x y : α) : ∀ l : List α, ixOf (l ++ [y]) x = match ixOf l x with | some j => some j | none => if y = x then some l.length else none
  | [] => by simp [ixOf]
  | z :: l => by
    simp only [List.cons_append, ixOf, ixOf_app x y l]
    split
    · rfl
    · cases h : ixOf l x with
      | some j => simp
      | none =>
        simp only [Option.map_none]
        split
        · simp
        · simp
theorem kgK_set (kg : KG) (j : Nat) (c : UInt8) (r : List Sw) (h : (kgK kg)[j]? = some c) : kgK (kg.set j (c, r)) = kgK kg := by
  unfold kgK at *
  rw [List.map_set]
  obtain ⟨hj, he⟩ := List.getElem?_eq_some_iff.1 h
  conv => rhs; rw [← List.set_getElem_self hj]
  rw [he]
theorem grp_ok {kg : KG} {l : List Sw} (h : GrpOk kg l) (s : Sw) : GrpOk (kgIns kg s) (l ++ [s]) := by
  unfold kgIns
  cases hx : ixOf (kgK kg) (s.o.getD 0 0) with
  | some j =>
    obtain ⟨hj, he⟩ := h.some _ _ hx
    have hk := kgK_set kg j (s.o.getD 0 0) ((kg.getD j (0, [])).2 ++ [s]) (ixOf_some hx)
    refine ⟨fun c i hi => ?_, fun c hc => ?_, by simp; have := h.len; omega⟩
    · rw [hk] at hi
      obtain ⟨h1, h2⟩ := h.some c i hi
      refine ⟨by simpa using h1, ?_⟩
      rw [under_snoc, List.getElem_set]
      by_cases e : j = i
      · subst e
        have hc : s.o.getD 0 0 = c := by
          have e1 := ixOf_some hx
          have e2 := ixOf_some hi
          rw [e1] at e2; exact Option.some.inj e2
        rw [if_pos rfl, if_pos hc, getD_lt hj, he, hc]
      · rw [if_neg e, if_neg, h2]
        intro hc
        rw [hc] at hx
        rw [hx] at hi
        exact e (Option.some.inj hi)
    · rw [hk] at hc
      rw [under_snoc, if_neg, h.none c hc]
      intro e; rw [e] at hx; rw [hx] at hc; cases hc
  | none =>
    have hk : kgK (kg ++ [(s.o.getD 0 0, [s])]) = kgK kg ++ [s.o.getD 0 0] := by simp [kgK]
    refine ⟨fun c i hi => ?_, fun c hc => ?_, by simp; exact h.len⟩
    · rw [hk, ixOf_app] at hi
      cases hq : ixOf (kgK kg) c with
      | some j =>
        rw [hq] at hi; cases hi
        obtain ⟨h1, h2⟩ := h.some c _ hq
        refine ⟨by simp; omega, ?_⟩
        rw [under_snoc, if_neg, List.getElem_append_left h1, h2]
        intro e; rw [e, hq] at hx; cases hx
      | none =>
        rw [hq] at hi
        dsimp only at hi
        split at hi
        · rename_i e
          cases hi
          refine ⟨by simp [kgK_len], ?_⟩
          rw [under_snoc, if_pos e, h.none c hq]
          simp [kgK_len]
        · cases hi
    · rw [hk, ixOf_app] at hc
      cases hq : ixOf (kgK kg) c with
      | some j => rw [hq] at hc; cases hc
      | none =>
        rw [hq] at hc
        dsimp only at hc
        split at hc
        · cases hc
        · rename_i e; rw [under_snoc, if_neg e, h.none c hq]
theorem grp_nil : GrpOk [] [] := ⟨fun c j h => by simp [kgK, ixOf] at h, fun c _ => rfl, Nat.le_refl _⟩
theorem grp_all : ∀ (l : List Sw) (kg : KG) (l0 : List Sw), GrpOk kg l0 → GrpOk (grp kg l) (l0 ++ l)
  | [], kg, l0, h => by simpa [grp] using h
  | s :: l, kg, l0, h => by
    have := grp_all l _ _ (grp_ok h s)
    simpa [grp] using this
theorem grp_is (l : List Sw) : GrpOk (grp [] l) l := by simpa using grp_all l [] [] grp_nil
theorem under_len (l : List Sw) (c : UInt8) : (under l c).length ≤ l.length := List.length_filter_le _ _
theorem swL_len (l : List Mx) : (swL l).length = 2 * l.length := by
  induction l with
  | nil => rfl
  | cons m l ih => simp [swL] at ih ⊢; omega
theorem swL_take (l : List Mx) {i : Nat} (h : i < l.length) (z : Mx) : swL (l.take (i + 1)) = swL (l.take i) ++ [⟨(l.getD i z).f, (l.getD i z).t, (l.getD i z).c⟩, ⟨(l.getD i z).t, (l.getD i z).f, (l.getD i z).c⟩] := by
  unfold swL
  rw [List.take_succ_eq_append_getElem h, getD_lt h, List.flatMap_append]
  simp only [List.flatMap_cons, List.flatMap_nil, List.append_nil]
/-- The map, where its rows are owned, and where they are lent. -/
def kB (c : UInt8) : AV := .int .u8 c.toNat
theorem eqKeyB (a b : UInt8) : eqKey (kB a) (kB b) = decide (a = b) := by
  simp only [kB, eqKey, true_and]
  congr 1
  apply propext
  constructor
  · intro h; apply UInt8.toNat_inj.1; omega
  · rintro rfl; rfl
def kgKs (kg : KG) : List AV := (kgK kg).map kB
def kgVs (kg : KG) : List AV := kg.map fun p => .ro (sws p.2)
theorem getV_own (kg : KG) (b : Nat) (c : UInt8) : getV (kgKs kg) (famN b kg.length) (kB c) = match ixOf (kgK kg) c with | some j => some (.own (j + b)) | none => none := by
  unfold getV kgKs
  rw [keyIdx_map eqKeyB]
  cases h : ixOf (kgK kg) c with
  | none => rfl
  | some j =>
    have := ixOf_lt h
    rw [kgK_len] at this
    simp [famN_get this]
theorem getV_ro (kg : KG) (c : UInt8) : getV (kgKs kg) (kgVs kg) (kB c) = match ixOf (kgK kg) c with | some j => some (.ro (sws (kg.getD j (0, [])).2)) | none => none := by
  unfold getV kgKs kgVs
  rw [keyIdx_map eqKeyB]
  cases h : ixOf (kgK kg) c with
  | none => rfl
  | some j =>
    have := ixOf_lt h
    rw [kgK_len] at this
    simp [getD_lt this, this]
end Go.Fv.Y

/- The table of distances, in plain words. -/
namespace Go.Fv.Y
open Go
set_option linter.unusedSimpArgs false
set_option linter.unusedVariables false
set_option linter.unnecessarySimpa false

def cellD (sw : List Sw) (a b : List UInt8) (k : Nat) : Int := dist sw (a.drop (k / (b.length + 1))) (b.drop (k % (b.length + 1)))
def tab (sw : List Sw) (a b : List UInt8) (p : Nat) : List Int := (List.range ((a.length + 1) * (b.length + 1))).map fun k => if p ≤ k then cellD sw a b k else 0
theorem tab_len (sw : List Sw) (a b : List UInt8) (p : Nat) : (tab sw a b p).length = (a.length + 1) * (b.length + 1) := by simp [tab]
theorem tab_get {sw : List Sw} {a b : List UInt8} {p k : Nat} (h : k < (a.length + 1) * (b.length + 1)) (hp : p ≤ k) : (tab sw a b p).getD k 0 = cellD sw a b k := by
  rw [getD_lt (by rw [tab_len]; exact h)]
  simp [tab, hp]
theorem tab_all (sw : List Sw) (a b : List UInt8) : tab sw a b ((a.length + 1) * (b.length + 1)) = List.replicate ((a.length + 1) * (b.length + 1)) 0 := by
  refine List.ext_getElem (by simp [tab]) fun i h1 h2 => ?_
  simp only [tab, List.length_map, List.length_range] at h1
  simp [tab]; omega
theorem tab_set {sw : List Sw} {a b : List UInt8} {p : Nat} {v : Int} (hv : v = cellD sw a b p) : (tab sw a b (p + 1)).set p v = tab sw a b p := by
  refine List.ext_getElem (by simp [tab]) fun i h1 h2 => ?_
  rw [List.getElem_set]
  split
  · rename_i e; subst e; simp [tab, hv]
  · rename_i e
    simp only [tab, List.getElem_map, List.getElem_range]
    by_cases h : p ≤ i
    · rw [if_pos (by omega), if_pos h]
    · rw [if_neg (by omega), if_neg h]
theorem cellD_at (sw : List Sw) (a b : List UInt8) {i j : Nat} (h : j < b.length + 1) : cellD sw a b (i * (b.length + 1) + j) = dist sw (a.drop i) (b.drop j) := by
  unfold cellD
  have h1 : (i * (b.length + 1) + j) / (b.length + 1) = i := by
    rw [Nat.mul_comm, Nat.mul_add_div (by omega), Nat.div_eq_of_lt h, Nat.add_zero]
  have h2 : (i * (b.length + 1) + j) % (b.length + 1) = j := by
    rw [Nat.mul_comm, Nat.mul_add_mod, Nat.mod_eq_of_lt h]
  rw [h1, h2]

/-- The least of some values, those that fit. -/
def minF (f : Sw → Bool) (g : Sw → Int) : Int → List Sw → Int
  | b, [] => b
  | b, s :: l => minF f g (if f s then min b (g s) else b) l
theorem minF_le (f : Sw → Bool) (g : Sw → Int) : ∀ (l : List Sw) (b : Int), minF f g b l ≤ b ∧ ∀ s, s ∈ l → f s = true → minF f g b l ≤ g s
  | [], b => ⟨Int.le_refl _, fun s h => by cases h⟩
  | x :: l, b => by
    obtain ⟨h1, h2⟩ := minF_le f g l (if f x then min b (g x) else b)
    simp only [minF]
    refine ⟨?_, fun s hs hf => ?_⟩
    · by_cases hf : f x = true
      · rw [if_pos hf] at *; omega
      · rw [if_neg hf] at *; omega
    · cases List.mem_cons.1 hs with
      | inl e => subst e; rw [if_pos hf] at *; omega
      | inr e => exact h2 s e hf
theorem minF_mem (f : Sw → Bool) (g : Sw → Int) : ∀ (l : List Sw) (b : Int), minF f g b l = b ∨ ∃ s, s ∈ l ∧ f s = true ∧ minF f g b l = g s
  | [], b => .inl rfl
  | x :: l, b => by
    simp only [minF]
    rcases minF_mem f g l (if f x then min b (g x) else b) with h | ⟨s, h1, h2, h3⟩
    · split at h
      · rename_i hf
        rcases Int.le_total b (g x) with hle | hle
        · rw [Int.min_eq_left hle] at h; left; rw [if_pos hf, Int.min_eq_left hle]; exact h
        · rw [Int.min_eq_right hle] at h; right; exact ⟨x, .head _, hf, by rw [if_pos hf, Int.min_eq_right hle]; exact h⟩
      · rename_i hf; left; rw [if_neg hf]; exact h
    · exact .inr ⟨s, .tail _ h1, h2, h3⟩
def fits (x y : List UInt8) (s : Sw) : Bool := s.o.isPrefixOf x && s.n.isPrefixOf y
def by_ (sw : List Sw) (x y : List UInt8) (s : Sw) : Int := s.c + dist sw (x.drop s.o.length) (y.drop s.n.length)
theorem pre_head {o x : List UInt8} (ho : o ≠ []) (h : o.isPrefixOf x = true) : o.getD 0 0 = x.getD 0 0 := by
  obtain ⟨z, rfl⟩ := List.isPrefixOf_iff_prefix.1 h
  cases o with
  | nil => exact absurd rfl ho
  | cons c o => rfl
theorem dist_prog {sw : List Sw} (hg : GoodSw sw) {x y : List UInt8} (hx : x ≠ []) (hy : y ≠ []) :
    minF (fits x y) (by_ sw x y) (if x.getD 0 0 = y.getD 0 0 then min (100 + min (min (dist sw (x.drop 1) (y.drop 1)) (dist sw (x.drop 1) y)) (dist sw x (y.drop 1))) (dist sw (x.drop 1) (y.drop 1)) else 100 + min (min (dist sw (x.drop 1) (y.drop 1)) (dist sw (x.drop 1) y)) (dist sw x (y.drop 1))) (under sw (x.getD 0 0)) = dist sw x y := by
  have hd : ∀ l : List UInt8, l.headD 0 = l.getD 0 0 := fun l => by cases l <;> rfl
  have h11 := dist_le hg (x := x) (y := y) (s := ⟨1, 1, 100⟩) (by simp [steps, hx, hy])
  have h10 := dist_le hg (x := x) (y := y) (s := ⟨1, 0, 100⟩) (by simp [steps, hx])
  have h01 := dist_le hg (x := x) (y := y) (s := ⟨0, 1, 100⟩) (by simp [steps, hy])
  simp only [List.drop_zero] at h10 h01 h11
  have hsw : ∀ s, s ∈ sw → fits x y s = true → (⟨s.o.length, s.n.length, s.c⟩ : St) ∈ steps sw x y := by
    intro s hs hf
    simp only [fits] at hf
    have : (⟨s.o.length, s.n.length, s.c⟩ : St) ∈ swSteps sw x y := List.mem_map.2 ⟨s, List.mem_filter.2 ⟨hs, hf⟩, rfl⟩
    simp [steps, this]
  generalize hb0 : (if x.getD 0 0 = y.getD 0 0 then min (100 + min (min (dist sw (x.drop 1) (y.drop 1)) (dist sw (x.drop 1) y)) (dist sw x (y.drop 1))) (dist sw (x.drop 1) (y.drop 1)) else 100 + min (min (dist sw (x.drop 1) (y.drop 1)) (dist sw (x.drop 1) y)) (dist sw x (y.drop 1))) = b0
  obtain ⟨m1, m2⟩ := minF_le (fits x y) (by_ sw x y) (under sw (x.getD 0 0)) b0
  have hge : dist sw x y ≤ b0 := by
    rw [← hb0]
    split
    · rename_i e
      have := dist_le hg (steps_eq (sw := sw) hx hy (by rw [hd, hd]; exact e))
      simp only at this
      omega
    · omega
  have hle : minF (fits x y) (by_ sw x y) b0 (under sw (x.getD 0 0)) ≤ dist sw x y := by
    obtain ⟨s, hs, he⟩ := dist_step hg (x := x) (y := y) (fun e => hx e.1)
    rcases step_cases hs with ⟨h1, h2, h3, rfl⟩ | ⟨q, h1, h2, h3, rfl⟩ | ⟨h1, h2, rfl⟩ | ⟨h1, rfl⟩ | ⟨h1, rfl⟩
    · rw [hd, hd] at h3
      rw [if_pos h3] at hb0
      simp only at he
      omega
    · have hq : q ∈ under sw (x.getD 0 0) := List.mem_filter.2 ⟨h1, by simpa using pre_head (hg.o q h1) h2⟩
      have := m2 q hq (by simp [fits, h2, h3])
      simp only [by_] at this
      simp only at he
      omega
    · simp only at he
      have : b0 ≤ 100 + dist sw (x.drop 1) (y.drop 1) := by rw [← hb0]; split <;> omega
      omega
    · simp only [List.drop_zero] at he
      have : b0 ≤ 100 + dist sw (x.drop 1) y := by rw [← hb0]; split <;> omega
      omega
    · simp only [List.drop_zero] at he
      have : b0 ≤ 100 + dist sw x (y.drop 1) := by rw [← hb0]; split <;> omega
      omega
  rcases minF_mem (fits x y) (by_ sw x y) (under sw (x.getD 0 0)) b0 with h | ⟨s, h1, h2, h3⟩
  · omega
  · have := dist_le hg (hsw s (List.mem_filter.1 h1).1 h2)
    simp only [by_] at h3
    simp only at this
    omega
end Go.Fv.Y

/- The first step of a script, in plain words. -/
namespace Go.Fv.Y
open Go
set_option linter.unusedSimpArgs false
set_option linter.unusedVariables false
set_option linter.unnecessarySimpa false

end Go.Fv.Y
