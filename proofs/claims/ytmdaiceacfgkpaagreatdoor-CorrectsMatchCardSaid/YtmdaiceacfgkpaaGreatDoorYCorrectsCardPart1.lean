/-
  A part of the proof of the claim: walks over the program's functions and the plain laws that these need. No condition of its own.
-/
import Derived.Test.YtmdaiceacfgkpaaGreatDoorFvPart10
import Derived.Test.YtmdaiceacfgkpaaGreatDoorProg
import Derived.Test.YtmdaiceacfgkpaaGreatDoorFvPart11
import Derived.Lib.Bytealg
import Derived.Test.YtmdaiceacfgkpaaGreatDoorFvPart9
/- Facts about the program's types: each shown by reckoning it out. -/
namespace Go.Fv.Y
open Go Go.Proofs
theorem e1 : ElemZ Tryz.prog 1 (.nilFunc) := .of (by kernel_rfl) (by kernel_rfl)
theorem z1 : zeroOf Tryz.prog 1 = some (.nilFunc) := e1.zero
theorem c1 : Tryz.prog.cellsOf 1 = 1 := e1.cellsOf
theorem e2 : ElemZ Tryz.prog 2 (.int .i64 0) := .of (by kernel_rfl) (by kernel_rfl)
theorem z2 : zeroOf Tryz.prog 2 = some (.int .i64 0) := e2.zero
theorem c2 : Tryz.prog.cellsOf 2 = 1 := e2.cellsOf
theorem e3 : ElemZ Tryz.prog 3 (.int .i64 0) := .of (by kernel_rfl) (by kernel_rfl)
theorem z3 : zeroOf Tryz.prog 3 = some (.int .i64 0) := e3.zero
theorem c3 : Tryz.prog.cellsOf 3 = 1 := e3.cellsOf
theorem e4 : ElemZ Tryz.prog 4 (.bool false) := .of (by kernel_rfl) (by kernel_rfl)
theorem z4 : zeroOf Tryz.prog 4 = some (.bool false) := e4.zero
theorem c4 : Tryz.prog.cellsOf 4 = 1 := e4.cellsOf
theorem e5 : ElemZ Tryz.prog 5 (.int .u8 0) := .of (by kernel_rfl) (by kernel_rfl)
theorem z5 : zeroOf Tryz.prog 5 = some (.int .u8 0) := e5.zero
theorem c5 : Tryz.prog.cellsOf 5 = 1 := e5.cellsOf
theorem e6 : ElemZ Tryz.prog 6 (.int .u8 0) := .of (by kernel_rfl) (by kernel_rfl)
theorem e9 : ElemZ Tryz.prog 9 (.string ⟨#[]⟩) := .of (by kernel_rfl) (by kernel_rfl)
theorem z9 : zeroOf Tryz.prog 9 = some (.string ⟨#[]⟩) := e9.zero
theorem c9 : Tryz.prog.cellsOf 9 = 1 := e9.cellsOf
theorem e12 : ElemZ Tryz.prog 12 (.int .u64 0) := .of (by kernel_rfl) (by kernel_rfl)
theorem e17 : ElemZ Tryz.prog 17 (.pointer none) := .of (by kernel_rfl) (by kernel_rfl)
theorem e22 : ElemZ Tryz.prog 22 (.slice none 0 0) := .of (by kernel_rfl) (by kernel_rfl)
theorem z22 : zeroOf Tryz.prog 22 = some (.slice none 0 0) := e22.zero
theorem c22 : Tryz.prog.cellsOf 22 = 1 := e22.cellsOf
theorem e23 : ElemZ Tryz.prog 23 (.slice none 0 0) := .of (by kernel_rfl) (by kernel_rfl)
theorem c23 : Tryz.prog.cellsOf 23 = 1 := e23.cellsOf
theorem e25 : ElemZ Tryz.prog 25 (.int .i64 0) := .of (by kernel_rfl) (by kernel_rfl)
theorem z25 : zeroOf Tryz.prog 25 = some (.int .i64 0) := e25.zero
theorem e27 : ElemZ Tryz.prog 27 (.nilFunc) := .of (by kernel_rfl) (by kernel_rfl)
theorem z27 : zeroOf Tryz.prog 27 = some (.nilFunc) := e27.zero
theorem e28 : ElemZ Tryz.prog 28 (.pointer none) := .of (by kernel_rfl) (by kernel_rfl)
theorem c28 : Tryz.prog.cellsOf 28 = 1 := e28.cellsOf
theorem e29 : ElemZ Tryz.prog 29 (.pointer none) := .of (by kernel_rfl) (by kernel_rfl)
theorem z29 : zeroOf Tryz.prog 29 = some (.pointer none) := e29.zero
theorem e32 : ElemZ Tryz.prog 32 (.nilFunc) := .of (by kernel_rfl) (by kernel_rfl)
theorem z32 : zeroOf Tryz.prog 32 = some (.nilFunc) := e32.zero
theorem e35 : ElemZ Tryz.prog 35 (.nilFunc) := .of (by kernel_rfl) (by kernel_rfl)
theorem z35 : zeroOf Tryz.prog 35 = some (.nilFunc) := e35.zero
theorem e36 : ElemZ Tryz.prog 36 (.slice none 0 0) := .of (by kernel_rfl) (by kernel_rfl)
theorem z36 : zeroOf Tryz.prog 36 = some (.slice none 0 0) := e36.zero
theorem e39 : ElemZ Tryz.prog 39 (.nilFunc) := .of (by kernel_rfl) (by kernel_rfl)
theorem z39 : zeroOf Tryz.prog 39 = some (.nilFunc) := e39.zero
theorem e41 : ElemZ Tryz.prog 41 (.agg #[.string ⟨#[]⟩, .int .i64 0, .int .i64 0]) := .of (by kernel_rfl) (by kernel_rfl)
theorem z41 : zeroOf Tryz.prog 41 = some (.agg #[.string ⟨#[]⟩, .int .i64 0, .int .i64 0]) := e41.zero
theorem c41 : Tryz.prog.cellsOf 41 = 3 := e41.cellsOf
theorem e44 : ElemZ Tryz.prog 44 (.nilFunc) := .of (by kernel_rfl) (by kernel_rfl)
theorem z44 : zeroOf Tryz.prog 44 = some (.nilFunc) := e44.zero
theorem e45 : ElemZ Tryz.prog 45 (.slice none 0 0) := .of (by kernel_rfl) (by kernel_rfl)
theorem z45 : zeroOf Tryz.prog 45 = some (.slice none 0 0) := e45.zero
theorem e50 : ElemZ Tryz.prog 50 (.agg #[.int .i64 0, .string ⟨#[]⟩, .string ⟨#[]⟩]) := .of (by kernel_rfl) (by kernel_rfl)
theorem z50 : zeroOf Tryz.prog 50 = some (.agg #[.int .i64 0, .string ⟨#[]⟩, .string ⟨#[]⟩]) := e50.zero
theorem e51 : ElemZ Tryz.prog 51 (.agg #[.int .i64 0, .string ⟨#[]⟩, .string ⟨#[]⟩]) := .of (by kernel_rfl) (by kernel_rfl)
theorem z51 : zeroOf Tryz.prog 51 = some (.agg #[.int .i64 0, .string ⟨#[]⟩, .string ⟨#[]⟩]) := e51.zero
theorem c51 : Tryz.prog.cellsOf 51 = 3 := e51.cellsOf
theorem e53 : ElemZ Tryz.prog 53 (.agg #[.string ⟨#[]⟩, .string ⟨#[]⟩, .int .i64 0]) := .of (by kernel_rfl) (by kernel_rfl)
theorem z53 : zeroOf Tryz.prog 53 = some (.agg #[.string ⟨#[]⟩, .string ⟨#[]⟩, .int .i64 0]) := e53.zero
theorem e54 : ElemZ Tryz.prog 54 (.agg #[.string ⟨#[]⟩, .string ⟨#[]⟩, .int .i64 0]) := .of (by kernel_rfl) (by kernel_rfl)
theorem z54 : zeroOf Tryz.prog 54 = some (.agg #[.string ⟨#[]⟩, .string ⟨#[]⟩, .int .i64 0]) := e54.zero
theorem c54 : Tryz.prog.cellsOf 54 = 3 := e54.cellsOf
theorem e55 : ElemZ Tryz.prog 55 (.agg #[.string ⟨#[]⟩, .int .i64 0]) := .of (by kernel_rfl) (by kernel_rfl)
theorem z55 : zeroOf Tryz.prog 55 = some (.agg #[.string ⟨#[]⟩, .int .i64 0]) := e55.zero
theorem e56 : ElemZ Tryz.prog 56 (.agg #[.string ⟨#[]⟩, .int .i64 0]) := .of (by kernel_rfl) (by kernel_rfl)
theorem z56 : zeroOf Tryz.prog 56 = some (.agg #[.string ⟨#[]⟩, .int .i64 0]) := e56.zero
theorem c56 : Tryz.prog.cellsOf 56 = 2 := e56.cellsOf
theorem e63 : ElemZ Tryz.prog 63 (.nilFunc) := .of (by kernel_rfl) (by kernel_rfl)
theorem z63 : zeroOf Tryz.prog 63 = some (.nilFunc) := e63.zero
theorem e64 : ElemZ Tryz.prog 64 (.slice none 0 0) := .of (by kernel_rfl) (by kernel_rfl)
theorem z64 : zeroOf Tryz.prog 64 = some (.slice none 0 0) := e64.zero
theorem c64 : Tryz.prog.cellsOf 64 = 1 := e64.cellsOf
theorem e66 : ElemZ Tryz.prog 66 (.agg #[.string ⟨#[]⟩, .bool false]) := .of (by kernel_rfl) (by kernel_rfl)
theorem z66 : zeroOf Tryz.prog 66 = some (.agg #[.string ⟨#[]⟩, .bool false]) := e66.zero
theorem e67 : ElemZ Tryz.prog 67 (.agg #[.string ⟨#[]⟩, .bool false]) := .of (by kernel_rfl) (by kernel_rfl)
theorem z67 : zeroOf Tryz.prog 67 = some (.agg #[.string ⟨#[]⟩, .bool false]) := e67.zero
theorem c67 : Tryz.prog.cellsOf 67 = 2 := e67.cellsOf
theorem e70 : ElemZ Tryz.prog 70 (.nilFunc) := .of (by kernel_rfl) (by kernel_rfl)
theorem z70 : zeroOf Tryz.prog 70 = some (.nilFunc) := e70.zero
theorem e71 : ElemZ Tryz.prog 71 (.slice none 0 0) := .of (by kernel_rfl) (by kernel_rfl)
theorem c71 : Tryz.prog.cellsOf 71 = 1 := e71.cellsOf
theorem e72 : ElemZ Tryz.prog 72 (.nilFunc) := .of (by kernel_rfl) (by kernel_rfl)
theorem z72 : zeroOf Tryz.prog 72 = some (.nilFunc) := e72.zero
theorem e76 : ElemZ Tryz.prog 76 (.nilFunc) := .of (by kernel_rfl) (by kernel_rfl)
theorem z76 : zeroOf Tryz.prog 76 = some (.nilFunc) := e76.zero
theorem e77 : ElemZ Tryz.prog 77 (.nilFunc) := .of (by kernel_rfl) (by kernel_rfl)
theorem z77 : zeroOf Tryz.prog 77 = some (.nilFunc) := e77.zero
theorem e83 : ElemZ Tryz.prog 83 (.map none) := .of (by kernel_rfl) (by kernel_rfl)
theorem z83 : zeroOf Tryz.prog 83 = some (.map none) := e83.zero
theorem c83 : Tryz.prog.cellsOf 83 = 1 := e83.cellsOf
theorem e87 : ElemZ Tryz.prog 87 (.agg #[.slice none 0 0]) := .of (by kernel_rfl) (by kernel_rfl)
theorem z87 : zeroOf Tryz.prog 87 = some (.agg #[.slice none 0 0]) := e87.zero
theorem e98 : ElemZ Tryz.prog 98 (.pointer none) := .of (by kernel_rfl) (by kernel_rfl)
theorem e100 : ElemZ Tryz.prog 100 (.agg #[.pointer none, .slice none 0 0]) := .of (by kernel_rfl) (by kernel_rfl)
theorem z100 : zeroOf Tryz.prog 100 = some (.agg #[.pointer none, .slice none 0 0]) := e100.zero
theorem e108 : ElemZ Tryz.prog 108 (.map none) := .of (by kernel_rfl) (by kernel_rfl)
theorem c108 : Tryz.prog.cellsOf 108 = 1 := e108.cellsOf
theorem e110 : ElemZ Tryz.prog 110 (.agg #[.map none, .slice none 0 0]) := .of (by kernel_rfl) (by kernel_rfl)
theorem z110 : zeroOf Tryz.prog 110 = some (.agg #[.map none, .slice none 0 0]) := e110.zero
theorem e113 : ElemZ Tryz.prog 113 (.agg #[.string ⟨#[]⟩, .string ⟨#[]⟩]) := .of (by kernel_rfl) (by kernel_rfl)
theorem z113 : zeroOf Tryz.prog 113 = some (.agg #[.string ⟨#[]⟩, .string ⟨#[]⟩]) := e113.zero
theorem c113 : Tryz.prog.cellsOf 113 = 2 := e113.cellsOf
theorem e130 : ElemZ Tryz.prog 130 (.slice none 0 0) := .of (by kernel_rfl) (by kernel_rfl)
theorem z130 : zeroOf Tryz.prog 130 = some (.slice none 0 0) := e130.zero
theorem c130 : Tryz.prog.cellsOf 130 = 1 := e130.cellsOf
theorem e134 : ElemZ Tryz.prog 134 (.agg #[.string ⟨#[]⟩, .string ⟨#[]⟩, .int .i64 0]) := .of (by kernel_rfl) (by kernel_rfl)
theorem z134 : zeroOf Tryz.prog 134 = some (.agg #[.string ⟨#[]⟩, .string ⟨#[]⟩, .int .i64 0]) := e134.zero
theorem c134 : Tryz.prog.cellsOf 134 = 3 := e134.cellsOf
theorem e135 : ElemZ Tryz.prog 135 (.slice none 0 0) := .of (by kernel_rfl) (by kernel_rfl)
theorem z135 : zeroOf Tryz.prog 135 = some (.slice none 0 0) := e135.zero
theorem e140 : ElemZ Tryz.prog 140 (.agg #[.int .i64 0, .int .i64 0, .int .i64 0]) := .of (by kernel_rfl) (by kernel_rfl)
theorem z140 : zeroOf Tryz.prog 140 = some (.agg #[.int .i64 0, .int .i64 0, .int .i64 0]) := e140.zero
theorem c140 : Tryz.prog.cellsOf 140 = 3 := e140.cellsOf
theorem e142 : ElemZ Tryz.prog 142 (.agg #[.int .i64 0, .string ⟨#[]⟩, .string ⟨#[]⟩, .int .i64 0]) := .of (by kernel_rfl) (by kernel_rfl)
theorem z142 : zeroOf Tryz.prog 142 = some (.agg #[.int .i64 0, .string ⟨#[]⟩, .string ⟨#[]⟩, .int .i64 0]) := e142.zero
theorem e146 : ElemZ Tryz.prog 146 (.nilFunc) := .of (by kernel_rfl) (by kernel_rfl)
theorem z146 : zeroOf Tryz.prog 146 = some (.nilFunc) := e146.zero
theorem e155 : ElemZ Tryz.prog 155 (.agg #[.string ⟨#[]⟩, .string ⟨#[]⟩, .string ⟨#[]⟩, .string ⟨#[]⟩]) := .of (by kernel_rfl) (by kernel_rfl)
theorem z155 : zeroOf Tryz.prog 155 = some (.agg #[.string ⟨#[]⟩, .string ⟨#[]⟩, .string ⟨#[]⟩, .string ⟨#[]⟩]) := e155.zero
theorem f7 : fieldsOkT Tryz.prog 7 := by
  intro d hd; rw [Tryz.underlying7] at hd; cases hd
  intro f hf; simp only [List.mem_cons, List.not_mem_nil, or_false] at hf
  rcases hf with rfl | rfl | rfl | rfl
  · obtain ⟨i, h, _⟩ := e2.ex; exact ⟨i, h⟩
  · obtain ⟨i, h, _⟩ := e3.ex; exact ⟨i, h⟩
  · obtain ⟨i, h, _⟩ := e4.ex; exact ⟨i, h⟩
  · obtain ⟨i, h, _⟩ := e6.ex; exact ⟨i, h⟩
theorem f8 : fieldsOkT Tryz.prog 8 := by
  intro d hd; rw [Tryz.underlying8] at hd; cases hd
  intro f hf; simp only [List.mem_cons, List.not_mem_nil, or_false] at hf
  rcases hf with rfl | rfl | rfl | rfl
  · obtain ⟨i, h, _⟩ := e2.ex; exact ⟨i, h⟩
  · obtain ⟨i, h, _⟩ := e3.ex; exact ⟨i, h⟩
  · obtain ⟨i, h, _⟩ := e4.ex; exact ⟨i, h⟩
  · obtain ⟨i, h, _⟩ := e6.ex; exact ⟨i, h⟩
theorem f13 : fieldsOkT Tryz.prog 13 := by
  intro d hd; rw [Tryz.underlying13] at hd; cases hd
  intro f hf; simp only [List.mem_cons, List.not_mem_nil, or_false] at hf
  rcases hf with rfl | rfl
  · obtain ⟨i, h, _⟩ := e9.ex; exact ⟨i, h⟩
  · obtain ⟨i, h, _⟩ := e12.ex; exact ⟨i, h⟩
theorem f14 : fieldsOkT Tryz.prog 14 := by
  intro d hd; rw [Tryz.underlying14] at hd; cases hd
  intro f hf; simp only [List.mem_cons, List.not_mem_nil, or_false] at hf
  rcases hf with rfl | rfl
  · obtain ⟨i, h, _⟩ := e9.ex; exact ⟨i, h⟩
  · obtain ⟨i, h, _⟩ := e12.ex; exact ⟨i, h⟩
theorem f18 : fieldsOkT Tryz.prog 18 := by
  intro d hd; rw [Tryz.underlying18] at hd; cases hd
  intro f hf; simp only [List.mem_cons, List.not_mem_nil, or_false] at hf
  rcases hf with rfl
  · obtain ⟨i, h, _⟩ := e17.ex; exact ⟨i, h⟩
theorem f19 : fieldsOkT Tryz.prog 19 := by
  intro d hd; rw [Tryz.underlying19] at hd; cases hd
  intro f hf; simp only [List.mem_cons, List.not_mem_nil, or_false] at hf
  rcases hf with rfl
  · obtain ⟨i, h, _⟩ := e17.ex; exact ⟨i, h⟩
theorem f41 : fieldsOkT Tryz.prog 41 := by
  intro d hd; rw [Tryz.underlying41] at hd; cases hd
  intro f hf; simp only [List.mem_cons, List.not_mem_nil, or_false] at hf
  rcases hf with rfl | rfl | rfl
  · obtain ⟨i, h, _⟩ := e9.ex; exact ⟨i, h⟩
  · obtain ⟨i, h, _⟩ := e3.ex; exact ⟨i, h⟩
  · obtain ⟨i, h, _⟩ := e3.ex; exact ⟨i, h⟩
theorem f50 : fieldsOkT Tryz.prog 50 := by
  intro d hd; rw [Tryz.underlying50] at hd; cases hd
  intro f hf; simp only [List.mem_cons, List.not_mem_nil, or_false] at hf
  rcases hf with rfl | rfl | rfl
  · obtain ⟨i, h, _⟩ := e3.ex; exact ⟨i, h⟩
  · obtain ⟨i, h, _⟩ := e9.ex; exact ⟨i, h⟩
  · obtain ⟨i, h, _⟩ := e9.ex; exact ⟨i, h⟩
theorem f51 : fieldsOkT Tryz.prog 51 := by
  intro d hd; rw [Tryz.underlying51] at hd; cases hd
  intro f hf; simp only [List.mem_cons, List.not_mem_nil, or_false] at hf
  rcases hf with rfl | rfl | rfl
  · obtain ⟨i, h, _⟩ := e3.ex; exact ⟨i, h⟩
  · obtain ⟨i, h, _⟩ := e9.ex; exact ⟨i, h⟩
  · obtain ⟨i, h, _⟩ := e9.ex; exact ⟨i, h⟩
theorem f53 : fieldsOkT Tryz.prog 53 := by
  intro d hd; rw [Tryz.underlying53] at hd; cases hd
  intro f hf; simp only [List.mem_cons, List.not_mem_nil, or_false] at hf
  rcases hf with rfl | rfl | rfl
  · obtain ⟨i, h, _⟩ := e9.ex; exact ⟨i, h⟩
  · obtain ⟨i, h, _⟩ := e9.ex; exact ⟨i, h⟩
  · obtain ⟨i, h, _⟩ := e3.ex; exact ⟨i, h⟩
theorem f54 : fieldsOkT Tryz.prog 54 := by
  intro d hd; rw [Tryz.underlying54] at hd; cases hd
  intro f hf; simp only [List.mem_cons, List.not_mem_nil, or_false] at hf
  rcases hf with rfl | rfl | rfl
  · obtain ⟨i, h, _⟩ := e9.ex; exact ⟨i, h⟩
  · obtain ⟨i, h, _⟩ := e9.ex; exact ⟨i, h⟩
  · obtain ⟨i, h, _⟩ := e3.ex; exact ⟨i, h⟩
theorem f55 : fieldsOkT Tryz.prog 55 := by
  intro d hd; rw [Tryz.underlying55] at hd; cases hd
  intro f hf; simp only [List.mem_cons, List.not_mem_nil, or_false] at hf
  rcases hf with rfl | rfl
  · obtain ⟨i, h, _⟩ := e9.ex; exact ⟨i, h⟩
  · obtain ⟨i, h, _⟩ := e3.ex; exact ⟨i, h⟩
theorem f56 : fieldsOkT Tryz.prog 56 := by
  intro d hd; rw [Tryz.underlying56] at hd; cases hd
  intro f hf; simp only [List.mem_cons, List.not_mem_nil, or_false] at hf
  rcases hf with rfl | rfl
  · obtain ⟨i, h, _⟩ := e9.ex; exact ⟨i, h⟩
  · obtain ⟨i, h, _⟩ := e3.ex; exact ⟨i, h⟩
theorem f66 : fieldsOkT Tryz.prog 66 := by
  intro d hd; rw [Tryz.underlying66] at hd; cases hd
  intro f hf; simp only [List.mem_cons, List.not_mem_nil, or_false] at hf
  rcases hf with rfl | rfl
  · obtain ⟨i, h, _⟩ := e9.ex; exact ⟨i, h⟩
  · obtain ⟨i, h, _⟩ := e4.ex; exact ⟨i, h⟩
theorem f67 : fieldsOkT Tryz.prog 67 := by
  intro d hd; rw [Tryz.underlying67] at hd; cases hd
  intro f hf; simp only [List.mem_cons, List.not_mem_nil, or_false] at hf
  rcases hf with rfl | rfl
  · obtain ⟨i, h, _⟩ := e9.ex; exact ⟨i, h⟩
  · obtain ⟨i, h, _⟩ := e4.ex; exact ⟨i, h⟩
theorem f86 : fieldsOkT Tryz.prog 86 := by
  intro d hd; rw [Tryz.underlying86] at hd; cases hd
  intro f hf; simp only [List.mem_cons, List.not_mem_nil, or_false] at hf
  rcases hf with rfl
  · obtain ⟨i, h, _⟩ := e23.ex; exact ⟨i, h⟩
theorem f87 : fieldsOkT Tryz.prog 87 := by
  intro d hd; rw [Tryz.underlying87] at hd; cases hd
  intro f hf; simp only [List.mem_cons, List.not_mem_nil, or_false] at hf
  rcases hf with rfl
  · obtain ⟨i, h, _⟩ := e23.ex; exact ⟨i, h⟩
theorem f99 : fieldsOkT Tryz.prog 99 := by
  intro d hd; rw [Tryz.underlying99] at hd; cases hd
  intro f hf; simp only [List.mem_cons, List.not_mem_nil, or_false] at hf
  rcases hf with rfl | rfl
  · obtain ⟨i, h, _⟩ := e98.ex; exact ⟨i, h⟩
  · obtain ⟨i, h, _⟩ := e71.ex; exact ⟨i, h⟩
theorem f100 : fieldsOkT Tryz.prog 100 := by
  intro d hd; rw [Tryz.underlying100] at hd; cases hd
  intro f hf; simp only [List.mem_cons, List.not_mem_nil, or_false] at hf
  rcases hf with rfl | rfl
  · obtain ⟨i, h, _⟩ := e98.ex; exact ⟨i, h⟩
  · obtain ⟨i, h, _⟩ := e71.ex; exact ⟨i, h⟩
theorem f110 : fieldsOkT Tryz.prog 110 := by
  intro d hd; rw [Tryz.underlying110] at hd; cases hd
  intro f hf; simp only [List.mem_cons, List.not_mem_nil, or_false] at hf
  rcases hf with rfl | rfl
  · obtain ⟨i, h, _⟩ := e108.ex; exact ⟨i, h⟩
  · obtain ⟨i, h, _⟩ := e22.ex; exact ⟨i, h⟩
theorem f113 : fieldsOkT Tryz.prog 113 := by
  intro d hd; rw [Tryz.underlying113] at hd; cases hd
  obtain ⟨i, h, _⟩ := e9.ex; exact ⟨i, h⟩
theorem f133 : fieldsOkT Tryz.prog 133 := by
  intro d hd; rw [Tryz.underlying133] at hd; cases hd
  intro f hf; simp only [List.mem_cons, List.not_mem_nil, or_false] at hf
  rcases hf with rfl | rfl | rfl
  · obtain ⟨i, h, _⟩ := e9.ex; exact ⟨i, h⟩
  · obtain ⟨i, h, _⟩ := e9.ex; exact ⟨i, h⟩
  · obtain ⟨i, h, _⟩ := e3.ex; exact ⟨i, h⟩
theorem f134 : fieldsOkT Tryz.prog 134 := by
  intro d hd; rw [Tryz.underlying134] at hd; cases hd
  intro f hf; simp only [List.mem_cons, List.not_mem_nil, or_false] at hf
  rcases hf with rfl | rfl | rfl
  · obtain ⟨i, h, _⟩ := e9.ex; exact ⟨i, h⟩
  · obtain ⟨i, h, _⟩ := e9.ex; exact ⟨i, h⟩
  · obtain ⟨i, h, _⟩ := e3.ex; exact ⟨i, h⟩
theorem f139 : fieldsOkT Tryz.prog 139 := by
  intro d hd; rw [Tryz.underlying139] at hd; cases hd
  intro f hf; simp only [List.mem_cons, List.not_mem_nil, or_false] at hf
  rcases hf with rfl | rfl | rfl
  · obtain ⟨i, h, _⟩ := e3.ex; exact ⟨i, h⟩
  · obtain ⟨i, h, _⟩ := e3.ex; exact ⟨i, h⟩
  · obtain ⟨i, h, _⟩ := e3.ex; exact ⟨i, h⟩
theorem f140 : fieldsOkT Tryz.prog 140 := by
  intro d hd; rw [Tryz.underlying140] at hd; cases hd
  intro f hf; simp only [List.mem_cons, List.not_mem_nil, or_false] at hf
  rcases hf with rfl | rfl | rfl
  · obtain ⟨i, h, _⟩ := e3.ex; exact ⟨i, h⟩
  · obtain ⟨i, h, _⟩ := e3.ex; exact ⟨i, h⟩
  · obtain ⟨i, h, _⟩ := e3.ex; exact ⟨i, h⟩
theorem f142 : fieldsOkT Tryz.prog 142 := by
  intro d hd; rw [Tryz.underlying142] at hd; cases hd
  intro f hf; simp only [List.mem_cons, List.not_mem_nil, or_false] at hf
  rcases hf with rfl | rfl | rfl | rfl
  · obtain ⟨i, h, _⟩ := e3.ex; exact ⟨i, h⟩
  · obtain ⟨i, h, _⟩ := e9.ex; exact ⟨i, h⟩
  · obtain ⟨i, h, _⟩ := e9.ex; exact ⟨i, h⟩
  · obtain ⟨i, h, _⟩ := e3.ex; exact ⟨i, h⟩
theorem f155 : fieldsOkT Tryz.prog 155 := by
  intro d hd; rw [Tryz.underlying155] at hd; cases hd
  obtain ⟨i, h, _⟩ := e113.ex; exact ⟨i, h⟩
theorem q51 : EqT Tryz.prog 51 [.i .i64, .s, .s] := ⟨by kernel_rfl, by kernel_rfl⟩
theorem kqt51 : (EqT Tryz.prog 51 [.i .i64, .s, .s]) = True := eq_true q51
theorem k1 {K : Prop} : Chk (ElemZ Tryz.prog 1 (.nilFunc)) K = K := Chk_of e1
theorem k2 {K : Prop} : Chk (ElemZ Tryz.prog 2 (.int .i64 0)) K = K := Chk_of e2
theorem k3 {K : Prop} : Chk (ElemZ Tryz.prog 3 (.int .i64 0)) K = K := Chk_of e3
theorem ke3 : (ElemZ Tryz.prog 3 (.int .i64 0)) = True := eq_true e3
theorem k4 {K : Prop} : Chk (ElemZ Tryz.prog 4 (.bool false)) K = K := Chk_of e4
theorem ke4 : (ElemZ Tryz.prog 4 (.bool false)) = True := eq_true e4
theorem ke5 : (ElemZ Tryz.prog 5 (.int .u8 0)) = True := eq_true e5
theorem ke9 : (ElemZ Tryz.prog 9 (.string ⟨#[]⟩)) = True := eq_true e9
theorem ke41 : (ElemZ Tryz.prog 41 (.agg #[.string ⟨#[]⟩, .int .i64 0, .int .i64 0])) = True := eq_true e41
theorem ke51 : (ElemZ Tryz.prog 51 (.agg #[.int .i64 0, .string ⟨#[]⟩, .string ⟨#[]⟩])) = True := eq_true e51
theorem ke54 : (ElemZ Tryz.prog 54 (.agg #[.string ⟨#[]⟩, .string ⟨#[]⟩, .int .i64 0])) = True := eq_true e54
theorem ke56 : (ElemZ Tryz.prog 56 (.agg #[.string ⟨#[]⟩, .int .i64 0])) = True := eq_true e56
theorem ke67 : (ElemZ Tryz.prog 67 (.agg #[.string ⟨#[]⟩, .bool false])) = True := eq_true e67
theorem ke130 : (ElemZ Tryz.prog 130 (.slice none 0 0)) = True := eq_true e130
theorem ke134 : (ElemZ Tryz.prog 134 (.agg #[.string ⟨#[]⟩, .string ⟨#[]⟩, .int .i64 0])) = True := eq_true e134
theorem ke135 : (ElemZ Tryz.prog 135 (.slice none 0 0)) = True := eq_true e135
theorem ke140 : (ElemZ Tryz.prog 140 (.agg #[.int .i64 0, .int .i64 0, .int .i64 0])) = True := eq_true e140
theorem ke142 : (ElemZ Tryz.prog 142 (.agg #[.int .i64 0, .string ⟨#[]⟩, .string ⟨#[]⟩, .int .i64 0])) = True := eq_true e142
theorem kt41 : (fieldsOkT Tryz.prog 41) = True := eq_true f41
theorem kt51 : (fieldsOkT Tryz.prog 51) = True := eq_true f51
theorem kt67 : (fieldsOkT Tryz.prog 67) = True := eq_true f67
theorem kt87 : (fieldsOkT Tryz.prog 87) = True := eq_true f87
theorem kt110 : (fieldsOkT Tryz.prog 110) = True := eq_true f110
theorem kt113 : (fieldsOkT Tryz.prog 113) = True := eq_true f113
theorem kt134 : (fieldsOkT Tryz.prog 134) = True := eq_true f134
theorem kt140 : (fieldsOkT Tryz.prog 140) = True := eq_true f140
theorem kt142 : (fieldsOkT Tryz.prog 142) = True := eq_true f142
theorem kt155 : (fieldsOkT Tryz.prog 155) = True := eq_true f155
theorem ky5 : Maps.Keyed Tryz.prog 5 = True := eq_true (Maps.int_keyed Tryz.underlying5)
theorem kt_5 (n : Int) : KeyT Tryz.prog 5 (.int .u8 n) = True := eq_true (.int Tryz.underlying5 n)
theorem ky9 : Maps.Keyed Tryz.prog 9 = True := eq_true (Maps.string_keyed Tryz.underlying9)
theorem kt_9 (s : List UInt8) : KeyT Tryz.prog 9 (.str s) = True := eq_true (.str Tryz.underlying9 s)
attribute [go_sem] kqt51
attribute [go_sem] Tryz.underlying0 Tryz.underlying1 Tryz.underlying2 Tryz.underlying3 Tryz.underlying4 Tryz.underlying5 Tryz.underlying6 Tryz.underlying7
attribute [go_sem] Tryz.underlying8 Tryz.underlying9 Tryz.underlying10 Tryz.underlying11 Tryz.underlying12 Tryz.underlying13 Tryz.underlying14 Tryz.underlying15 Tryz.underlying16 Tryz.underlying17 Tryz.underlying18 Tryz.underlying19
attribute [go_sem] Tryz.underlying20 Tryz.underlying21 Tryz.underlying22 Tryz.underlying23 Tryz.underlying24 Tryz.underlying25 Tryz.underlying26 Tryz.underlying27 Tryz.underlying28 Tryz.underlying29 Tryz.underlying30 Tryz.underlying31
attribute [go_sem] Tryz.underlying32 Tryz.underlying33 Tryz.underlying34 Tryz.underlying35 Tryz.underlying36 Tryz.underlying37 Tryz.underlying38 Tryz.underlying39 Tryz.underlying40 Tryz.underlying41 Tryz.underlying42 Tryz.underlying43
attribute [go_sem] Tryz.underlying44 Tryz.underlying45 Tryz.underlying46 Tryz.underlying47 Tryz.underlying48 Tryz.underlying49 Tryz.underlying50 Tryz.underlying51 Tryz.underlying52 Tryz.underlying53 Tryz.underlying54 Tryz.underlying55
attribute [go_sem] Tryz.underlying56 Tryz.underlying57 Tryz.underlying58 Tryz.underlying59 Tryz.underlying60 Tryz.underlying61 Tryz.underlying62 Tryz.underlying63 Tryz.underlying64 Tryz.underlying65 Tryz.underlying66 Tryz.underlying67
attribute [go_sem] Tryz.underlying68 Tryz.underlying69 Tryz.underlying70 Tryz.underlying71 Tryz.underlying72 Tryz.underlying73 Tryz.underlying74 Tryz.underlying75 Tryz.underlying76 Tryz.underlying77 Tryz.underlying78 Tryz.underlying79
attribute [go_sem] Tryz.underlying80 Tryz.underlying81 Tryz.underlying82 Tryz.underlying83 Tryz.underlying84 Tryz.underlying85 Tryz.underlying86 Tryz.underlying87 Tryz.underlying88 Tryz.underlying89 Tryz.underlying90 Tryz.underlying91
attribute [go_sem] Tryz.underlying92 Tryz.underlying93 Tryz.underlying94 Tryz.underlying95 Tryz.underlying96 Tryz.underlying97 Tryz.underlying98 Tryz.underlying99 Tryz.underlying100 Tryz.underlying101 Tryz.underlying102 Tryz.underlying103
attribute [go_sem] Tryz.underlying104 Tryz.underlying105 Tryz.underlying106 Tryz.underlying107 Tryz.underlying108 Tryz.underlying109 Tryz.underlying110 Tryz.underlying111 Tryz.underlying112 Tryz.underlying113 Tryz.underlying114 Tryz.underlying115
attribute [go_sem] Tryz.underlying116 Tryz.underlying117 Tryz.underlying118 Tryz.underlying119 Tryz.underlying120 Tryz.underlying121 Tryz.underlying122 Tryz.underlying123 Tryz.underlying124 Tryz.underlying125 Tryz.underlying126 Tryz.underlying127
attribute [go_sem] Tryz.underlying128 Tryz.underlying129 Tryz.underlying130 Tryz.underlying131 Tryz.underlying132 Tryz.underlying133 Tryz.underlying134 Tryz.underlying135 Tryz.underlying136 Tryz.underlying137 Tryz.underlying138 Tryz.underlying139
attribute [go_sem] Tryz.underlying140 Tryz.underlying141 Tryz.underlying142 Tryz.underlying143 Tryz.underlying144 Tryz.underlying145 Tryz.underlying146 Tryz.underlying147 Tryz.underlying148 Tryz.underlying149 Tryz.underlying150 Tryz.underlying151
attribute [go_sem] Tryz.underlying152 Tryz.underlying153 Tryz.underlying154 Tryz.underlying155 Tryz.underlying156 Tryz.underlying157 Tryz.underlying158 Tryz.underlying159 Tryz.underlying160 Tryz.underlying161 Tryz.underlying162 Tryz.underlying163
attribute [go_sem] Tryz.underlying164 Tryz.underlying165 Tryz.underlying166 Tryz.underlying167 Tryz.underlying168 Tryz.underlying169 Tryz.underlying170 Tryz.underlying171 Tryz.underlying172 Tryz.underlying173 Tryz.underlying174 Tryz.underlying175
attribute [go_sem] Tryz.underlying176 Tryz.underlying177 Tryz.underlying178 Tryz.underlying179 Tryz.underlying180 Tryz.underlying181 Tryz.underlying182 Tryz.underlying183 Tryz.underlying184 Tryz.underlying185 Tryz.underlying186 Tryz.underlying187
attribute [go_sem] Tryz.underlying188 Tryz.underlying189 Tryz.underlying190 Tryz.underlying191 Tryz.underlying192 Tryz.underlying193 Tryz.underlying194 Tryz.underlying195 Tryz.underlying196 Tryz.underlying197 Tryz.underlying198 Tryz.underlying199
attribute [go_sem] Tryz.underlying200 Tryz.underlying201 Tryz.underlying202 Tryz.underlying203 Tryz.underlying204 Tryz.underlying205 Tryz.underlying206 Tryz.underlying207 Tryz.underlying208 Tryz.underlying209 Tryz.underlying210 Tryz.underlying211
attribute [go_sem] Tryz.underlying212 Tryz.underlying213 Tryz.underlying214 Tryz.underlying215 Tryz.underlying216 k1 z1 c1 k2 z2
attribute [go_sem] c2 k3 ke3 z3 c3 k4 ke4 z4 c4 ke5 z5
attribute [go_sem] c5
attribute [go_sem] ke9 z9 c9
attribute [go_sem] z22 c22
attribute [go_sem] c23 z25 z27
attribute [go_sem] c28 z29
attribute [go_sem] z32
attribute [go_sem] z35 z36
attribute [go_sem] z39 ke41 z41
attribute [go_sem] c41 z44 z45
attribute [go_sem] z50 ke51 z51 c51
attribute [go_sem] z53 ke54 z54 c54 z55
attribute [go_sem] ke56 z56 c56
attribute [go_sem] z63 z64 c64
attribute [go_sem] z66 ke67 z67 c67
attribute [go_sem] z70
attribute [go_sem] c71 z72
attribute [go_sem] z76 z77
attribute [go_sem] z83
attribute [go_sem] c83
attribute [go_sem] z87
attribute [go_sem] z100
attribute [go_sem] c108 z110
attribute [go_sem] z113 c113
attribute [go_sem] ke130 z130
attribute [go_sem] c130
attribute [go_sem] ke134 z134 c134 ke135 z135
attribute [go_sem] ke140 z140 c140 ke142 z142
attribute [go_sem] z146
attribute [go_sem] z155
attribute [go_sem] kt41 kt51
attribute [go_sem] kt67
attribute [go_sem] kt87 kt110 kt113
attribute [go_sem] kt134 kt140 kt142
attribute [go_sem] kt155
attribute [go_sem] ky5 kt_5 ky9 kt_9
end Go.Fv.Y

/- Guesses, and their order: by distance, then the greater count, then the text. -/
namespace Go.Fv.Y
open Go
set_option linter.unusedSimpArgs false
set_option linter.unusedVariables false
set_option linter.unnecessarySimpa false

structure Gs where
  t : List UInt8
  d : Int
  c : Int
def Gs.av (x : Gs) : List AV := [.str x.t, .int .i64 x.d, .int .i64 x.c]
def Gs.zero : Gs := ⟨[], 0, 0⟩
instance : Inhabited Gs := ⟨Gs.zero⟩
instance : FNoId Gs.av := ⟨fun _ => rfl⟩
def gsR (l : List Gs) : RowV := .objs 3 (l.map Gs.av)
/-- Less by the keys: what the comparison of the program tells. -/
def lt0 (x y : Gs) : Prop := x.d < y.d ∨ (x.d = y.d ∧ y.c < x.c)
def ke (x y : Gs) : Prop := x.d = y.d ∧ x.c = y.c
theorem lt0_asymm {x y : Gs} (h : lt0 x y) : ¬ lt0 y x := by unfold lt0 at *; omega
theorem lt0_irrefl (x : Gs) : ¬ lt0 x x := by unfold lt0; omega
theorem lt0_ke {x y : Gs} (h : lt0 x y) : ¬ ke x y ∧ ¬ ke y x := by unfold lt0 at h; unfold ke; omega
/-- Not behind: a weak order. -/
theorem nlt_trans {x y z : Gs} (h1 : ¬ lt0 y x) (h2 : ¬ lt0 z y) : ¬ lt0 z x := by unfold lt0 at *; omega
theorem nlt_ke {x y : Gs} (h : ¬ lt0 y x) : lt0 x y ∨ ke x y := by unfold lt0 at *; unfold ke; omega
instance (x y : Gs) : Decidable (lt0 x y) := by unfold lt0; infer_instance
instance (x y : Gs) : Decidable (ke x y) := by unfold ke; infer_instance
/-- The whole order. -/
def leG (x y : Gs) : Bool := decide (lt0 x y) || (decide (ke x y) && decide (x.t ≤ y.t))
def sortG (l : List Gs) : List Gs := l.mergeSort leG
theorem leG_iff {x y : Gs} : leG x y = true ↔ lt0 x y ∨ (ke x y ∧ x.t ≤ y.t) := by
  unfold leG; simp
theorem leG_trans (a b c : Gs) (h1 : leG a b = true) (h2 : leG b c = true) : leG a c = true := by
  rw [leG_iff] at *
  rcases h1 with h1 | ⟨k1, t1⟩ <;> rcases h2 with h2 | ⟨k2, t2⟩
  · left; unfold lt0 at *; omega
  · left; unfold lt0 ke at *; omega
  · left; unfold lt0 ke at *; omega
  · right; exact ⟨by unfold ke at *; omega, List.le_trans t1 t2⟩
theorem leG_total (a b : Gs) : (leG a b || leG b a) = true := by
  rw [Bool.or_eq_true, leG_iff, leG_iff]
  by_cases h1 : lt0 a b
  · exact .inl (.inl h1)
  by_cases h2 : lt0 b a
  · exact .inr (.inl h2)
  have hk : ke a b ∧ ke b a := by unfold lt0 at *; unfold ke; omega
  rcases List.le_total a.t b.t with h | h
  · exact .inl (.inr ⟨hk.1, h⟩)
  · exact .inr (.inr ⟨hk.2, h⟩)
theorem leG_anti {a b : Gs} (h1 : leG a b = true) (h2 : leG b a = true) : a = b := by
  rw [leG_iff] at *
  rcases h1 with h1 | ⟨k1, t1⟩ <;> rcases h2 with h2 | ⟨k2, t2⟩
  · exact absurd h2 (lt0_asymm h1)
  · exact absurd k2 (lt0_ke h1).2
  · exact absurd k1 (lt0_ke h2).2
  · obtain ⟨at', ad, ac⟩ := a
    obtain ⟨bt, bd, bc⟩ := b
    have := List.le_antisymm t1 t2
    obtain ⟨e1, e2⟩ := k1
    dsimp only at *
    subst this e1 e2; rfl
theorem sortG_perm (l : List Gs) : (sortG l).Perm l := List.mergeSort_perm _ _
theorem sortG_len (l : List Gs) : (sortG l).length = l.length := (sortG_perm l).length_eq
theorem sortG_le (l : List Gs) : (sortG l).Pairwise fun x y => leG x y = true := List.pairwise_mergeSort leG_trans leG_total l
theorem sortG_eq {l l' : List Gs} (hp : l'.Perm l) (hs : l'.Pairwise fun x y => leG x y = true) : l' = sortG l :=
  List.Perm.eq_of_pairwise (fun a b _ _ h1 h2 => leG_anti h1 h2) hs (sortG_le l) (hp.trans (sortG_perm l).symm)
/-- What is of equal keys stands in the order of its texts. -/
def Stab (l : List Gs) : Prop := l.Pairwise fun x y => ke x y → x.t < y.t
def Srt (l : List Gs) : Prop := l.Pairwise fun x y => ¬ lt0 y x
theorem leG_of {x y : Gs} (h1 : ¬ lt0 y x) (h2 : ke x y → x.t < y.t) : leG x y = true := by
  rw [leG_iff]
  rcases nlt_ke h1 with h | h
  · exact .inl h
  · exact .inr ⟨h, List.le_of_lt (h2 h)⟩
theorem both_le {l : List Gs} (h1 : Srt l) (h2 : Stab l) : l.Pairwise fun x y => leG x y = true :=
  (h1.and h2).imp fun h => leG_of h.1 h.2
theorem srt_eq {l l' : List Gs} (hp : l'.Perm l) (h1 : Srt l') (h2 : Stab l') : l' = sortG l := sortG_eq hp (both_le h1 h2)
theorem nlt_of_le {x y : Gs} (h : leG x y = true) : ¬ lt0 y x := by
  rw [leG_iff] at h
  rcases h with h | ⟨h, _⟩
  · exact lt0_asymm h
  · unfold lt0 ke at *; omega
theorem sortG_srt (l : List Gs) : Srt (sortG l) := (sortG_le l).imp fun h => nlt_of_le h
/-- In an ordered list with different texts at equal keys, equal keys stand by their texts. -/
theorem stab_sort {l : List Gs} (h : Stab l) : Stab (sortG l) := by
  have hd : l.Pairwise fun x y => ke x y → x.t ≠ y.t := h.imp fun h k e => by
    have := h k
    rw [e] at this
    exact List.lt_irrefl _ this
  have hd2 : (sortG l).Pairwise fun x y => ke x y → x.t ≠ y.t := ((sortG_perm l).symm.pairwise_iff (fun {x y} h k e => h ⟨k.1.symm, k.2.symm⟩ e.symm)).1 hd
  refine ((sortG_le l).and hd2).imp fun {x y} hh k => ?_
  obtain ⟨h1, h2⟩ := hh
  rw [leG_iff] at h1
  rcases h1 with h1 | ⟨_, h1⟩
  · exact absurd k (lt0_ke h1).1
  · rcases Std.Trichotomous.rel_or_eq_or_rel_swap (r := fun a b : List UInt8 => a < b) (a := x.t) (b := y.t) with h3 | h3 | h3
    · exact h3
    · exact absurd h3 (h2 k)
    · exact absurd (List.le_antisymm h1 (List.le_of_lt h3)) (h2 k)
theorem sortG_self {l : List Gs} (h1 : Srt l) (h2 : Stab l) : sortG l = l := (srt_eq (List.Perm.refl l) h1 h2).symm
theorem gs_elem (l : List Gs) {i : Nat} (h : i < l.length) : (l.map Gs.av).getD i [] = [.str (l.getD i Gs.zero).t, .int .i64 (l.getD i Gs.zero).d, .int .i64 (l.getD i Gs.zero).c] := by
  rw [List.getD_eq_getElem?_getD, List.getElem?_map, List.getElem?_eq_getElem h, getD_lt h]; rfl
end Go.Fv.Y

/- Words with counts, as data; their order. -/
namespace Go.Fv.Y
open Go Go.Proofs
set_option linter.unusedSimpArgs false
set_option linter.unusedVariables false
set_option maxRecDepth 8000

structure Wd where
  t : List UInt8
  c : Int
deriving DecidableEq
def Wd.av (x : Wd) : List AV := [.str x.t, .int .i64 x.c]
def Wd.zero : Wd := ⟨[], 0⟩
abbrev wdR (l : List Wd) : RowV := .objs 2 (l.map Wd.av)
instance : FNoId Wd.av := ⟨fun _ => rfl⟩
theorem wd_elem (l : List Wd) {i : Nat} (h : i < l.length) : (l.map Wd.av).getD i [] = [.str (l.getD i Wd.zero).t, .int .i64 (l.getD i Wd.zero).c] := by
  rw [getD_lt (by simpa using h), getD_lt h, List.getElem_map]; rfl
theorem wd_snoc (l : List Wd) (s : List UInt8) (n : Int) : l.map Wd.av ++ [[.str s, .int .i64 n]] = (l ++ [(⟨s, n⟩ : Wd)]).map Wd.av := by simp [Wd.av]
theorem cmp_lt : ∀ a b : List UInt8, Lib.compareBytes a b < 0 ↔ a < b
  | [], [] => by simp [Lib.compareBytes]
  | [], b :: bs => by simp [Lib.compareBytes]
  | a :: r, [] => by simp [Lib.compareBytes]
  | a :: r, b :: bs => by
    rw [Lib.compareBytes, List.cons_lt_cons_iff]
    have ih := cmp_lt r bs
    by_cases h1 : a < b
    · rw [if_pos h1]; simp [h1]
    · rw [if_neg h1]
      by_cases h2 : b < a
      · rw [if_pos h2]
        constructor
        · intro h; omega
        · rintro (h | ⟨h, _⟩)
          · exact absurd h h1
          · subst h; exact absurd h2 h1
      · rw [if_neg h2, ih]
        have e : a = b := UInt8.le_antisymm (UInt8.not_lt.1 h2) (UInt8.not_lt.1 h1)
        subst e
        simp [h1]
theorem cmp_bd : ∀ a b : List UInt8, -1 ≤ Lib.compareBytes a b ∧ Lib.compareBytes a b ≤ 1
  | [], [] => by simp [Lib.compareBytes]
  | [], b :: bs => by simp [Lib.compareBytes]
  | a :: r, [] => by simp [Lib.compareBytes]
  | a :: r, b :: bs => by
    rw [Lib.compareBytes]
    have ih := cmp_bd r bs
    split
    · omega
    · split
      · omega
      · exact ih
def cfW (x y : Wd) : Int := Lib.compareBytes x.t y.t
def WdOk (x : Wd) : Prop := x.t.length ≤ 1048576 ∧ 0 ≤ x.c ∧ x.c ≤ 1000000000000
theorem cfW_ord : CmpOrd WdOk cfW where
  irrefl := fun x _ h => List.lt_irrefl _ ((cmp_lt _ _).1 h)
  trans := fun x y z _ _ _ h1 h2 => (cmp_lt _ _).2 (List.lt_trans ((cmp_lt _ _).1 h1) ((cmp_lt _ _).1 h2))
  ntrans := fun x y z _ _ _ h1 h2 h3 => by
    have k1 : y.t ≤ x.t := fun hlt => h1 ((cmp_lt _ _).2 hlt)
    have k2 : z.t ≤ y.t := fun hlt => h2 ((cmp_lt _ _).2 hlt)
    exact List.le_trans k2 k1 ((cmp_lt _ _).1 h3)
theorem sorted_le {l : List Wd} (h : SortedBy cfW l) : l.Pairwise fun x y => x.t ≤ y.t :=
  h.imp fun {x y} hxy hlt => hxy ((cmp_lt _ _).2 hlt)
theorem sorted_eq : ∀ {l l' : List Wd}, l.Perm l' → (l.map Wd.t).Nodup → (l.Pairwise fun x y => x.t ≤ y.t) → (l'.Pairwise fun x y => x.t ≤ y.t) → l = l'
  | [], l', hp, _, _, _ => (List.nil_perm.1 hp).symm
  | x :: l, [], hp, _, _, _ => by simp at hp
  | x :: l, y :: l', hp, hn, h1, h2 => by
    have e : x = y := by
      obtain ⟨a1, a2⟩ := List.pairwise_cons.1 h1
      obtain ⟨b1, b2⟩ := List.pairwise_cons.1 h2
      have hx : x ∈ y :: l' := hp.mem_iff.1 List.mem_cons_self
      have hy : y ∈ x :: l := hp.mem_iff.2 List.mem_cons_self
      rcases List.mem_cons.1 hx with h | hx
      · exact h
      rcases List.mem_cons.1 hy with h | hy
      · exact h.symm
      have et : x.t = y.t := List.le_antisymm (a1 y hy) (b1 x hx)
      have hn2 := (List.nodup_cons.1 hn).1
      exact absurd (List.mem_map.2 ⟨y, hy, et.symm⟩) hn2
    subst e
    rw [sorted_eq (List.perm_cons x |>.1 hp) (List.nodup_cons.1 hn).2 (List.pairwise_cons.1 h1).2 (List.pairwise_cons.1 h2).2]
def sortW (l : List Wd) : List Wd := l.mergeSort fun x y => decide (x.t ≤ y.t)
theorem sortW_perm (l : List Wd) : (sortW l).Perm l := List.mergeSort_perm _ _
theorem sortW_le (l : List Wd) : (sortW l).Pairwise fun x y => x.t ≤ y.t := by
  have h := List.pairwise_mergeSort (le := fun x y : Wd => decide (x.t ≤ y.t)) (fun a b c h1 h2 => decide_eq_true (List.le_trans (of_decide_eq_true h1) (of_decide_eq_true h2))) (fun a b => by
    rcases List.le_total a.t b.t with h | h <;> simp [h]) l
  exact h.imp fun h => of_decide_eq_true h
/-- What the library makes of words with different texts. -/
theorem sortW_eq {l l' : List Wd} (hp : l'.Perm l) (hs : SortedBy cfW l') (hn : (l.map Wd.t).Nodup) : l' = sortW l :=
  sorted_eq (hp.trans (sortW_perm l).symm) ((hp.map Wd.t).nodup_iff.2 hn) (sorted_le hs) (sortW_le l)
end Go.Fv.Y

/-! A list without what comes twice, in order of the first places; and how often each is there, as a map has it. -/
namespace Go.Fv.Y
open Go
set_option linter.unusedSimpArgs false
set_option linter.unusedVariables false
set_option linter.unusedSectionVars false
section
variable {α β : Type} [DecidableEq α] [DecidableEq β]
variable {f : α → AV}
end
/-- How many places are left. -/
def left (n : Nat) (seen : List Nat) : Nat := ((List.range n).filter fun j => decide (j ∉ seen)).length
end Go.Fv.Y

/- Tokens of a text: what Split and its reference compute, in plain words. -/
namespace Go.Fv.Y
open Go
set_option linter.unusedSimpArgs false
set_option linter.unusedVariables false
set_option linter.unnecessarySimpa false

abbrev Bytes := List UInt8
/-- A letter. -/
def isL (c : UInt8) : Bool := decide (97 ≤ c.toNat) && decide (c.toNat ≤ 122) || decide (65 ≤ c.toNat) && decide (c.toNat ≤ 90) || decide (128 ≤ c.toNat)
/-- What can be in a word. -/
def inW (c : UInt8) : Bool := isL c || decide (c = 39)
def qu (c : UInt8) : Bool := decide (c = 39)
/-- The quotes before and behind are left out. -/
def preQ (t : Bytes) : Bytes := t.takeWhile qu
def dropQ (t : Bytes) : Bytes := t.dropWhile qu
def dropR (t : Bytes) : Bytes := (t.reverse.dropWhile qu).reverse
def postQ (t : Bytes) : Bytes := (t.reverse.takeWhile qu).reverse
def midQ (t : Bytes) : Bytes := dropR (dropQ t)
def isWd (s : Bytes) : Bool := decide (s ≠ []) && decide (s.length ≤ 40) && isL (s.headD 0) && isL (s.getLastD 0) && s.all inW

abbrev Tok := Bytes × Bool
/-- What is between goes out, if it is something. -/
def flush (out : List Tok) (btw : Bytes) : List Tok := if btw = [] then out else out ++ [(btw, false)]

theorem takeWhile_len_le {α : Type} (p : α → Bool) (l : List α) : (l.takeWhile p).length + (l.dropWhile p).length = l.length := by
  conv => rhs; rw [← List.takeWhile_append_dropWhile (p := p) (l := l)]
  rw [List.length_append]
theorem drop_lt {c : UInt8} {s : Bytes} (h : inW c = true) : ((c :: s).dropWhile inW).length < (c :: s).length := by
  have := takeWhile_len_le inW (c :: s)
  have h2 : 0 < ((c :: s).takeWhile inW).length := by simp [List.takeWhile_cons, h]
  omega
/-- The tokens of what is left, behind those that are there. -/
def toks (s btw : Bytes) (out : List Tok) : List Tok :=
  match s with
  | [] => flush out btw
  | c :: s' => if h : inW c = true then
      if isWd (midQ ((c :: s').takeWhile inW)) = true then
        toks ((c :: s').dropWhile inW) (postQ (dropQ ((c :: s').takeWhile inW))) (flush out (btw ++ preQ ((c :: s').takeWhile inW)) ++ [(midQ ((c :: s').takeWhile inW), true)])
      else toks ((c :: s').dropWhile inW) (btw ++ (c :: s').takeWhile inW) out
    else toks s' (btw ++ [c]) out
termination_by s.length
decreasing_by
  · exact drop_lt h
  · exact drop_lt h
  · simp

theorem toks_nil (btw : Bytes) (out : List Tok) : toks [] btw out = flush out btw := by unfold toks; rfl
theorem toks_other {c : UInt8} {s : Bytes} (h : inW c = false) (btw : Bytes) (out : List Tok) : toks (c :: s) btw out = toks s (btw ++ [c]) out := by
  rw [toks]; simp [h]
theorem toks_word {c : UInt8} {s : Bytes} (h : inW c = true) (btw : Bytes) (out : List Tok) (hw : isWd (midQ ((c :: s).takeWhile inW)) = true) :
    toks (c :: s) btw out = toks ((c :: s).dropWhile inW) (postQ (dropQ ((c :: s).takeWhile inW))) (flush out (btw ++ preQ ((c :: s).takeWhile inW)) ++ [(midQ ((c :: s).takeWhile inW), true)]) := by
  rw [toks, dif_pos h, if_pos hw]
theorem toks_row {c : UInt8} {s : Bytes} (h : inW c = true) (btw : Bytes) (out : List Tok) (hw : ¬ isWd (midQ ((c :: s).takeWhile inW)) = true) :
    toks (c :: s) btw out = toks ((c :: s).dropWhile inW) (btw ++ (c :: s).takeWhile inW) out := by
  rw [toks, dif_pos h, if_neg hw]

/-- All bytes of the tokens. -/
def textOf (l : List Tok) : Bytes := (l.map (·.1)).flatten
theorem textOf_app (a b : List Tok) : textOf (a ++ b) = textOf a ++ textOf b := by simp [textOf]
theorem textOf_flush (out : List Tok) (btw : Bytes) : textOf (flush out btw) = textOf out ++ btw := by
  unfold flush; split
  · rename_i h; simp [h]
  · simp [textOf]
theorem pre_drop (t : Bytes) : preQ t ++ dropQ t = t := List.takeWhile_append_dropWhile
theorem mid_post (t : Bytes) : dropR t ++ postQ t = t := by
  have h := List.takeWhile_append_dropWhile (p := qu) (l := t.reverse)
  have := congrArg List.reverse h
  rw [List.reverse_append, List.reverse_reverse] at this
  exact this
theorem three (t : Bytes) : preQ t ++ (midQ t ++ postQ (dropQ t)) = t := by
  unfold midQ; rw [mid_post, pre_drop]
theorem toks_text : ∀ (n : Nat) (s btw : Bytes) (out : List Tok), s.length ≤ n → textOf (toks s btw out) = textOf out ++ btw ++ s
  | 0, s, btw, out, h => by
    have : s = [] := List.eq_nil_of_length_eq_zero (by omega)
    subst this
    rw [toks_nil, textOf_flush]; simp
  | n + 1, [], btw, out, h => by rw [toks_nil, textOf_flush]; simp
  | n + 1, c :: s, btw, out, h => by
    cases hc : inW c with
    | false =>
      rw [toks_other hc, toks_text n _ _ _ (by simpa using h)]
      simp
    | true =>
      have hd := drop_lt (s := s) hc
      have hj : (c :: s).takeWhile inW ++ (c :: s).dropWhile inW = c :: s := List.takeWhile_append_dropWhile
      have h3 := three ((c :: s).takeWhile inW)
      by_cases hw : isWd (midQ ((c :: s).takeWhile inW)) = true
      · rw [toks_word hc _ _ hw, toks_text n _ _ _ (by omega), textOf_app, textOf_flush]
        have e : textOf [(midQ ((c :: s).takeWhile inW), true)] = midQ ((c :: s).takeWhile inW) := by simp [textOf]
        rw [e]
        have key := congrArg (· ++ (c :: s).dropWhile inW) h3
        simp only [List.append_assoc] at key ⊢
        rw [key, hj]
      · rw [toks_row hc _ _ hw, toks_text n _ _ _ (by omega)]
        conv => rhs; rw [← hj]
        simp only [List.append_assoc]
end Go.Fv.Y

/- Dictionaries. Plain law. -/
namespace Go.Fv.Y
open Go
set_option linter.unusedSimpArgs false
set_option linter.unusedVariables false
set_option linter.unnecessarySimpa false

/-! ### What is wrong with a list -/
def wdE (seen : List Bytes) (w : Wd) : Int := if isWd w.t = false then 2 else if w.c < 1 ∨ 1000000000 < w.c then 3 else if w.t ∈ seen then 6 else 0
def wdEs : List Bytes → List Wd → Int
  | _, [] => 0
  | seen, w :: l => if wdE seen w = 0 then wdEs (seen ++ [w.t]) l else wdE seen w
def dictErr (l : List Wd) : Int := if 5000 < l.length then 4 else wdEs [] l
theorem wdE_zero {seen : List Bytes} {w : Wd} (h : wdE seen w = 0) : isWd w.t = true ∧ (1 ≤ w.c ∧ w.c ≤ 1000000000) ∧ w.t ∉ seen := by
  unfold wdE at h
  split at h
  · cases h
  · rename_i h1
    split at h
    · cases h
    · rename_i h2
      split at h
      · cases h
      · rename_i h3
        exact ⟨by simpa using h1, by omega, h3⟩
structure GoodD (l : List Wd) : Prop where
  len : l.length ≤ 5000
  wd : ∀ w, w ∈ l → isWd w.t = true ∧ (1 ≤ w.c ∧ w.c ≤ 1000000000)
  nd : (l.map Wd.t).Nodup
theorem wdEs_zero : ∀ {l : List Wd} {seen : List Bytes}, seen.Nodup → wdEs seen l = 0 → (∀ w, w ∈ l → isWd w.t = true ∧ (1 ≤ w.c ∧ w.c ≤ 1000000000)) ∧ (seen ++ l.map Wd.t).Nodup
  | [], seen, hn, _ => ⟨fun w h => (by cases h), by simpa using hn⟩
  | w :: l, seen, hn, h => by
    unfold wdEs at h
    split at h
    · rename_i h0
      obtain ⟨h1, h2, h3⟩ := wdE_zero h0
      have hn' : (seen ++ [w.t]).Nodup := List.nodup_append.2 ⟨hn, by simp, fun a ha b hb e => h3 (by rw [List.mem_singleton.1 hb] at e; rw [← e]; exact ha)⟩
      obtain ⟨i1, i2⟩ := wdEs_zero hn' h
      refine ⟨fun x hx => ?_, by rw [List.append_assoc] at i2; exact i2⟩
      rcases List.mem_cons.1 hx with rfl | hx
      · exact ⟨h1, h2⟩
      · exact i1 x hx
    · rename_i h0
      exact absurd h h0
theorem dictErr_zero {l : List Wd} (h : dictErr l = 0) : GoodD l := by
  unfold dictErr at h
  split at h
  · cases h
  · rename_i h0
    obtain ⟨h1, h2⟩ := wdEs_zero List.nodup_nil h
    exact ⟨by omega, h1, by simpa using h2⟩
theorem wdEs_drop (l : List Wd) {i : Nat} (h : i < l.length) (s : List Bytes) : wdEs s (l.drop i) = if wdE s (l.getD i Wd.zero) = 0 then wdEs (s ++ [(l.getD i Wd.zero).t]) (l.drop (i + 1)) else wdE s (l.getD i Wd.zero) := by
  rw [List.drop_eq_getElem_cons h, wdEs, getD_lt h]
/-! ### Counts -/
def cntD (l : List Wd) (x : Bytes) : Int := match l.find? fun w => decide (w.t = x) with | some w => w.c | none => 0
theorem cntD_nil (x : Bytes) : cntD [] x = 0 := rfl
theorem cntD_cons (w : Wd) (l : List Wd) (x : Bytes) : cntD (w :: l) x = if w.t = x then w.c else cntD l x := by
  unfold cntD
  rw [List.find?_cons]
  by_cases h : w.t = x
  · rw [if_pos h]; simp [h]
  · rw [if_neg h]; simp [h]
theorem cntD_mem {l : List Wd} (hn : (l.map Wd.t).Nodup) {w : Wd} (hw : w ∈ l) : cntD l w.t = w.c := by
  induction l with
  | nil => cases hw
  | cons v l ih =>
    rw [cntD_cons]
    obtain ⟨h1, h2⟩ := List.nodup_cons.1 hn
    rcases List.mem_cons.1 hw with rfl | hw
    · rw [if_pos rfl]
    · rw [if_neg (fun e => h1 (List.mem_map.2 ⟨w, hw, e.symm⟩))]
      exact ih h2 hw
theorem cntD_none {l : List Wd} {x : Bytes} (h : x ∉ l.map Wd.t) : cntD l x = 0 := by
  induction l with
  | nil => rfl
  | cons v l ih =>
    simp only [List.map_cons, List.mem_cons, not_or] at h
    rw [cntD_cons, if_neg (fun e => h.1 e.symm)]
    exact ih h.2
theorem cntD_perm {l l' : List Wd} (hp : l'.Perm l) (hn : (l.map Wd.t).Nodup) (x : Bytes) : cntD l' x = cntD l x := by
  by_cases h : x ∈ l.map Wd.t
  · obtain ⟨w, hw, rfl⟩ := List.mem_map.1 h
    rw [cntD_mem hn hw, cntD_mem ((hp.map Wd.t).nodup_iff.2 hn) (hp.mem_iff.2 hw)]
  · rw [cntD_none h, cntD_none fun h2 => h ((hp.map Wd.t).mem_iff.1 h2)]
/-- The map of a list. -/
def dKs (l : List Wd) : List AV := (l.map Wd.t).map .str
def dVs (l : List Wd) : List AV := (l.map Wd.c).map (.int .i64)
theorem getI_d (l : List Wd) (x : Bytes) : getI (dKs l) (dVs l) (.str x) = cntD l x := by
  unfold getI getV dKs dVs
  rw [keyIdx_strs]
  induction l with
  | nil => rfl
  | cons w l ih =>
    rw [cntD_cons, List.map_cons, ixOf]
    by_cases h : w.t = x
    · rw [if_pos h, if_pos h]; rfl
    · rw [if_neg h, if_neg h, ← ih]
      cases ixOf (l.map Wd.t) x with
      | none => rfl
      | some j => simp
theorem updKs_d {l : List Wd} {w : Wd} (h : w.t ∉ l.map Wd.t) : updKs (dKs l) (.str w.t) = dKs (l ++ [w]) := by
  unfold dKs; rw [updKs_strs]; unfold insE; rw [if_neg h]; simp
theorem updVs_d {l : List Wd} {w : Wd} (h : w.t ∉ l.map Wd.t) : updVs (dKs l) (dVs l) (.str w.t) (.int .i64 w.c) = dVs (l ++ [w]) := by
  unfold updVs dKs
  rw [keyIdx_strs, ixOf_none.2 h]
  simp [dVs]
theorem isI_d (l : List Wd) : (dVs l).all (isI .i64) = true := by simp [dVs, isI]
/-! ### Words in order -/
def wsD (l : List Wd) : List Bytes := sortS (l.map Wd.t)
theorem pairwise_eqB : ∀ {l l' : List Bytes}, l.Perm l' → (l.Pairwise fun x y => x ≤ y) → (l'.Pairwise fun x y => x ≤ y) → l = l'
  | [], l', hp, _, _ => (List.nil_perm.1 hp).symm
  | x :: l, [], hp, _, _ => by simp at hp
  | x :: l, y :: l', hp, h1, h2 => by
    obtain ⟨a1, a2⟩ := List.pairwise_cons.1 h1
    obtain ⟨b1, b2⟩ := List.pairwise_cons.1 h2
    have e : x = y := by
      have hx : x ∈ y :: l' := hp.mem_iff.1 List.mem_cons_self
      have hy : y ∈ x :: l := hp.mem_iff.2 List.mem_cons_self
      rcases List.mem_cons.1 hx with h | hx
      · exact h
      rcases List.mem_cons.1 hy with h | hy
      · exact h.symm
      exact List.le_antisymm (a1 y hy) (b1 x hx)
    subst e
    rw [pairwise_eqB (List.perm_cons x |>.1 hp) a2 b2]
theorem sortS_le (l : List Bytes) : (sortS l).Pairwise fun x y => x ≤ y := by
  have h := List.pairwise_mergeSort (le := fun x y : Bytes => decide (x ≤ y)) (fun a b c h1 h2 => decide_eq_true (List.le_trans (of_decide_eq_true h1) (of_decide_eq_true h2))) (fun a b => by
    rcases List.le_total a b with h | h <;> simp [h]) l
  exact h.imp fun h => of_decide_eq_true h
theorem wsD_eq (l : List Wd) : wsD l = (sortW l).map Wd.t :=
  pairwise_eqB ((List.mergeSort_perm _ _).trans ((sortW_perm l).symm.map Wd.t)) (sortS_le _) (List.pairwise_map.2 (sortW_le l))
end Go.Fv.Y

/- Distances of words: what the table, the script and their references compute, in plain words. -/
namespace Go.Fv.Y
open Go
set_option linter.unusedSimpArgs false
set_option linter.unusedVariables false
set_option linter.unnecessarySimpa false

structure Mx where
  f : List UInt8
  t : List UInt8
  c : Int
deriving DecidableEq
/-- A mix in one direction. -/
structure Sw where
  o : List UInt8
  n : List UInt8
  c : Int
deriving DecidableEq
structure St where
  a : Nat
  b : Nat
  c : Int
deriving DecidableEq
def swL (l : List Mx) : List Sw := l.flatMap fun m => [⟨m.f, m.t, m.c⟩, ⟨m.t, m.f, m.c⟩]
structure GoodSw (sw : List Sw) : Prop where
  o : ∀ s, s ∈ sw → s.o ≠ []
  n : ∀ s, s ∈ sw → s.n ≠ []
  ne : ∀ s, s ∈ sw → s.o ≠ s.n
  c0 : ∀ s, s ∈ sw → 0 ≤ s.c
  c1 : ∀ s, s ∈ sw → s.c ≤ 100
  sy : ∀ s, s ∈ sw → (⟨s.n, s.o, s.c⟩ : Sw) ∈ sw

def swSteps (sw : List Sw) (x y : List UInt8) : List St := (sw.filter fun s => s.o.isPrefixOf x && s.n.isPrefixOf y).map fun s => ⟨s.o.length, s.n.length, s.c⟩
/-- The steps at two places, in their order. -/
def steps (sw : List Sw) (x y : List UInt8) : List St :=
  (if x ≠ [] ∧ y ≠ [] ∧ x.headD 0 = y.headD 0 then [⟨1, 1, 0⟩] else []) ++ swSteps sw x y ++ (if x ≠ [] ∧ y ≠ [] then [⟨1, 1, 100⟩] else []) ++ (if x ≠ [] then [⟨1, 0, 100⟩] else []) ++ (if y ≠ [] then [⟨0, 1, 100⟩] else [])
def minL : List Int → Int
  | [] => 0
  | [x] => x
  | x :: y :: l => min x (minL (y :: l))
theorem minL_le : ∀ (l : List Int) (v : Int), v ∈ l → minL l ≤ v
  | [x], v, h => by simp at h; subst h; exact Int.le_refl _
  | x :: y :: l, v, h => by
    simp only [minL]
    cases List.mem_cons.1 h with
    | inl e => subst e; omega
    | inr e => have := minL_le (y :: l) v e; omega
theorem minL_mem : ∀ (l : List Int), l ≠ [] → minL l ∈ l
  | [x], _ => by simp [minL]
  | x :: y :: l, _ => by
    simp only [minL]
    have := minL_mem (y :: l) (by simp)
    rcases Int.le_total x (minL (y :: l)) with h | h
    · rw [Int.min_eq_left h]; exact .head _
    · rw [Int.min_eq_right h]; exact .tail _ this
def distF (sw : List Sw) : Nat → List UInt8 → List UInt8 → Int
  | 0, _, _ => 0
  | k + 1, x, y => minL ((steps sw x y).map fun s => s.c + distF sw k (x.drop s.a) (y.drop s.b))
def dist (sw : List Sw) (x y : List UInt8) : Int := distF sw (x.length + y.length) x y

section
variable {sw : List Sw} (hg : GoodSw sw)
theorem step_cases {x y : List UInt8} {s : St} (h : s ∈ steps sw x y) :
    (x ≠ [] ∧ y ≠ [] ∧ x.headD 0 = y.headD 0 ∧ s = ⟨1, 1, 0⟩) ∨ (∃ q, q ∈ sw ∧ q.o.isPrefixOf x = true ∧ q.n.isPrefixOf y = true ∧ s = ⟨q.o.length, q.n.length, q.c⟩) ∨ (x ≠ [] ∧ y ≠ [] ∧ s = ⟨1, 1, 100⟩) ∨ (x ≠ [] ∧ s = ⟨1, 0, 100⟩) ∨ (y ≠ [] ∧ s = ⟨0, 1, 100⟩) := by
  simp only [steps, swSteps, List.mem_append, List.mem_map, List.mem_filter, Bool.and_eq_true] at h
  rcases h with (((h | ⟨q, ⟨h1, h2, h3⟩, rfl⟩) | h) | h) | h
  · split at h
    · rename_i hc; simp at h; exact .inl ⟨hc.1, hc.2.1, hc.2.2, h⟩
    · simp at h
  · exact .inr (.inl ⟨q, h1, h2, h3, rfl⟩)
  · split at h
    · rename_i hc; simp at h; exact .inr (.inr (.inl ⟨hc.1, hc.2, h⟩))
    · simp at h
  · split at h
    · rename_i hc; simp at h; exact .inr (.inr (.inr (.inl ⟨hc, h⟩)))
    · simp at h
  · split at h
    · rename_i hc; simp at h; exact .inr (.inr (.inr (.inr ⟨hc, h⟩)))
    · simp at h
theorem pos_of_ne {x : List UInt8} (h : x ≠ []) : 1 ≤ x.length := by cases x with
  | nil => exact absurd rfl h
  | cons => simp
theorem prefix_len {o x : List UInt8} (h : o.isPrefixOf x = true) : o.length ≤ x.length := (List.isPrefixOf_iff_prefix.1 h).length_le
include hg
theorem step_bd {x y : List UInt8} {s : St} (h : s ∈ steps sw x y) : s.a ≤ x.length ∧ s.b ≤ y.length ∧ 1 ≤ s.a + s.b ∧ 0 ≤ s.c ∧ s.c ≤ 100 := by
  rcases step_cases h with ⟨h1, h2, _, rfl⟩ | ⟨q, h1, h2, h3, rfl⟩ | ⟨h1, h2, rfl⟩ | ⟨h1, rfl⟩ | ⟨h1, rfl⟩
  · exact ⟨pos_of_ne h1, pos_of_ne h2, by simp, by simp, by simp⟩
  · have := pos_of_ne (hg.o q h1)
    exact ⟨prefix_len h2, prefix_len h3, by show 1 ≤ q.o.length + q.n.length; omega, hg.c0 q h1, hg.c1 q h1⟩
  · exact ⟨pos_of_ne h1, pos_of_ne h2, by simp, by simp, by simp⟩
  · exact ⟨pos_of_ne h1, by simp, by simp, by simp, by simp⟩
  · exact ⟨by simp, pos_of_ne h1, by simp, by simp, by simp⟩
omit hg in
theorem steps_nil (ho : ∀ s, s ∈ sw → s.o ≠ []) : steps sw [] [] = [] := by
  have : swSteps sw [] [] = [] := by
    unfold swSteps
    rw [List.map_eq_nil_iff, List.filter_eq_nil_iff]
    intro s hs
    have := ho s hs
    cases hq : s.o with
    | nil => exact absurd hq this
    | cons => simp [List.isPrefixOf]
  simp [steps, this]
theorem distF_fuel : ∀ (k : Nat) (x y : List UInt8), x.length + y.length ≤ k → distF sw k x y = dist sw x y
  | 0, x, y, h => by
    have e : x.length + y.length = 0 := by omega
    unfold dist; rw [e]
  | k + 1, x, y, h => by
    unfold dist
    cases hn : x.length + y.length with
    | zero =>
      have hx : x = [] := List.eq_nil_of_length_eq_zero (by omega)
      have hy : y = [] := List.eq_nil_of_length_eq_zero (by omega)
      subst hx; subst hy
      simp [distF, steps_nil hg.o, minL]
    | succ m =>
      simp only [distF]
      congr 1
      refine List.map_congr_left fun s hs => ?_
      have hb := step_bd hg hs
      have hl : (x.drop s.a).length + (y.drop s.b).length + (s.a + s.b) = x.length + y.length := by simp; omega
      rw [distF_fuel k _ _ (by omega), distF_fuel m _ _ (by omega)]
theorem dist_eq {x y : List UInt8} (h : ¬ (x = [] ∧ y = [])) : dist sw x y = minL ((steps sw x y).map fun s => s.c + dist sw (x.drop s.a) (y.drop s.b)) := by
  conv => lhs; unfold dist
  cases hn : x.length + y.length with
  | zero =>
    have hx : x = [] := List.eq_nil_of_length_eq_zero (by omega)
    have hy : y = [] := List.eq_nil_of_length_eq_zero (by omega)
    exact absurd ⟨hx, hy⟩ h
  | succ m =>
    simp only [distF]
    congr 1
    refine List.map_congr_left fun s hs => ?_
    have hb := step_bd hg hs
    have hl : (x.drop s.a).length + (y.drop s.b).length + (s.a + s.b) = x.length + y.length := by simp; omega
    rw [distF_fuel hg m _ _ (by omega)]
omit hg in
theorem dist_nil : dist sw [] [] = 0 := rfl
omit hg in
theorem steps_ne {x y : List UInt8} (h : ¬ (x = [] ∧ y = [])) : steps sw x y ≠ [] := by
  intro e
  by_cases hx : x = []
  · have hy : y ≠ [] := fun e => h ⟨hx, e⟩
    have : (⟨0, 1, 100⟩ : St) ∈ steps sw x y := by simp [steps, hy]
    rw [e] at this; simp at this
  · have : (⟨1, 0, 100⟩ : St) ∈ steps sw x y := by simp [steps, hx]
    rw [e] at this; simp at this
omit hg in
theorem steps_eq {x y : List UInt8} (h1 : x ≠ []) (h2 : y ≠ []) (h3 : x.headD 0 = y.headD 0) : (⟨1, 1, 0⟩ : St) ∈ steps sw x y := by
  have : (⟨1, 1, 0⟩ : St) ∈ (if x ≠ [] ∧ y ≠ [] ∧ x.headD 0 = y.headD 0 then [(⟨1, 1, 0⟩ : St)] else []) := by rw [if_pos ⟨h1, h2, h3⟩]; simp
  unfold steps
  simp only [List.mem_append]
  exact .inl (.inl (.inl (.inl this)))
/-- The distance is not more than by any step. -/
theorem dist_le {x y : List UInt8} {s : St} (h : s ∈ steps sw x y) : dist sw x y ≤ s.c + dist sw (x.drop s.a) (y.drop s.b) := by
  have hne : ¬ (x = [] ∧ y = []) := by
    rintro ⟨rfl, rfl⟩
    rw [steps_nil hg.o] at h; simp at h
  rw [dist_eq hg hne]
  exact minL_le _ _ (List.mem_map.2 ⟨s, h, rfl⟩)
theorem dist_step {x y : List UInt8} (h : ¬ (x = [] ∧ y = [])) : ∃ s, s ∈ steps sw x y ∧ s.c + dist sw (x.drop s.a) (y.drop s.b) = dist sw x y := by
  have := minL_mem ((steps sw x y).map fun s => s.c + dist sw (x.drop s.a) (y.drop s.b)) (by simpa using steps_ne h)
  rw [← dist_eq hg h] at this
  obtain ⟨s, hs, he⟩ := List.mem_map.1 this
  exact ⟨s, hs, he⟩
theorem dist_bd : ∀ (k : Nat) (x y : List UInt8), x.length + y.length ≤ k → 0 ≤ dist sw x y ∧ dist sw x y ≤ 100 * (x.length + y.length : Nat)
  | 0, x, y, h => by
    have hx : x = [] := List.eq_nil_of_length_eq_zero (by omega)
    have hy : y = [] := List.eq_nil_of_length_eq_zero (by omega)
    subst hx; subst hy
    simp [dist_nil]
  | k + 1, x, y, h => by
    by_cases hne : x = [] ∧ y = []
    · obtain ⟨rfl, rfl⟩ := hne; simp [dist_nil]
    · obtain ⟨s, hs, he⟩ := dist_step hg hne
      have hb := step_bd hg hs
      have hl : (x.drop s.a).length + (y.drop s.b).length + (s.a + s.b) = x.length + y.length := by simp; omega
      have ih := dist_bd k (x.drop s.a) (y.drop s.b) (by omega)
      refine ⟨by omega, ?_⟩
      have h1 : (∃ s, s ∈ steps sw x y ∧ (s = ⟨1, 0, 100⟩ ∨ s = ⟨0, 1, 100⟩)) := by
        by_cases hx : x = []
        · have hy : y ≠ [] := fun e => hne ⟨hx, e⟩
          exact ⟨⟨0, 1, 100⟩, by simp [steps, hy], .inr rfl⟩
        · exact ⟨⟨1, 0, 100⟩, by simp [steps, hx], .inl rfl⟩
      obtain ⟨q, hq, hq2⟩ := h1
      have hle := dist_le hg hq
      have hb2 := step_bd hg hq
      have hl2 : (x.drop q.a).length + (y.drop q.b).length + (q.a + q.b) = x.length + y.length := by simp; omega
      have ih2 := dist_bd k (x.drop q.a) (y.drop q.b) (by omega)
      have hc : q.c = 100 ∧ q.a + q.b = 1 := by rcases hq2 with rfl | rfl <;> exact ⟨rfl, rfl⟩
      omega
theorem dist_left (y : List UInt8) : dist sw [] y = 100 * (y.length : Int) := by
  induction y with
  | nil => rfl
  | cons c y ih =>
    have hsw : swSteps sw [] (c :: y) = [] := by
      unfold swSteps
      rw [List.map_eq_nil_iff, List.filter_eq_nil_iff]
      intro s hs
      have := hg.o s hs
      cases hq : s.o with
      | nil => exact absurd hq this
      | cons => simp [List.isPrefixOf]
    rw [dist_eq hg (by simp)]
    simp [steps, hsw, minL, ih]
    omega
theorem dist_right (x : List UInt8) : dist sw x [] = 100 * (x.length : Int) := by
  induction x with
  | nil => rfl
  | cons c x ih =>
    have hsw : swSteps sw (c :: x) [] = [] := by
      unfold swSteps
      rw [List.map_eq_nil_iff, List.filter_eq_nil_iff]
      intro s hs
      have := hg.n s hs
      cases hq : s.n with
      | nil => exact absurd hq this
      | cons => simp [List.isPrefixOf]
    rw [dist_eq hg (by simp)]
    simp [steps, hsw, minL, ih]
    omega
end

/-! ### The script -/
structure Sl where
  at_ : Nat
  o : List UInt8
  n : List UInt8
  c : Int
deriving DecidableEq
def pick (sw : List Sw) (x y : List UInt8) : St := ((steps sw x y).find? fun s => decide (s.c + dist sw (x.drop s.a) (y.drop s.b) = dist sw x y)).getD ⟨0, 1, 100⟩
def scr (sw : List Sw) : Nat → Nat → List UInt8 → List UInt8 → List Sl
  | 0, _, _, _ => []
  | k + 1, i, x, y => if x = [] ∧ y = [] then [] else
    (if x.take (pick sw x y).a = y.take (pick sw x y).b then [] else [⟨i, x.take (pick sw x y).a, y.take (pick sw x y).b, (pick sw x y).c⟩]) ++ scr sw k (i + (pick sw x y).a) (x.drop (pick sw x y).a) (y.drop (pick sw x y).b)
def script (sw : List Sw) (i : Nat) (x y : List UInt8) : List Sl := scr sw (x.length + y.length) i x y
section
variable {sw : List Sw} (hg : GoodSw sw)
include hg
theorem pick_mem {x y : List UInt8} (h : ¬ (x = [] ∧ y = [])) : pick sw x y ∈ steps sw x y ∧ (pick sw x y).c + dist sw (x.drop (pick sw x y).a) (y.drop (pick sw x y).b) = dist sw x y := by
  unfold pick
  obtain ⟨s, hs, he⟩ := dist_step hg h
  cases hq : (steps sw x y).find? fun s => decide (s.c + dist sw (x.drop s.a) (y.drop s.b) = dist sw x y) with
  | none =>
    rw [List.find?_eq_none] at hq
    exact absurd (by simpa using he) (hq s hs)
  | some q =>
    have h1 := List.mem_of_find?_eq_some hq
    have h2 := List.find?_some hq
    exact ⟨h1, by simpa using h2⟩
theorem pick_bd {x y : List UInt8} (h : ¬ (x = [] ∧ y = [])) : (pick sw x y).a ≤ x.length ∧ (pick sw x y).b ≤ y.length ∧ 1 ≤ (pick sw x y).a + (pick sw x y).b ∧ 0 ≤ (pick sw x y).c ∧ (pick sw x y).c ≤ 100 := step_bd hg (pick_mem hg h).1
theorem scr_fuel : ∀ (k i : Nat) (x y : List UInt8), x.length + y.length ≤ k → scr sw k i x y = script sw i x y
  | 0, i, x, y, h => by
    have e : x.length + y.length = 0 := by omega
    unfold script; rw [e]
  | k + 1, i, x, y, h => by
    unfold script
    cases hn : x.length + y.length with
    | zero =>
      have hx : x = [] := List.eq_nil_of_length_eq_zero (by omega)
      have hy : y = [] := List.eq_nil_of_length_eq_zero (by omega)
      subst hx; subst hy
      simp [scr]
    | succ m =>
      simp only [scr]
      split
      · rfl
      · rename_i hne
        have hb := pick_bd hg hne
        have hl : (x.drop (pick sw x y).a).length + (y.drop (pick sw x y).b).length + ((pick sw x y).a + (pick sw x y).b) = x.length + y.length := by simp; omega
        rw [scr_fuel k _ _ _ (by omega), scr_fuel m _ _ _ (by omega)]
omit hg in
theorem script_nil (i : Nat) : script sw i [] [] = [] := rfl
theorem script_eq {i : Nat} {x y : List UInt8} (h : ¬ (x = [] ∧ y = [])) : script sw i x y =
    (if x.take (pick sw x y).a = y.take (pick sw x y).b then [] else [⟨i, x.take (pick sw x y).a, y.take (pick sw x y).b, (pick sw x y).c⟩]) ++ script sw (i + (pick sw x y).a) (x.drop (pick sw x y).a) (y.drop (pick sw x y).b) := by
  conv => lhs; unfold script
  cases hn : x.length + y.length with
  | zero =>
    have hx : x = [] := List.eq_nil_of_length_eq_zero (by omega)
    have hy : y = [] := List.eq_nil_of_length_eq_zero (by omega)
    exact absurd ⟨hx, hy⟩ h
  | succ m =>
    simp only [scr, if_neg h]
    have hb := pick_bd hg h
    have hl : (x.drop (pick sw x y).a).length + (y.drop (pick sw x y).b).length + ((pick sw x y).a + (pick sw x y).b) = x.length + y.length := by simp; omega
    rw [scr_fuel hg m _ _ _ (by omega)]
end
end Go.Fv.Y

/- Lists of mixes: what is wrong with them, in plain words. -/
namespace Go.Fv.Y
open Go
set_option linter.unusedSimpArgs false
set_option linter.unusedVariables false
set_option linter.unnecessarySimpa false

def partOk (s : List UInt8) : Bool := decide (1 ≤ s.length) && decide (s.length ≤ 3)
abbrev Key := List UInt8 × List UInt8
def Mx.key (m : Mx) : Key := (m.f, m.t)
def mixE (seen : List Key) (m : Mx) : Int :=
  if partOk m.f = false ∨ partOk m.t = false ∨ m.f = m.t then 2 else if m.c < 0 ∨ 100 < m.c then 3 else if m.key ∈ seen then 6 else 0
def mixEs (seen : List Key) : List Mx → Int
  | [] => 0
  | m :: l => if mixE seen m = 0 then mixEs (seen ++ [m.key]) l else mixE seen m
def mixErr (l : List Mx) : Int := if 200 < l.length then 4 else mixEs [] l
theorem mixE_zero {seen : List Key} {m : Mx} (h : mixE seen m = 0) : partOk m.f = true ∧ partOk m.t = true ∧ m.f ≠ m.t ∧ 0 ≤ m.c ∧ m.c ≤ 100 ∧ m.key ∉ seen := by
  unfold mixE at h
  split at h
  · omega
  · rename_i h1
    split at h
    · omega
    · rename_i h2
      split at h
      · omega
      · rename_i h3
        simp only [not_or, Bool.not_eq_false] at h1
        exact ⟨h1.1, h1.2.1, h1.2.2, by omega, by omega, h3⟩
theorem mixEs_zero : ∀ {l : List Mx} {seen : List Key}, mixEs seen l = 0 → ∀ m, m ∈ l → partOk m.f = true ∧ partOk m.t = true ∧ m.f ≠ m.t ∧ 0 ≤ m.c ∧ m.c ≤ 100
  | x :: l, seen, h, m, hm => by
    simp only [mixEs] at h
    split at h
    · rename_i h1
      cases List.mem_cons.1 hm with
      | inl e => subst e; have := mixE_zero h1; exact ⟨this.1, this.2.1, this.2.2.1, this.2.2.2.1, this.2.2.2.2.1⟩
      | inr e => exact mixEs_zero h m e
    · rename_i h1; exact absurd h h1
theorem mixErr_zero {l : List Mx} (h : mixErr l = 0) : l.length ≤ 200 ∧ ∀ m, m ∈ l → partOk m.f = true ∧ partOk m.t = true ∧ m.f ≠ m.t ∧ 0 ≤ m.c ∧ m.c ≤ 100 := by
  unfold mixErr at h
  split at h
  · omega
  · rename_i h1; exact ⟨by omega, mixEs_zero h⟩
theorem mem_swL {l : List Mx} {s : Sw} : s ∈ swL l ↔ ∃ m, m ∈ l ∧ (s = ⟨m.f, m.t, m.c⟩ ∨ s = ⟨m.t, m.f, m.c⟩) := by
  simp [swL, List.mem_flatMap]
theorem part_ne {s : List UInt8} (h : partOk s = true) : s ≠ [] := by
  rintro rfl; simp [partOk] at h
theorem good_swL {l : List Mx} (h : ∀ m, m ∈ l → partOk m.f = true ∧ partOk m.t = true ∧ m.f ≠ m.t ∧ 0 ≤ m.c ∧ m.c ≤ 100) : GoodSw (swL l) := by
  have key : ∀ s, s ∈ swL l → s.o ≠ [] ∧ s.n ≠ [] ∧ s.o ≠ s.n ∧ 0 ≤ s.c ∧ s.c ≤ 100 ∧ (⟨s.n, s.o, s.c⟩ : Sw) ∈ swL l := by
    intro s hs
    obtain ⟨m, hm, hq⟩ := mem_swL.1 hs
    obtain ⟨h1, h2, h3, h4, h5⟩ := h m hm
    rcases hq with rfl | rfl
    · exact ⟨part_ne h1, part_ne h2, h3, h4, h5, mem_swL.2 ⟨m, hm, .inr rfl⟩⟩
    · exact ⟨part_ne h2, part_ne h1, fun e => h3 e.symm, h4, h5, mem_swL.2 ⟨m, hm, .inl rfl⟩⟩
  exact ⟨fun s hs => (key s hs).1, fun s hs => (key s hs).2.1, fun s hs => (key s hs).2.2.1, fun s hs => (key s hs).2.2.2.1, fun s hs => (key s hs).2.2.2.2.1, fun s hs => (key s hs).2.2.2.2.2⟩
/-- Those that are right, out of the first. -/
def mixSel (acc : List Mx) : List Mx → List Mx
  | [] => acc
  | m :: l => mixSel (if mixErr (acc ++ [m]) = 0 then acc ++ [m] else acc) l
end Go.Fv.Y
