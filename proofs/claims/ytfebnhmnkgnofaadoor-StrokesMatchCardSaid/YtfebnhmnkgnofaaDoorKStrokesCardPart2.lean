/-
  A part of the proof of the claim: walks over the program's functions and the plain laws that these need. No condition of its own.
-/
import Derived.Test.YtfebnhmnkgnofaaDoorFvPart7
import Derived.Test.YtfebnhmnkgnofaaDoorProg
/- Facts about the program's types: each shown by reckoning it out. -/

namespace Go.Fv.K
open Go Go.Proofs
theorem e1 : ElemZ Tryd.prog 1 (.nilFunc) := .of (by kernel_rfl) (by kernel_rfl)
theorem z1 : zeroOf Tryd.prog 1 = some (.nilFunc) := e1.zero
theorem c1 : Tryd.prog.cellsOf 1 = 1 := e1.cellsOf
theorem e2 : ElemZ Tryd.prog 2 (.int .i64 0) := .of (by kernel_rfl) (by kernel_rfl)
theorem z2 : zeroOf Tryd.prog 2 = some (.int .i64 0) := e2.zero
theorem c2 : Tryd.prog.cellsOf 2 = 1 := e2.cellsOf
theorem e3 : ElemZ Tryd.prog 3 (.int .i64 0) := .of (by kernel_rfl) (by kernel_rfl)
theorem z3 : zeroOf Tryd.prog 3 = some (.int .i64 0) := e3.zero
theorem c3 : Tryd.prog.cellsOf 3 = 1 := e3.cellsOf
theorem e4 : ElemZ Tryd.prog 4 (.bool false) := .of (by kernel_rfl) (by kernel_rfl)
theorem z4 : zeroOf Tryd.prog 4 = some (.bool false) := e4.zero
theorem c4 : Tryd.prog.cellsOf 4 = 1 := e4.cellsOf
theorem e5 : ElemZ Tryd.prog 5 (.int .u8 0) := .of (by kernel_rfl) (by kernel_rfl)
theorem z5 : zeroOf Tryd.prog 5 = some (.int .u8 0) := e5.zero
theorem c5 : Tryd.prog.cellsOf 5 = 1 := e5.cellsOf
theorem e6 : ElemZ Tryd.prog 6 (.int .u8 0) := .of (by kernel_rfl) (by kernel_rfl)
theorem z6 : zeroOf Tryd.prog 6 = some (.int .u8 0) := e6.zero
theorem c6 : Tryd.prog.cellsOf 6 = 1 := e6.cellsOf
theorem e7 : ElemZ Tryd.prog 7 (.agg #[.int .i64 0, .int .i64 0, .bool false, .int .u8 0]) := .of (by kernel_rfl) (by kernel_rfl)
theorem z7 : zeroOf Tryd.prog 7 = some (.agg #[.int .i64 0, .int .i64 0, .bool false, .int .u8 0]) := e7.zero
theorem c7 : Tryd.prog.cellsOf 7 = 4 := e7.cellsOf
theorem e8 : ElemZ Tryd.prog 8 (.agg #[.int .i64 0, .int .i64 0, .bool false, .int .u8 0]) := .of (by kernel_rfl) (by kernel_rfl)
theorem z8 : zeroOf Tryd.prog 8 = some (.agg #[.int .i64 0, .int .i64 0, .bool false, .int .u8 0]) := e8.zero
theorem c8 : Tryd.prog.cellsOf 8 = 4 := e8.cellsOf
theorem e9 : ElemZ Tryd.prog 9 (.string ⟨#[]⟩) := .of (by kernel_rfl) (by kernel_rfl)
theorem z9 : zeroOf Tryd.prog 9 = some (.string ⟨#[]⟩) := e9.zero
theorem c9 : Tryd.prog.cellsOf 9 = 1 := e9.cellsOf
theorem e10 : ElemZ Tryd.prog 10 (.string ⟨#[]⟩) := .of (by kernel_rfl) (by kernel_rfl)
theorem z10 : zeroOf Tryd.prog 10 = some (.string ⟨#[]⟩) := e10.zero
theorem c10 : Tryd.prog.cellsOf 10 = 1 := e10.cellsOf
theorem e11 : ElemZ Tryd.prog 11 (.string ⟨#[]⟩) := .of (by kernel_rfl) (by kernel_rfl)
theorem z11 : zeroOf Tryd.prog 11 = some (.string ⟨#[]⟩) := e11.zero
theorem c11 : Tryd.prog.cellsOf 11 = 1 := e11.cellsOf
theorem e12 : ElemZ Tryd.prog 12 (.int .u64 0) := .of (by kernel_rfl) (by kernel_rfl)
theorem z12 : zeroOf Tryd.prog 12 = some (.int .u64 0) := e12.zero
theorem c12 : Tryd.prog.cellsOf 12 = 1 := e12.cellsOf
theorem e13 : ElemZ Tryd.prog 13 (.agg #[.string ⟨#[]⟩, .int .u64 0]) := .of (by kernel_rfl) (by kernel_rfl)
theorem z13 : zeroOf Tryd.prog 13 = some (.agg #[.string ⟨#[]⟩, .int .u64 0]) := e13.zero
theorem c13 : Tryd.prog.cellsOf 13 = 2 := e13.cellsOf
theorem e14 : ElemZ Tryd.prog 14 (.agg #[.string ⟨#[]⟩, .int .u64 0]) := .of (by kernel_rfl) (by kernel_rfl)
theorem z14 : zeroOf Tryd.prog 14 = some (.agg #[.string ⟨#[]⟩, .int .u64 0]) := e14.zero
theorem c14 : Tryd.prog.cellsOf 14 = 2 := e14.cellsOf
theorem e15 : ElemZ Tryd.prog 15 (.pointer none) := .of (by kernel_rfl) (by kernel_rfl)
theorem z15 : zeroOf Tryd.prog 15 = some (.pointer none) := e15.zero
theorem c15 : Tryd.prog.cellsOf 15 = 1 := e15.cellsOf
theorem e16 : ElemZ Tryd.prog 16 (.pointer none) := .of (by kernel_rfl) (by kernel_rfl)
theorem z16 : zeroOf Tryd.prog 16 = some (.pointer none) := e16.zero
theorem c16 : Tryd.prog.cellsOf 16 = 1 := e16.cellsOf
theorem e17 : ElemZ Tryd.prog 17 (.pointer none) := .of (by kernel_rfl) (by kernel_rfl)
theorem z17 : zeroOf Tryd.prog 17 = some (.pointer none) := e17.zero
theorem c17 : Tryd.prog.cellsOf 17 = 1 := e17.cellsOf
theorem e18 : ElemZ Tryd.prog 18 (.agg #[.pointer none]) := .of (by kernel_rfl) (by kernel_rfl)
theorem z18 : zeroOf Tryd.prog 18 = some (.agg #[.pointer none]) := e18.zero
theorem c18 : Tryd.prog.cellsOf 18 = 1 := e18.cellsOf
theorem e19 : ElemZ Tryd.prog 19 (.agg #[.pointer none]) := .of (by kernel_rfl) (by kernel_rfl)
theorem z19 : zeroOf Tryd.prog 19 = some (.agg #[.pointer none]) := e19.zero
theorem c19 : Tryd.prog.cellsOf 19 = 1 := e19.cellsOf
theorem e20 : ElemZ Tryd.prog 20 (.nilIface) := .of (by kernel_rfl) (by kernel_rfl)
theorem z20 : zeroOf Tryd.prog 20 = some (.nilIface) := e20.zero
theorem c20 : Tryd.prog.cellsOf 20 = 1 := e20.cellsOf
theorem e21 : ElemZ Tryd.prog 21 (.int .i32 0) := .of (by kernel_rfl) (by kernel_rfl)
theorem z21 : zeroOf Tryd.prog 21 = some (.int .i32 0) := e21.zero
theorem c21 : Tryd.prog.cellsOf 21 = 1 := e21.cellsOf
theorem e22 : ElemZ Tryd.prog 22 (.slice none 0 0) := .of (by kernel_rfl) (by kernel_rfl)
theorem z22 : zeroOf Tryd.prog 22 = some (.slice none 0 0) := e22.zero
theorem c22 : Tryd.prog.cellsOf 22 = 1 := e22.cellsOf
theorem e23 : ElemZ Tryd.prog 23 (.agg #[.int .i64 0, .int .i64 0, .slice none 0 0]) := .of (by kernel_rfl) (by kernel_rfl)
theorem z23 : zeroOf Tryd.prog 23 = some (.agg #[.int .i64 0, .int .i64 0, .slice none 0 0]) := e23.zero
theorem c23 : Tryd.prog.cellsOf 23 = 3 := e23.cellsOf
theorem e24 : ElemZ Tryd.prog 24 (.agg #[.int .i64 0, .int .i64 0, .slice none 0 0]) := .of (by kernel_rfl) (by kernel_rfl)
theorem z24 : zeroOf Tryd.prog 24 = some (.agg #[.int .i64 0, .int .i64 0, .slice none 0 0]) := e24.zero
theorem c24 : Tryd.prog.cellsOf 24 = 3 := e24.cellsOf
theorem e25 : ElemZ Tryd.prog 25 (.nilFunc) := .of (by kernel_rfl) (by kernel_rfl)
theorem z25 : zeroOf Tryd.prog 25 = some (.nilFunc) := e25.zero
theorem c25 : Tryd.prog.cellsOf 25 = 1 := e25.cellsOf
theorem e26 : ElemZ Tryd.prog 26 (.nilFunc) := .of (by kernel_rfl) (by kernel_rfl)
theorem z26 : zeroOf Tryd.prog 26 = some (.nilFunc) := e26.zero
theorem c26 : Tryd.prog.cellsOf 26 = 1 := e26.cellsOf
theorem e27 : ElemZ Tryd.prog 27 (.slice none 0 0) := .of (by kernel_rfl) (by kernel_rfl)
theorem z27 : zeroOf Tryd.prog 27 = some (.slice none 0 0) := e27.zero
theorem c27 : Tryd.prog.cellsOf 27 = 1 := e27.cellsOf
theorem e28 : ElemZ Tryd.prog 28 (.agg #[.int .i64 0, .int .i64 0, .slice none 0 0]) := .of (by kernel_rfl) (by kernel_rfl)
theorem z28 : zeroOf Tryd.prog 28 = some (.agg #[.int .i64 0, .int .i64 0, .slice none 0 0]) := e28.zero
theorem c28 : Tryd.prog.cellsOf 28 = 3 := e28.cellsOf
theorem e29 : ElemZ Tryd.prog 29 (.agg #[.int .i64 0, .int .i64 0, .slice none 0 0]) := .of (by kernel_rfl) (by kernel_rfl)
theorem z29 : zeroOf Tryd.prog 29 = some (.agg #[.int .i64 0, .int .i64 0, .slice none 0 0]) := e29.zero
theorem c29 : Tryd.prog.cellsOf 29 = 3 := e29.cellsOf
theorem e30 : ElemZ Tryd.prog 30 (.int .i64 0) := .of (by kernel_rfl) (by kernel_rfl)
theorem z30 : zeroOf Tryd.prog 30 = some (.int .i64 0) := e30.zero
theorem c30 : Tryd.prog.cellsOf 30 = 1 := e30.cellsOf
theorem e32 : ElemZ Tryd.prog 32 (.nilFunc) := .of (by kernel_rfl) (by kernel_rfl)
theorem z32 : zeroOf Tryd.prog 32 = some (.nilFunc) := e32.zero
theorem c32 : Tryd.prog.cellsOf 32 = 1 := e32.cellsOf
theorem e33 : ElemZ Tryd.prog 33 (.nilFunc) := .of (by kernel_rfl) (by kernel_rfl)
theorem z33 : zeroOf Tryd.prog 33 = some (.nilFunc) := e33.zero
theorem c33 : Tryd.prog.cellsOf 33 = 1 := e33.cellsOf
theorem e34 : ElemZ Tryd.prog 34 (.nilFunc) := .of (by kernel_rfl) (by kernel_rfl)
theorem z34 : zeroOf Tryd.prog 34 = some (.nilFunc) := e34.zero
theorem c34 : Tryd.prog.cellsOf 34 = 1 := e34.cellsOf
theorem e35 : ElemZ Tryd.prog 35 (.nilFunc) := .of (by kernel_rfl) (by kernel_rfl)
theorem z35 : zeroOf Tryd.prog 35 = some (.nilFunc) := e35.zero
theorem c35 : Tryd.prog.cellsOf 35 = 1 := e35.cellsOf
theorem e36 : ElemZ Tryd.prog 36 (.nilFunc) := .of (by kernel_rfl) (by kernel_rfl)
theorem z36 : zeroOf Tryd.prog 36 = some (.nilFunc) := e36.zero
theorem c36 : Tryd.prog.cellsOf 36 = 1 := e36.cellsOf
theorem e37 : ElemZ Tryd.prog 37 (.nilFunc) := .of (by kernel_rfl) (by kernel_rfl)
theorem z37 : zeroOf Tryd.prog 37 = some (.nilFunc) := e37.zero
theorem c37 : Tryd.prog.cellsOf 37 = 1 := e37.cellsOf
theorem e38 : ElemZ Tryd.prog 38 (.nilFunc) := .of (by kernel_rfl) (by kernel_rfl)
theorem z38 : zeroOf Tryd.prog 38 = some (.nilFunc) := e38.zero
theorem c38 : Tryd.prog.cellsOf 38 = 1 := e38.cellsOf
theorem e39 : ElemZ Tryd.prog 39 (.nilFunc) := .of (by kernel_rfl) (by kernel_rfl)
theorem z39 : zeroOf Tryd.prog 39 = some (.nilFunc) := e39.zero
theorem c39 : Tryd.prog.cellsOf 39 = 1 := e39.cellsOf
theorem e40 : ElemZ Tryd.prog 40 (.nilFunc) := .of (by kernel_rfl) (by kernel_rfl)
theorem z40 : zeroOf Tryd.prog 40 = some (.nilFunc) := e40.zero
theorem c40 : Tryd.prog.cellsOf 40 = 1 := e40.cellsOf
theorem e42 : ElemZ Tryd.prog 42 (.nilFunc) := .of (by kernel_rfl) (by kernel_rfl)
theorem z42 : zeroOf Tryd.prog 42 = some (.nilFunc) := e42.zero
theorem c42 : Tryd.prog.cellsOf 42 = 1 := e42.cellsOf
theorem e43 : ElemZ Tryd.prog 43 (.nilFunc) := .of (by kernel_rfl) (by kernel_rfl)
theorem z43 : zeroOf Tryd.prog 43 = some (.nilFunc) := e43.zero
theorem c43 : Tryd.prog.cellsOf 43 = 1 := e43.cellsOf
theorem e44 : ElemZ Tryd.prog 44 (.nilFunc) := .of (by kernel_rfl) (by kernel_rfl)
theorem z44 : zeroOf Tryd.prog 44 = some (.nilFunc) := e44.zero
theorem c44 : Tryd.prog.cellsOf 44 = 1 := e44.cellsOf
theorem e45 : ElemZ Tryd.prog 45 (.nilFunc) := .of (by kernel_rfl) (by kernel_rfl)
theorem z45 : zeroOf Tryd.prog 45 = some (.nilFunc) := e45.zero
theorem c45 : Tryd.prog.cellsOf 45 = 1 := e45.cellsOf
theorem e46 : ElemZ Tryd.prog 46 (.nilFunc) := .of (by kernel_rfl) (by kernel_rfl)
theorem z46 : zeroOf Tryd.prog 46 = some (.nilFunc) := e46.zero
theorem c46 : Tryd.prog.cellsOf 46 = 1 := e46.cellsOf
theorem e47 : ElemZ Tryd.prog 47 (.nilFunc) := .of (by kernel_rfl) (by kernel_rfl)
theorem z47 : zeroOf Tryd.prog 47 = some (.nilFunc) := e47.zero
theorem c47 : Tryd.prog.cellsOf 47 = 1 := e47.cellsOf
theorem e48 : ElemZ Tryd.prog 48 (.nilFunc) := .of (by kernel_rfl) (by kernel_rfl)
theorem z48 : zeroOf Tryd.prog 48 = some (.nilFunc) := e48.zero
theorem c48 : Tryd.prog.cellsOf 48 = 1 := e48.cellsOf
theorem e49 : ElemZ Tryd.prog 49 (.nilFunc) := .of (by kernel_rfl) (by kernel_rfl)
theorem z49 : zeroOf Tryd.prog 49 = some (.nilFunc) := e49.zero
theorem c49 : Tryd.prog.cellsOf 49 = 1 := e49.cellsOf
theorem e50 : ElemZ Tryd.prog 50 (.nilFunc) := .of (by kernel_rfl) (by kernel_rfl)
theorem z50 : zeroOf Tryd.prog 50 = some (.nilFunc) := e50.zero
theorem c50 : Tryd.prog.cellsOf 50 = 1 := e50.cellsOf
theorem e51 : ElemZ Tryd.prog 51 (.nilFunc) := .of (by kernel_rfl) (by kernel_rfl)
theorem z51 : zeroOf Tryd.prog 51 = some (.nilFunc) := e51.zero
theorem c51 : Tryd.prog.cellsOf 51 = 1 := e51.cellsOf
theorem e53 : ElemZ Tryd.prog 53 (.nilFunc) := .of (by kernel_rfl) (by kernel_rfl)
theorem z53 : zeroOf Tryd.prog 53 = some (.nilFunc) := e53.zero
theorem c53 : Tryd.prog.cellsOf 53 = 1 := e53.cellsOf
theorem e55 : ElemZ Tryd.prog 55 (.nilFunc) := .of (by kernel_rfl) (by kernel_rfl)
theorem z55 : zeroOf Tryd.prog 55 = some (.nilFunc) := e55.zero
theorem c55 : Tryd.prog.cellsOf 55 = 1 := e55.cellsOf
theorem e56 : ElemZ Tryd.prog 56 (.nilFunc) := .of (by kernel_rfl) (by kernel_rfl)
theorem z56 : zeroOf Tryd.prog 56 = some (.nilFunc) := e56.zero
theorem c56 : Tryd.prog.cellsOf 56 = 1 := e56.cellsOf
theorem e58 : ElemZ Tryd.prog 58 (.nilFunc) := .of (by kernel_rfl) (by kernel_rfl)
theorem z58 : zeroOf Tryd.prog 58 = some (.nilFunc) := e58.zero
theorem c58 : Tryd.prog.cellsOf 58 = 1 := e58.cellsOf
theorem e59 : ElemZ Tryd.prog 59 (.nilFunc) := .of (by kernel_rfl) (by kernel_rfl)
theorem z59 : zeroOf Tryd.prog 59 = some (.nilFunc) := e59.zero
theorem c59 : Tryd.prog.cellsOf 59 = 1 := e59.cellsOf
theorem e60 : ElemZ Tryd.prog 60 (.nilFunc) := .of (by kernel_rfl) (by kernel_rfl)
theorem z60 : zeroOf Tryd.prog 60 = some (.nilFunc) := e60.zero
theorem c60 : Tryd.prog.cellsOf 60 = 1 := e60.cellsOf
theorem e61 : ElemZ Tryd.prog 61 (.nilFunc) := .of (by kernel_rfl) (by kernel_rfl)
theorem z61 : zeroOf Tryd.prog 61 = some (.nilFunc) := e61.zero
theorem c61 : Tryd.prog.cellsOf 61 = 1 := e61.cellsOf
theorem e62 : ElemZ Tryd.prog 62 (.nilFunc) := .of (by kernel_rfl) (by kernel_rfl)
theorem z62 : zeroOf Tryd.prog 62 = some (.nilFunc) := e62.zero
theorem c62 : Tryd.prog.cellsOf 62 = 1 := e62.cellsOf
theorem e63 : ElemZ Tryd.prog 63 (.nilFunc) := .of (by kernel_rfl) (by kernel_rfl)
theorem z63 : zeroOf Tryd.prog 63 = some (.nilFunc) := e63.zero
theorem c63 : Tryd.prog.cellsOf 63 = 1 := e63.cellsOf
theorem e64 : ElemZ Tryd.prog 64 (.nilFunc) := .of (by kernel_rfl) (by kernel_rfl)
theorem z64 : zeroOf Tryd.prog 64 = some (.nilFunc) := e64.zero
theorem c64 : Tryd.prog.cellsOf 64 = 1 := e64.cellsOf
theorem e65 : ElemZ Tryd.prog 65 (.nilFunc) := .of (by kernel_rfl) (by kernel_rfl)
theorem z65 : zeroOf Tryd.prog 65 = some (.nilFunc) := e65.zero
theorem c65 : Tryd.prog.cellsOf 65 = 1 := e65.cellsOf
theorem e66 : ElemZ Tryd.prog 66 (.nilFunc) := .of (by kernel_rfl) (by kernel_rfl)
theorem z66 : zeroOf Tryd.prog 66 = some (.nilFunc) := e66.zero
theorem c66 : Tryd.prog.cellsOf 66 = 1 := e66.cellsOf
theorem e67 : ElemZ Tryd.prog 67 (.nilFunc) := .of (by kernel_rfl) (by kernel_rfl)
theorem z67 : zeroOf Tryd.prog 67 = some (.nilFunc) := e67.zero
theorem c67 : Tryd.prog.cellsOf 67 = 1 := e67.cellsOf
theorem e68 : ElemZ Tryd.prog 68 (.nilFunc) := .of (by kernel_rfl) (by kernel_rfl)
theorem z68 : zeroOf Tryd.prog 68 = some (.nilFunc) := e68.zero
theorem c68 : Tryd.prog.cellsOf 68 = 1 := e68.cellsOf
theorem e69 : ElemZ Tryd.prog 69 (.nilFunc) := .of (by kernel_rfl) (by kernel_rfl)
theorem z69 : zeroOf Tryd.prog 69 = some (.nilFunc) := e69.zero
theorem c69 : Tryd.prog.cellsOf 69 = 1 := e69.cellsOf
theorem e70 : ElemZ Tryd.prog 70 (.nilFunc) := .of (by kernel_rfl) (by kernel_rfl)
theorem z70 : zeroOf Tryd.prog 70 = some (.nilFunc) := e70.zero
theorem c70 : Tryd.prog.cellsOf 70 = 1 := e70.cellsOf
theorem e71 : ElemZ Tryd.prog 71 (.pointer none) := .of (by kernel_rfl) (by kernel_rfl)
theorem z71 : zeroOf Tryd.prog 71 = some (.pointer none) := e71.zero
theorem c71 : Tryd.prog.cellsOf 71 = 1 := e71.cellsOf
theorem e72 : ElemZ Tryd.prog 72 (.nilFunc) := .of (by kernel_rfl) (by kernel_rfl)
theorem z72 : zeroOf Tryd.prog 72 = some (.nilFunc) := e72.zero
theorem c72 : Tryd.prog.cellsOf 72 = 1 := e72.cellsOf
theorem e73 : ElemZ Tryd.prog 73 (.nilFunc) := .of (by kernel_rfl) (by kernel_rfl)
theorem z73 : zeroOf Tryd.prog 73 = some (.nilFunc) := e73.zero
theorem c73 : Tryd.prog.cellsOf 73 = 1 := e73.cellsOf
theorem e74 : ElemZ Tryd.prog 74 (.nilFunc) := .of (by kernel_rfl) (by kernel_rfl)
theorem z74 : zeroOf Tryd.prog 74 = some (.nilFunc) := e74.zero
theorem c74 : Tryd.prog.cellsOf 74 = 1 := e74.cellsOf
theorem e76 : ElemZ Tryd.prog 76 (.nilFunc) := .of (by kernel_rfl) (by kernel_rfl)
theorem z76 : zeroOf Tryd.prog 76 = some (.nilFunc) := e76.zero
theorem c76 : Tryd.prog.cellsOf 76 = 1 := e76.cellsOf
theorem e77 : ElemZ Tryd.prog 77 (.slice none 0 0) := .of (by kernel_rfl) (by kernel_rfl)
theorem z77 : zeroOf Tryd.prog 77 = some (.slice none 0 0) := e77.zero
theorem c77 : Tryd.prog.cellsOf 77 = 1 := e77.cellsOf
theorem e78 : ElemZ Tryd.prog 78 (.nilFunc) := .of (by kernel_rfl) (by kernel_rfl)
theorem z78 : zeroOf Tryd.prog 78 = some (.nilFunc) := e78.zero
theorem c78 : Tryd.prog.cellsOf 78 = 1 := e78.cellsOf
theorem e79 : ElemZ Tryd.prog 79 (.nilFunc) := .of (by kernel_rfl) (by kernel_rfl)
theorem z79 : zeroOf Tryd.prog 79 = some (.nilFunc) := e79.zero
theorem c79 : Tryd.prog.cellsOf 79 = 1 := e79.cellsOf
theorem e80 : ElemZ Tryd.prog 80 (.nilFunc) := .of (by kernel_rfl) (by kernel_rfl)
theorem z80 : zeroOf Tryd.prog 80 = some (.nilFunc) := e80.zero
theorem c80 : Tryd.prog.cellsOf 80 = 1 := e80.cellsOf
theorem e82 : ElemZ Tryd.prog 82 (.nilFunc) := .of (by kernel_rfl) (by kernel_rfl)
theorem z82 : zeroOf Tryd.prog 82 = some (.nilFunc) := e82.zero
theorem c82 : Tryd.prog.cellsOf 82 = 1 := e82.cellsOf
theorem e84 : ElemZ Tryd.prog 84 (.nilFunc) := .of (by kernel_rfl) (by kernel_rfl)
theorem z84 : zeroOf Tryd.prog 84 = some (.nilFunc) := e84.zero
theorem c84 : Tryd.prog.cellsOf 84 = 1 := e84.cellsOf
theorem e85 : ElemZ Tryd.prog 85 (.agg #[.int .i64 0, .int .i64 0]) := .of (by kernel_rfl) (by kernel_rfl)
theorem z85 : zeroOf Tryd.prog 85 = some (.agg #[.int .i64 0, .int .i64 0]) := e85.zero
theorem c85 : Tryd.prog.cellsOf 85 = 2 := e85.cellsOf
theorem e86 : ElemZ Tryd.prog 86 (.nilFunc) := .of (by kernel_rfl) (by kernel_rfl)
theorem z86 : zeroOf Tryd.prog 86 = some (.nilFunc) := e86.zero
theorem c86 : Tryd.prog.cellsOf 86 = 1 := e86.cellsOf
theorem e87 : ElemZ Tryd.prog 87 (.nilFunc) := .of (by kernel_rfl) (by kernel_rfl)
theorem z87 : zeroOf Tryd.prog 87 = some (.nilFunc) := e87.zero
theorem c87 : Tryd.prog.cellsOf 87 = 1 := e87.cellsOf
theorem e88 : ElemZ Tryd.prog 88 (.nilFunc) := .of (by kernel_rfl) (by kernel_rfl)
theorem z88 : zeroOf Tryd.prog 88 = some (.nilFunc) := e88.zero
theorem c88 : Tryd.prog.cellsOf 88 = 1 := e88.cellsOf
theorem e89 : ElemZ Tryd.prog 89 (.map none) := .of (by kernel_rfl) (by kernel_rfl)
theorem z89 : zeroOf Tryd.prog 89 = some (.map none) := e89.zero
theorem c89 : Tryd.prog.cellsOf 89 = 1 := e89.cellsOf
theorem e90 : ElemZ Tryd.prog 90 (.nilFunc) := .of (by kernel_rfl) (by kernel_rfl)
theorem z90 : zeroOf Tryd.prog 90 = some (.nilFunc) := e90.zero
theorem c90 : Tryd.prog.cellsOf 90 = 1 := e90.cellsOf
theorem e91 : ElemZ Tryd.prog 91 (.nilFunc) := .of (by kernel_rfl) (by kernel_rfl)
theorem z91 : zeroOf Tryd.prog 91 = some (.nilFunc) := e91.zero
theorem c91 : Tryd.prog.cellsOf 91 = 1 := e91.cellsOf
theorem e92 : ElemZ Tryd.prog 92 (.nilFunc) := .of (by kernel_rfl) (by kernel_rfl)
theorem z92 : zeroOf Tryd.prog 92 = some (.nilFunc) := e92.zero
theorem c92 : Tryd.prog.cellsOf 92 = 1 := e92.cellsOf
theorem e93 : ElemZ Tryd.prog 93 (.nilFunc) := .of (by kernel_rfl) (by kernel_rfl)
theorem z93 : zeroOf Tryd.prog 93 = some (.nilFunc) := e93.zero
theorem c93 : Tryd.prog.cellsOf 93 = 1 := e93.cellsOf
theorem e94 : ElemZ Tryd.prog 94 (.nilFunc) := .of (by kernel_rfl) (by kernel_rfl)
theorem z94 : zeroOf Tryd.prog 94 = some (.nilFunc) := e94.zero
theorem c94 : Tryd.prog.cellsOf 94 = 1 := e94.cellsOf
theorem e95 : ElemZ Tryd.prog 95 (.agg #[.bool false, .bool false, .bool false, .bool false, .bool false, .bool false, .bool false, .bool false]) := .of (by kernel_rfl) (by kernel_rfl)
theorem z95 : zeroOf Tryd.prog 95 = some (.agg #[.bool false, .bool false, .bool false, .bool false, .bool false, .bool false, .bool false, .bool false]) := e95.zero
theorem c95 : Tryd.prog.cellsOf 95 = 8 := e95.cellsOf
theorem e96 : ElemZ Tryd.prog 96 (.nilFunc) := .of (by kernel_rfl) (by kernel_rfl)
theorem z96 : zeroOf Tryd.prog 96 = some (.nilFunc) := e96.zero
theorem c96 : Tryd.prog.cellsOf 96 = 1 := e96.cellsOf
theorem e97 : ElemZ Tryd.prog 97 (.nilFunc) := .of (by kernel_rfl) (by kernel_rfl)
theorem z97 : zeroOf Tryd.prog 97 = some (.nilFunc) := e97.zero
theorem c97 : Tryd.prog.cellsOf 97 = 1 := e97.cellsOf
theorem e98 : ElemZ Tryd.prog 98 (.nilFunc) := .of (by kernel_rfl) (by kernel_rfl)
theorem z98 : zeroOf Tryd.prog 98 = some (.nilFunc) := e98.zero
theorem c98 : Tryd.prog.cellsOf 98 = 1 := e98.cellsOf
theorem e99 : ElemZ Tryd.prog 99 (.nilFunc) := .of (by kernel_rfl) (by kernel_rfl)
theorem z99 : zeroOf Tryd.prog 99 = some (.nilFunc) := e99.zero
theorem c99 : Tryd.prog.cellsOf 99 = 1 := e99.cellsOf
theorem e100 : ElemZ Tryd.prog 100 (.nilFunc) := .of (by kernel_rfl) (by kernel_rfl)
theorem z100 : zeroOf Tryd.prog 100 = some (.nilFunc) := e100.zero
theorem c100 : Tryd.prog.cellsOf 100 = 1 := e100.cellsOf
theorem e101 : ElemZ Tryd.prog 101 (.agg #[.int .i64 0, .int .i64 0, .int .i64 0, .int .i64 0]) := .of (by kernel_rfl) (by kernel_rfl)
theorem z101 : zeroOf Tryd.prog 101 = some (.agg #[.int .i64 0, .int .i64 0, .int .i64 0, .int .i64 0]) := e101.zero
theorem c101 : Tryd.prog.cellsOf 101 = 4 := e101.cellsOf
theorem e102 : ElemZ Tryd.prog 102 (.agg #[.int .i64 0, .int .i64 0, .int .i64 0, .int .i64 0]) := .of (by kernel_rfl) (by kernel_rfl)
theorem z102 : zeroOf Tryd.prog 102 = some (.agg #[.int .i64 0, .int .i64 0, .int .i64 0, .int .i64 0]) := e102.zero
theorem c102 : Tryd.prog.cellsOf 102 = 4 := e102.cellsOf
theorem e103 : ElemZ Tryd.prog 103 (.nilFunc) := .of (by kernel_rfl) (by kernel_rfl)
theorem z103 : zeroOf Tryd.prog 103 = some (.nilFunc) := e103.zero
theorem c103 : Tryd.prog.cellsOf 103 = 1 := e103.cellsOf
theorem e104 : ElemZ Tryd.prog 104 (.slice none 0 0) := .of (by kernel_rfl) (by kernel_rfl)
theorem z104 : zeroOf Tryd.prog 104 = some (.slice none 0 0) := e104.zero
theorem c104 : Tryd.prog.cellsOf 104 = 1 := e104.cellsOf
theorem e105 : ElemZ Tryd.prog 105 (.nilFunc) := .of (by kernel_rfl) (by kernel_rfl)
theorem z105 : zeroOf Tryd.prog 105 = some (.nilFunc) := e105.zero
theorem c105 : Tryd.prog.cellsOf 105 = 1 := e105.cellsOf
theorem e107 : ElemZ Tryd.prog 107 (.nilFunc) := .of (by kernel_rfl) (by kernel_rfl)
theorem z107 : zeroOf Tryd.prog 107 = some (.nilFunc) := e107.zero
theorem c107 : Tryd.prog.cellsOf 107 = 1 := e107.cellsOf
theorem e108 : ElemZ Tryd.prog 108 (.map none) := .of (by kernel_rfl) (by kernel_rfl)
theorem z108 : zeroOf Tryd.prog 108 = some (.map none) := e108.zero
theorem c108 : Tryd.prog.cellsOf 108 = 1 := e108.cellsOf
theorem e109 : ElemZ Tryd.prog 109 (.agg #[.int .i64 0, .int .i64 0]) := .of (by kernel_rfl) (by kernel_rfl)
theorem z109 : zeroOf Tryd.prog 109 = some (.agg #[.int .i64 0, .int .i64 0]) := e109.zero
theorem c109 : Tryd.prog.cellsOf 109 = 2 := e109.cellsOf
theorem e110 : ElemZ Tryd.prog 110 (.agg #[.int .i64 0, .int .i64 0]) := .of (by kernel_rfl) (by kernel_rfl)
theorem z110 : zeroOf Tryd.prog 110 = some (.agg #[.int .i64 0, .int .i64 0]) := e110.zero
theorem c110 : Tryd.prog.cellsOf 110 = 2 := e110.cellsOf
theorem e111 : ElemZ Tryd.prog 111 (.nilFunc) := .of (by kernel_rfl) (by kernel_rfl)
theorem z111 : zeroOf Tryd.prog 111 = some (.nilFunc) := e111.zero
theorem c111 : Tryd.prog.cellsOf 111 = 1 := e111.cellsOf
theorem e112 : ElemZ Tryd.prog 112 (.nilFunc) := .of (by kernel_rfl) (by kernel_rfl)
theorem z112 : zeroOf Tryd.prog 112 = some (.nilFunc) := e112.zero
theorem c112 : Tryd.prog.cellsOf 112 = 1 := e112.cellsOf
theorem e113 : ElemZ Tryd.prog 113 (.nilFunc) := .of (by kernel_rfl) (by kernel_rfl)
theorem z113 : zeroOf Tryd.prog 113 = some (.nilFunc) := e113.zero
theorem c113 : Tryd.prog.cellsOf 113 = 1 := e113.cellsOf
theorem e114 : ElemZ Tryd.prog 114 (.nilFunc) := .of (by kernel_rfl) (by kernel_rfl)
theorem z114 : zeroOf Tryd.prog 114 = some (.nilFunc) := e114.zero
theorem c114 : Tryd.prog.cellsOf 114 = 1 := e114.cellsOf
theorem e115 : ElemZ Tryd.prog 115 (.nilFunc) := .of (by kernel_rfl) (by kernel_rfl)
theorem z115 : zeroOf Tryd.prog 115 = some (.nilFunc) := e115.zero
theorem c115 : Tryd.prog.cellsOf 115 = 1 := e115.cellsOf
theorem e116 : ElemZ Tryd.prog 116 (.agg #[.int .i64 0, .int .i64 0, .int .i64 0, .int .i64 0]) := .of (by kernel_rfl) (by kernel_rfl)
theorem z116 : zeroOf Tryd.prog 116 = some (.agg #[.int .i64 0, .int .i64 0, .int .i64 0, .int .i64 0]) := e116.zero
theorem c116 : Tryd.prog.cellsOf 116 = 4 := e116.cellsOf
theorem e117 : ElemZ Tryd.prog 117 (.nilFunc) := .of (by kernel_rfl) (by kernel_rfl)
theorem z117 : zeroOf Tryd.prog 117 = some (.nilFunc) := e117.zero
theorem c117 : Tryd.prog.cellsOf 117 = 1 := e117.cellsOf
theorem e118 : ElemZ Tryd.prog 118 (.nilFunc) := .of (by kernel_rfl) (by kernel_rfl)
theorem z118 : zeroOf Tryd.prog 118 = some (.nilFunc) := e118.zero
theorem c118 : Tryd.prog.cellsOf 118 = 1 := e118.cellsOf
theorem e119 : ElemZ Tryd.prog 119 (.agg #[.int .i64 0, .int .i64 0, .slice none 0 0]) := .of (by kernel_rfl) (by kernel_rfl)
theorem z119 : zeroOf Tryd.prog 119 = some (.agg #[.int .i64 0, .int .i64 0, .slice none 0 0]) := e119.zero
theorem c119 : Tryd.prog.cellsOf 119 = 3 := e119.cellsOf
theorem e120 : ElemZ Tryd.prog 120 (.agg #[.int .i64 0, .int .i64 0, .slice none 0 0]) := .of (by kernel_rfl) (by kernel_rfl)
theorem z120 : zeroOf Tryd.prog 120 = some (.agg #[.int .i64 0, .int .i64 0, .slice none 0 0]) := e120.zero
theorem c120 : Tryd.prog.cellsOf 120 = 3 := e120.cellsOf
theorem e121 : ElemZ Tryd.prog 121 (.nilFunc) := .of (by kernel_rfl) (by kernel_rfl)
theorem z121 : zeroOf Tryd.prog 121 = some (.nilFunc) := e121.zero
theorem c121 : Tryd.prog.cellsOf 121 = 1 := e121.cellsOf
theorem e122 : ElemZ Tryd.prog 122 (.nilFunc) := .of (by kernel_rfl) (by kernel_rfl)
theorem z122 : zeroOf Tryd.prog 122 = some (.nilFunc) := e122.zero
theorem c122 : Tryd.prog.cellsOf 122 = 1 := e122.cellsOf
theorem e123 : ElemZ Tryd.prog 123 (.nilFunc) := .of (by kernel_rfl) (by kernel_rfl)
theorem z123 : zeroOf Tryd.prog 123 = some (.nilFunc) := e123.zero
theorem c123 : Tryd.prog.cellsOf 123 = 1 := e123.cellsOf
theorem e124 : ElemZ Tryd.prog 124 (.agg #[.int .i64 0, .int .i64 0, .int .i64 0, .int .i64 0, .int .i64 0, .int .i64 0, .int .i64 0, .int .i64 0, .int .i64 0, .int .i64 0, .int .i64 0, .int .i64 0, .int .i64 0, .int .i64 0, .int .i64 0, .int .i64 0]) := .of (by kernel_rfl) (by kernel_rfl)
theorem z124 : zeroOf Tryd.prog 124 = some (.agg #[.int .i64 0, .int .i64 0, .int .i64 0, .int .i64 0, .int .i64 0, .int .i64 0, .int .i64 0, .int .i64 0, .int .i64 0, .int .i64 0, .int .i64 0, .int .i64 0, .int .i64 0, .int .i64 0, .int .i64 0, .int .i64 0]) := e124.zero
theorem c124 : Tryd.prog.cellsOf 124 = 16 := e124.cellsOf
theorem e125 : ElemZ Tryd.prog 125 (.agg #[.bool false, .bool false, .bool false, .bool false, .bool false, .bool false, .bool false, .bool false, .bool false]) := .of (by kernel_rfl) (by kernel_rfl)
theorem z125 : zeroOf Tryd.prog 125 = some (.agg #[.bool false, .bool false, .bool false, .bool false, .bool false, .bool false, .bool false, .bool false, .bool false]) := e125.zero
theorem c125 : Tryd.prog.cellsOf 125 = 9 := e125.cellsOf
theorem e126 : ElemZ Tryd.prog 126 (.slice none 0 0) := .of (by kernel_rfl) (by kernel_rfl)
theorem z126 : zeroOf Tryd.prog 126 = some (.slice none 0 0) := e126.zero
theorem c126 : Tryd.prog.cellsOf 126 = 1 := e126.cellsOf
theorem e127 : ElemZ Tryd.prog 127 (.nilFunc) := .of (by kernel_rfl) (by kernel_rfl)
theorem z127 : zeroOf Tryd.prog 127 = some (.nilFunc) := e127.zero
theorem c127 : Tryd.prog.cellsOf 127 = 1 := e127.cellsOf
theorem e128 : ElemZ Tryd.prog 128 (.nilFunc) := .of (by kernel_rfl) (by kernel_rfl)
theorem z128 : zeroOf Tryd.prog 128 = some (.nilFunc) := e128.zero
theorem c128 : Tryd.prog.cellsOf 128 = 1 := e128.cellsOf
theorem e129 : ElemZ Tryd.prog 129 (.nilFunc) := .of (by kernel_rfl) (by kernel_rfl)
theorem z129 : zeroOf Tryd.prog 129 = some (.nilFunc) := e129.zero
theorem c129 : Tryd.prog.cellsOf 129 = 1 := e129.cellsOf
theorem e130 : ElemZ Tryd.prog 130 (.nilFunc) := .of (by kernel_rfl) (by kernel_rfl)
theorem z130 : zeroOf Tryd.prog 130 = some (.nilFunc) := e130.zero
theorem c130 : Tryd.prog.cellsOf 130 = 1 := e130.cellsOf
theorem e131 : ElemZ Tryd.prog 131 (.nilFunc) := .of (by kernel_rfl) (by kernel_rfl)
theorem z131 : zeroOf Tryd.prog 131 = some (.nilFunc) := e131.zero
theorem c131 : Tryd.prog.cellsOf 131 = 1 := e131.cellsOf
theorem e132 : ElemZ Tryd.prog 132 (.int .u64 0) := .of (by kernel_rfl) (by kernel_rfl)
theorem z132 : zeroOf Tryd.prog 132 = some (.int .u64 0) := e132.zero
theorem c132 : Tryd.prog.cellsOf 132 = 1 := e132.cellsOf
theorem e133 : ElemZ Tryd.prog 133 (.nilFunc) := .of (by kernel_rfl) (by kernel_rfl)
theorem z133 : zeroOf Tryd.prog 133 = some (.nilFunc) := e133.zero
theorem c133 : Tryd.prog.cellsOf 133 = 1 := e133.cellsOf
theorem e134 : ElemZ Tryd.prog 134 (.nilFunc) := .of (by kernel_rfl) (by kernel_rfl)
theorem z134 : zeroOf Tryd.prog 134 = some (.nilFunc) := e134.zero
theorem c134 : Tryd.prog.cellsOf 134 = 1 := e134.cellsOf
theorem e135 : ElemZ Tryd.prog 135 (.nilFunc) := .of (by kernel_rfl) (by kernel_rfl)
theorem z135 : zeroOf Tryd.prog 135 = some (.nilFunc) := e135.zero
theorem c135 : Tryd.prog.cellsOf 135 = 1 := e135.cellsOf
theorem e136 : ElemZ Tryd.prog 136 (.nilFunc) := .of (by kernel_rfl) (by kernel_rfl)
theorem z136 : zeroOf Tryd.prog 136 = some (.nilFunc) := e136.zero
theorem c136 : Tryd.prog.cellsOf 136 = 1 := e136.cellsOf
theorem e137 : ElemZ Tryd.prog 137 (.nilFunc) := .of (by kernel_rfl) (by kernel_rfl)
theorem z137 : zeroOf Tryd.prog 137 = some (.nilFunc) := e137.zero
theorem c137 : Tryd.prog.cellsOf 137 = 1 := e137.cellsOf
theorem e141 : ElemZ Tryd.prog 141 (.nilFunc) := .of (by kernel_rfl) (by kernel_rfl)
theorem z141 : zeroOf Tryd.prog 141 = some (.nilFunc) := e141.zero
theorem c141 : Tryd.prog.cellsOf 141 = 1 := e141.cellsOf
theorem e142 : ElemZ Tryd.prog 142 (.nilFunc) := .of (by kernel_rfl) (by kernel_rfl)
theorem z142 : zeroOf Tryd.prog 142 = some (.nilFunc) := e142.zero
theorem c142 : Tryd.prog.cellsOf 142 = 1 := e142.cellsOf
theorem e143 : ElemZ Tryd.prog 143 (.pointer none) := .of (by kernel_rfl) (by kernel_rfl)
theorem z143 : zeroOf Tryd.prog 143 = some (.pointer none) := e143.zero
theorem c143 : Tryd.prog.cellsOf 143 = 1 := e143.cellsOf
theorem e144 : ElemZ Tryd.prog 144 (.nilFunc) := .of (by kernel_rfl) (by kernel_rfl)
theorem z144 : zeroOf Tryd.prog 144 = some (.nilFunc) := e144.zero
theorem c144 : Tryd.prog.cellsOf 144 = 1 := e144.cellsOf
theorem e145 : ElemZ Tryd.prog 145 (.int .i64 0) := .of (by kernel_rfl) (by kernel_rfl)
theorem z145 : zeroOf Tryd.prog 145 = some (.int .i64 0) := e145.zero
theorem c145 : Tryd.prog.cellsOf 145 = 1 := e145.cellsOf
theorem e147 : ElemZ Tryd.prog 147 (.nilFunc) := .of (by kernel_rfl) (by kernel_rfl)
theorem z147 : zeroOf Tryd.prog 147 = some (.nilFunc) := e147.zero
theorem c147 : Tryd.prog.cellsOf 147 = 1 := e147.cellsOf
theorem e148 : ElemZ Tryd.prog 148 (.nilFunc) := .of (by kernel_rfl) (by kernel_rfl)
theorem z148 : zeroOf Tryd.prog 148 = some (.nilFunc) := e148.zero
theorem c148 : Tryd.prog.cellsOf 148 = 1 := e148.cellsOf
theorem e149 : ElemZ Tryd.prog 149 (.nilFunc) := .of (by kernel_rfl) (by kernel_rfl)
theorem z149 : zeroOf Tryd.prog 149 = some (.nilFunc) := e149.zero
theorem c149 : Tryd.prog.cellsOf 149 = 1 := e149.cellsOf
theorem e151 : ElemZ Tryd.prog 151 (.nilFunc) := .of (by kernel_rfl) (by kernel_rfl)
theorem z151 : zeroOf Tryd.prog 151 = some (.nilFunc) := e151.zero
theorem c151 : Tryd.prog.cellsOf 151 = 1 := e151.cellsOf
theorem e152 : ElemZ Tryd.prog 152 (.nilFunc) := .of (by kernel_rfl) (by kernel_rfl)
theorem z152 : zeroOf Tryd.prog 152 = some (.nilFunc) := e152.zero
theorem c152 : Tryd.prog.cellsOf 152 = 1 := e152.cellsOf
theorem e153 : ElemZ Tryd.prog 153 (.int .u32 0) := .of (by kernel_rfl) (by kernel_rfl)
theorem z153 : zeroOf Tryd.prog 153 = some (.int .u32 0) := e153.zero
theorem c153 : Tryd.prog.cellsOf 153 = 1 := e153.cellsOf
theorem e154 : ElemZ Tryd.prog 154 (.nilFunc) := .of (by kernel_rfl) (by kernel_rfl)
theorem z154 : zeroOf Tryd.prog 154 = some (.nilFunc) := e154.zero
theorem c154 : Tryd.prog.cellsOf 154 = 1 := e154.cellsOf
theorem e155 : ElemZ Tryd.prog 155 (.int .u64 0) := .of (by kernel_rfl) (by kernel_rfl)
theorem z155 : zeroOf Tryd.prog 155 = some (.int .u64 0) := e155.zero
theorem c155 : Tryd.prog.cellsOf 155 = 1 := e155.cellsOf
theorem e156 : ElemZ Tryd.prog 156 (.nilFunc) := .of (by kernel_rfl) (by kernel_rfl)
theorem z156 : zeroOf Tryd.prog 156 = some (.nilFunc) := e156.zero
theorem c156 : Tryd.prog.cellsOf 156 = 1 := e156.cellsOf
theorem e158 : ElemZ Tryd.prog 158 (.nilFunc) := .of (by kernel_rfl) (by kernel_rfl)
theorem z158 : zeroOf Tryd.prog 158 = some (.nilFunc) := e158.zero
theorem c158 : Tryd.prog.cellsOf 158 = 1 := e158.cellsOf
theorem e159 : ElemZ Tryd.prog 159 (.nilFunc) := .of (by kernel_rfl) (by kernel_rfl)
theorem z159 : zeroOf Tryd.prog 159 = some (.nilFunc) := e159.zero
theorem c159 : Tryd.prog.cellsOf 159 = 1 := e159.cellsOf
theorem e160 : ElemZ Tryd.prog 160 (.int .u64 0) := .of (by kernel_rfl) (by kernel_rfl)
theorem z160 : zeroOf Tryd.prog 160 = some (.int .u64 0) := e160.zero
theorem c160 : Tryd.prog.cellsOf 160 = 1 := e160.cellsOf
theorem e161 : ElemZ Tryd.prog 161 (.nilFunc) := .of (by kernel_rfl) (by kernel_rfl)
theorem z161 : zeroOf Tryd.prog 161 = some (.nilFunc) := e161.zero
theorem c161 : Tryd.prog.cellsOf 161 = 1 := e161.cellsOf
theorem e162 : ElemZ Tryd.prog 162 (.nilFunc) := .of (by kernel_rfl) (by kernel_rfl)
theorem z162 : zeroOf Tryd.prog 162 = some (.nilFunc) := e162.zero
theorem c162 : Tryd.prog.cellsOf 162 = 1 := e162.cellsOf
theorem e163 : ElemZ Tryd.prog 163 (.nilFunc) := .of (by kernel_rfl) (by kernel_rfl)
theorem z163 : zeroOf Tryd.prog 163 = some (.nilFunc) := e163.zero
theorem c163 : Tryd.prog.cellsOf 163 = 1 := e163.cellsOf
theorem e164 : ElemZ Tryd.prog 164 (.pointer none) := .of (by kernel_rfl) (by kernel_rfl)
theorem z164 : zeroOf Tryd.prog 164 = some (.pointer none) := e164.zero
theorem c164 : Tryd.prog.cellsOf 164 = 1 := e164.cellsOf
theorem e165 : ElemZ Tryd.prog 165 (.nilFunc) := .of (by kernel_rfl) (by kernel_rfl)
theorem z165 : zeroOf Tryd.prog 165 = some (.nilFunc) := e165.zero
theorem c165 : Tryd.prog.cellsOf 165 = 1 := e165.cellsOf
theorem e166 : ElemZ Tryd.prog 166 (.nilFunc) := .of (by kernel_rfl) (by kernel_rfl)
theorem z166 : zeroOf Tryd.prog 166 = some (.nilFunc) := e166.zero
theorem c166 : Tryd.prog.cellsOf 166 = 1 := e166.cellsOf
theorem e167 : ElemZ Tryd.prog 167 (.pointer none) := .of (by kernel_rfl) (by kernel_rfl)
theorem z167 : zeroOf Tryd.prog 167 = some (.pointer none) := e167.zero
theorem c167 : Tryd.prog.cellsOf 167 = 1 := e167.cellsOf
theorem e168 : ElemZ Tryd.prog 168 (.nilFunc) := .of (by kernel_rfl) (by kernel_rfl)
theorem z168 : zeroOf Tryd.prog 168 = some (.nilFunc) := e168.zero
theorem c168 : Tryd.prog.cellsOf 168 = 1 := e168.cellsOf
theorem e170 : ElemZ Tryd.prog 170 (.agg #[.int .u8 0, .int .u8 0]) := .of (by kernel_rfl) (by kernel_rfl)
theorem z170 : zeroOf Tryd.prog 170 = some (.agg #[.int .u8 0, .int .u8 0]) := e170.zero
theorem c170 : Tryd.prog.cellsOf 170 = 2 := e170.cellsOf
theorem e171 : ElemZ Tryd.prog 171 (.agg #[.int .u8 0, .int .u8 0]) := .of (by kernel_rfl) (by kernel_rfl)
theorem z171 : zeroOf Tryd.prog 171 = some (.agg #[.int .u8 0, .int .u8 0]) := e171.zero
theorem c171 : Tryd.prog.cellsOf 171 = 2 := e171.cellsOf
theorem e172 : ElemZ Tryd.prog 172 (.agg #[.int .u8 0, .int .u8 0, .int .u8 0, .int .u8 0, .int .u8 0, .int .u8 0, .int .u8 0, .int .u8 0, .int .u8 0, .int .u8 0, .int .u8 0, .int .u8 0, .int .u8 0, .int .u8 0, .int .u8 0, .int .u8 0, .int .u8 0, .int .u8 0, .int .u8 0, .int .u8 0, .int .u8 0, .int .u8 0, .int .u8 0, .int .u8 0, .int .u8 0, .int .u8 0, .int .u8 0, .int .u8 0, .int .u8 0, .int .u8 0, .int .u8 0, .int .u8 0]) := .of (by kernel_rfl) (by kernel_rfl)
theorem z172 : zeroOf Tryd.prog 172 = some (.agg #[.int .u8 0, .int .u8 0, .int .u8 0, .int .u8 0, .int .u8 0, .int .u8 0, .int .u8 0, .int .u8 0, .int .u8 0, .int .u8 0, .int .u8 0, .int .u8 0, .int .u8 0, .int .u8 0, .int .u8 0, .int .u8 0, .int .u8 0, .int .u8 0, .int .u8 0, .int .u8 0, .int .u8 0, .int .u8 0, .int .u8 0, .int .u8 0, .int .u8 0, .int .u8 0, .int .u8 0, .int .u8 0, .int .u8 0, .int .u8 0, .int .u8 0, .int .u8 0]) := e172.zero
theorem c172 : Tryd.prog.cellsOf 172 = 32 := e172.cellsOf
theorem e173 : ElemZ Tryd.prog 173 (.nilFunc) := .of (by kernel_rfl) (by kernel_rfl)
theorem z173 : zeroOf Tryd.prog 173 = some (.nilFunc) := e173.zero
theorem c173 : Tryd.prog.cellsOf 173 = 1 := e173.cellsOf
theorem e174 : ElemZ Tryd.prog 174 (.nilFunc) := .of (by kernel_rfl) (by kernel_rfl)
theorem z174 : zeroOf Tryd.prog 174 = some (.nilFunc) := e174.zero
theorem c174 : Tryd.prog.cellsOf 174 = 1 := e174.cellsOf
theorem e175 : ElemZ Tryd.prog 175 (.nilFunc) := .of (by kernel_rfl) (by kernel_rfl)
theorem z175 : zeroOf Tryd.prog 175 = some (.nilFunc) := e175.zero
theorem c175 : Tryd.prog.cellsOf 175 = 1 := e175.cellsOf
theorem e176 : ElemZ Tryd.prog 176 (.nilFunc) := .of (by kernel_rfl) (by kernel_rfl)
theorem z176 : zeroOf Tryd.prog 176 = some (.nilFunc) := e176.zero
theorem c176 : Tryd.prog.cellsOf 176 = 1 := e176.cellsOf
theorem e177 : ElemZ Tryd.prog 177 (.agg #[.pointer none, .pointer none, .pointer none, .string ⟨#[]⟩]) := .of (by kernel_rfl) (by kernel_rfl)
theorem z177 : zeroOf Tryd.prog 177 = some (.agg #[.pointer none, .pointer none, .pointer none, .string ⟨#[]⟩]) := e177.zero
theorem c177 : Tryd.prog.cellsOf 177 = 4 := e177.cellsOf
theorem e178 : ElemZ Tryd.prog 178 (.agg #[.pointer none, .pointer none, .pointer none, .string ⟨#[]⟩]) := .of (by kernel_rfl) (by kernel_rfl)
theorem z178 : zeroOf Tryd.prog 178 = some (.agg #[.pointer none, .pointer none, .pointer none, .string ⟨#[]⟩]) := e178.zero
theorem c178 : Tryd.prog.cellsOf 178 = 4 := e178.cellsOf
theorem e182 : ElemZ Tryd.prog 182 (.nilFunc) := .of (by kernel_rfl) (by kernel_rfl)
theorem z182 : zeroOf Tryd.prog 182 = some (.nilFunc) := e182.zero
theorem c182 : Tryd.prog.cellsOf 182 = 1 := e182.cellsOf
theorem e183 : ElemZ Tryd.prog 183 (.int .u8 0) := .of (by kernel_rfl) (by kernel_rfl)
theorem z183 : zeroOf Tryd.prog 183 = some (.int .u8 0) := e183.zero
theorem c183 : Tryd.prog.cellsOf 183 = 1 := e183.cellsOf
theorem e184 : ElemZ Tryd.prog 184 (.int .u8 0) := .of (by kernel_rfl) (by kernel_rfl)
theorem z184 : zeroOf Tryd.prog 184 = some (.int .u8 0) := e184.zero
theorem c184 : Tryd.prog.cellsOf 184 = 1 := e184.cellsOf
theorem e185 : ElemZ Tryd.prog 185 (.nilFunc) := .of (by kernel_rfl) (by kernel_rfl)
theorem z185 : zeroOf Tryd.prog 185 = some (.nilFunc) := e185.zero
theorem c185 : Tryd.prog.cellsOf 185 = 1 := e185.cellsOf
theorem e186 : ElemZ Tryd.prog 186 (.pointer none) := .of (by kernel_rfl) (by kernel_rfl)
theorem z186 : zeroOf Tryd.prog 186 = some (.pointer none) := e186.zero
theorem c186 : Tryd.prog.cellsOf 186 = 1 := e186.cellsOf
theorem e187 : ElemZ Tryd.prog 187 (.int .i32 0) := .of (by kernel_rfl) (by kernel_rfl)
theorem z187 : zeroOf Tryd.prog 187 = some (.int .i32 0) := e187.zero
theorem c187 : Tryd.prog.cellsOf 187 = 1 := e187.cellsOf
theorem e188 : ElemZ Tryd.prog 188 (.int .i32 0) := .of (by kernel_rfl) (by kernel_rfl)
theorem z188 : zeroOf Tryd.prog 188 = some (.int .i32 0) := e188.zero
theorem c188 : Tryd.prog.cellsOf 188 = 1 := e188.cellsOf
theorem e189 : ElemZ Tryd.prog 189 (.agg #[.int .u64 0, .int .u64 0, .int .u32 0, .int .u8 0, .int .u8 0, .int .u8 0, .int .u8 0, .nilFunc, .pointer none, .int .i32 0, .int .i32 0]) := .of (by kernel_rfl) (by kernel_rfl)
theorem z189 : zeroOf Tryd.prog 189 = some (.agg #[.int .u64 0, .int .u64 0, .int .u32 0, .int .u8 0, .int .u8 0, .int .u8 0, .int .u8 0, .nilFunc, .pointer none, .int .i32 0, .int .i32 0]) := e189.zero
theorem c189 : Tryd.prog.cellsOf 189 = 11 := e189.cellsOf
theorem e190 : ElemZ Tryd.prog 190 (.agg #[.int .u64 0, .int .u64 0, .int .u32 0, .int .u8 0, .int .u8 0, .int .u8 0, .int .u8 0, .nilFunc, .pointer none, .int .i32 0, .int .i32 0]) := .of (by kernel_rfl) (by kernel_rfl)
theorem z190 : zeroOf Tryd.prog 190 = some (.agg #[.int .u64 0, .int .u64 0, .int .u32 0, .int .u8 0, .int .u8 0, .int .u8 0, .int .u8 0, .nilFunc, .pointer none, .int .i32 0, .int .i32 0]) := e190.zero
theorem c190 : Tryd.prog.cellsOf 190 = 11 := e190.cellsOf
theorem e191 : ElemZ Tryd.prog 191 (.pointer none) := .of (by kernel_rfl) (by kernel_rfl)
theorem z191 : zeroOf Tryd.prog 191 = some (.pointer none) := e191.zero
theorem c191 : Tryd.prog.cellsOf 191 = 1 := e191.cellsOf
theorem f7 : fieldsOkT Tryd.prog 7 := by
  intro d hd; rw [Tryd.underlying7] at hd; cases hd
  intro f hf; simp only [List.mem_cons, List.not_mem_nil, or_false] at hf
  rcases hf with rfl | rfl | rfl | rfl
  · obtain ⟨i, h, _⟩ := e2.ex; exact ⟨i, h⟩
  · obtain ⟨i, h, _⟩ := e3.ex; exact ⟨i, h⟩
  · obtain ⟨i, h, _⟩ := e4.ex; exact ⟨i, h⟩
  · obtain ⟨i, h, _⟩ := e6.ex; exact ⟨i, h⟩
theorem f8 : fieldsOkT Tryd.prog 8 := by
  intro d hd; rw [Tryd.underlying8] at hd; cases hd
  intro f hf; simp only [List.mem_cons, List.not_mem_nil, or_false] at hf
  rcases hf with rfl | rfl | rfl | rfl
  · obtain ⟨i, h, _⟩ := e2.ex; exact ⟨i, h⟩
  · obtain ⟨i, h, _⟩ := e3.ex; exact ⟨i, h⟩
  · obtain ⟨i, h, _⟩ := e4.ex; exact ⟨i, h⟩
  · obtain ⟨i, h, _⟩ := e6.ex; exact ⟨i, h⟩
theorem f13 : fieldsOkT Tryd.prog 13 := by
  intro d hd; rw [Tryd.underlying13] at hd; cases hd
  intro f hf; simp only [List.mem_cons, List.not_mem_nil, or_false] at hf
  rcases hf with rfl | rfl
  · obtain ⟨i, h, _⟩ := e9.ex; exact ⟨i, h⟩
  · obtain ⟨i, h, _⟩ := e12.ex; exact ⟨i, h⟩
theorem f14 : fieldsOkT Tryd.prog 14 := by
  intro d hd; rw [Tryd.underlying14] at hd; cases hd
  intro f hf; simp only [List.mem_cons, List.not_mem_nil, or_false] at hf
  rcases hf with rfl | rfl
  · obtain ⟨i, h, _⟩ := e9.ex; exact ⟨i, h⟩
  · obtain ⟨i, h, _⟩ := e12.ex; exact ⟨i, h⟩
theorem f18 : fieldsOkT Tryd.prog 18 := by
  intro d hd; rw [Tryd.underlying18] at hd; cases hd
  intro f hf; simp only [List.mem_cons, List.not_mem_nil, or_false] at hf
  rcases hf with rfl
  · obtain ⟨i, h, _⟩ := e17.ex; exact ⟨i, h⟩
theorem f19 : fieldsOkT Tryd.prog 19 := by
  intro d hd; rw [Tryd.underlying19] at hd; cases hd
  intro f hf; simp only [List.mem_cons, List.not_mem_nil, or_false] at hf
  rcases hf with rfl
  · obtain ⟨i, h, _⟩ := e17.ex; exact ⟨i, h⟩
theorem f23 : fieldsOkT Tryd.prog 23 := by
  intro d hd; rw [Tryd.underlying23] at hd; cases hd
  intro f hf; simp only [List.mem_cons, List.not_mem_nil, or_false] at hf
  rcases hf with rfl | rfl | rfl
  · obtain ⟨i, h, _⟩ := e3.ex; exact ⟨i, h⟩
  · obtain ⟨i, h, _⟩ := e3.ex; exact ⟨i, h⟩
  · obtain ⟨i, h, _⟩ := e22.ex; exact ⟨i, h⟩
theorem f24 : fieldsOkT Tryd.prog 24 := by
  intro d hd; rw [Tryd.underlying24] at hd; cases hd
  intro f hf; simp only [List.mem_cons, List.not_mem_nil, or_false] at hf
  rcases hf with rfl | rfl | rfl
  · obtain ⟨i, h, _⟩ := e3.ex; exact ⟨i, h⟩
  · obtain ⟨i, h, _⟩ := e3.ex; exact ⟨i, h⟩
  · obtain ⟨i, h, _⟩ := e22.ex; exact ⟨i, h⟩
theorem f28 : fieldsOkT Tryd.prog 28 := by
  intro d hd; rw [Tryd.underlying28] at hd; cases hd
  intro f hf; simp only [List.mem_cons, List.not_mem_nil, or_false] at hf
  rcases hf with rfl | rfl | rfl
  · obtain ⟨i, h, _⟩ := e3.ex; exact ⟨i, h⟩
  · obtain ⟨i, h, _⟩ := e3.ex; exact ⟨i, h⟩
  · obtain ⟨i, h, _⟩ := e27.ex; exact ⟨i, h⟩
theorem f29 : fieldsOkT Tryd.prog 29 := by
  intro d hd; rw [Tryd.underlying29] at hd; cases hd
  intro f hf; simp only [List.mem_cons, List.not_mem_nil, or_false] at hf
  rcases hf with rfl | rfl | rfl
  · obtain ⟨i, h, _⟩ := e3.ex; exact ⟨i, h⟩
  · obtain ⟨i, h, _⟩ := e3.ex; exact ⟨i, h⟩
  · obtain ⟨i, h, _⟩ := e27.ex; exact ⟨i, h⟩
theorem f85 : fieldsOkT Tryd.prog 85 := by
  intro d hd; rw [Tryd.underlying85] at hd; cases hd
  obtain ⟨i, h, _⟩ := e3.ex; exact ⟨i, h⟩
theorem f95 : fieldsOkT Tryd.prog 95 := by
  intro d hd; rw [Tryd.underlying95] at hd; cases hd
  obtain ⟨i, h, _⟩ := e4.ex; exact ⟨i, h⟩
theorem f101 : fieldsOkT Tryd.prog 101 := by
  intro d hd; rw [Tryd.underlying101] at hd; cases hd
  intro f hf; simp only [List.mem_cons, List.not_mem_nil, or_false] at hf
  rcases hf with rfl | rfl | rfl | rfl
  · obtain ⟨i, h, _⟩ := e3.ex; exact ⟨i, h⟩
  · obtain ⟨i, h, _⟩ := e3.ex; exact ⟨i, h⟩
  · obtain ⟨i, h, _⟩ := e3.ex; exact ⟨i, h⟩
  · obtain ⟨i, h, _⟩ := e3.ex; exact ⟨i, h⟩
theorem f102 : fieldsOkT Tryd.prog 102 := by
  intro d hd; rw [Tryd.underlying102] at hd; cases hd
  intro f hf; simp only [List.mem_cons, List.not_mem_nil, or_false] at hf
  rcases hf with rfl | rfl | rfl | rfl
  · obtain ⟨i, h, _⟩ := e3.ex; exact ⟨i, h⟩
  · obtain ⟨i, h, _⟩ := e3.ex; exact ⟨i, h⟩
  · obtain ⟨i, h, _⟩ := e3.ex; exact ⟨i, h⟩
  · obtain ⟨i, h, _⟩ := e3.ex; exact ⟨i, h⟩
theorem f109 : fieldsOkT Tryd.prog 109 := by
  intro d hd; rw [Tryd.underlying109] at hd; cases hd
  intro f hf; simp only [List.mem_cons, List.not_mem_nil, or_false] at hf
  rcases hf with rfl | rfl
  · obtain ⟨i, h, _⟩ := e3.ex; exact ⟨i, h⟩
  · obtain ⟨i, h, _⟩ := e3.ex; exact ⟨i, h⟩
theorem f110 : fieldsOkT Tryd.prog 110 := by
  intro d hd; rw [Tryd.underlying110] at hd; cases hd
  intro f hf; simp only [List.mem_cons, List.not_mem_nil, or_false] at hf
  rcases hf with rfl | rfl
  · obtain ⟨i, h, _⟩ := e3.ex; exact ⟨i, h⟩
  · obtain ⟨i, h, _⟩ := e3.ex; exact ⟨i, h⟩
theorem f116 : fieldsOkT Tryd.prog 116 := by
  intro d hd; rw [Tryd.underlying116] at hd; cases hd
  obtain ⟨i, h, _⟩ := e3.ex; exact ⟨i, h⟩
theorem f119 : fieldsOkT Tryd.prog 119 := by
  intro d hd; rw [Tryd.underlying119] at hd; cases hd
  intro f hf; simp only [List.mem_cons, List.not_mem_nil, or_false] at hf
  rcases hf with rfl | rfl | rfl
  · obtain ⟨i, h, _⟩ := e3.ex; exact ⟨i, h⟩
  · obtain ⟨i, h, _⟩ := e3.ex; exact ⟨i, h⟩
  · obtain ⟨i, h, _⟩ := e77.ex; exact ⟨i, h⟩
theorem f120 : fieldsOkT Tryd.prog 120 := by
  intro d hd; rw [Tryd.underlying120] at hd; cases hd
  intro f hf; simp only [List.mem_cons, List.not_mem_nil, or_false] at hf
  rcases hf with rfl | rfl | rfl
  · obtain ⟨i, h, _⟩ := e3.ex; exact ⟨i, h⟩
  · obtain ⟨i, h, _⟩ := e3.ex; exact ⟨i, h⟩
  · obtain ⟨i, h, _⟩ := e77.ex; exact ⟨i, h⟩
theorem f124 : fieldsOkT Tryd.prog 124 := by
  intro d hd; rw [Tryd.underlying124] at hd; cases hd
  obtain ⟨i, h, _⟩ := e85.ex; exact ⟨i, h⟩
theorem f125 : fieldsOkT Tryd.prog 125 := by
  intro d hd; rw [Tryd.underlying125] at hd; cases hd
  obtain ⟨i, h, _⟩ := e4.ex; exact ⟨i, h⟩
theorem f170 : fieldsOkT Tryd.prog 170 := by
  intro d hd; rw [Tryd.underlying170] at hd; cases hd
  intro f hf; simp only [List.mem_cons, List.not_mem_nil, or_false] at hf
  rcases hf with rfl | rfl
  · obtain ⟨i, h, _⟩ := e5.ex; exact ⟨i, h⟩
  · obtain ⟨i, h, _⟩ := e5.ex; exact ⟨i, h⟩
theorem f171 : fieldsOkT Tryd.prog 171 := by
  intro d hd; rw [Tryd.underlying171] at hd; cases hd
  intro f hf; simp only [List.mem_cons, List.not_mem_nil, or_false] at hf
  rcases hf with rfl | rfl
  · obtain ⟨i, h, _⟩ := e5.ex; exact ⟨i, h⟩
  · obtain ⟨i, h, _⟩ := e5.ex; exact ⟨i, h⟩
theorem f172 : fieldsOkT Tryd.prog 172 := by
  intro d hd; rw [Tryd.underlying172] at hd; cases hd
  obtain ⟨i, h, _⟩ := e171.ex; exact ⟨i, h⟩
theorem f177 : fieldsOkT Tryd.prog 177 := by
  intro d hd; rw [Tryd.underlying177] at hd; cases hd
  intro f hf; simp only [List.mem_cons, List.not_mem_nil, or_false] at hf
  rcases hf with rfl | rfl | rfl | rfl
  · obtain ⟨i, h, _⟩ := e17.ex; exact ⟨i, h⟩
  · obtain ⟨i, h, _⟩ := e17.ex; exact ⟨i, h⟩
  · obtain ⟨i, h, _⟩ := e17.ex; exact ⟨i, h⟩
  · obtain ⟨i, h, _⟩ := e9.ex; exact ⟨i, h⟩
theorem f178 : fieldsOkT Tryd.prog 178 := by
  intro d hd; rw [Tryd.underlying178] at hd; cases hd
  intro f hf; simp only [List.mem_cons, List.not_mem_nil, or_false] at hf
  rcases hf with rfl | rfl | rfl | rfl
  · obtain ⟨i, h, _⟩ := e17.ex; exact ⟨i, h⟩
  · obtain ⟨i, h, _⟩ := e17.ex; exact ⟨i, h⟩
  · obtain ⟨i, h, _⟩ := e17.ex; exact ⟨i, h⟩
  · obtain ⟨i, h, _⟩ := e9.ex; exact ⟨i, h⟩
theorem f189 : fieldsOkT Tryd.prog 189 := by
  intro d hd; rw [Tryd.underlying189] at hd; cases hd
  intro f hf; simp only [List.mem_cons, List.not_mem_nil, or_false] at hf
  rcases hf with rfl | rfl | rfl | rfl | rfl | rfl | rfl | rfl | rfl | rfl | rfl
  · obtain ⟨i, h, _⟩ := e12.ex; exact ⟨i, h⟩
  · obtain ⟨i, h, _⟩ := e12.ex; exact ⟨i, h⟩
  · obtain ⟨i, h, _⟩ := e153.ex; exact ⟨i, h⟩
  · obtain ⟨i, h, _⟩ := e183.ex; exact ⟨i, h⟩
  · obtain ⟨i, h, _⟩ := e5.ex; exact ⟨i, h⟩
  · obtain ⟨i, h, _⟩ := e5.ex; exact ⟨i, h⟩
  · obtain ⟨i, h, _⟩ := e184.ex; exact ⟨i, h⟩
  · obtain ⟨i, h, _⟩ := e185.ex; exact ⟨i, h⟩
  · obtain ⟨i, h, _⟩ := e186.ex; exact ⟨i, h⟩
  · obtain ⟨i, h, _⟩ := e187.ex; exact ⟨i, h⟩
  · obtain ⟨i, h, _⟩ := e188.ex; exact ⟨i, h⟩
theorem f190 : fieldsOkT Tryd.prog 190 := by
  intro d hd; rw [Tryd.underlying190] at hd; cases hd
  intro f hf; simp only [List.mem_cons, List.not_mem_nil, or_false] at hf
  rcases hf with rfl | rfl | rfl | rfl | rfl | rfl | rfl | rfl | rfl | rfl | rfl
  · obtain ⟨i, h, _⟩ := e12.ex; exact ⟨i, h⟩
  · obtain ⟨i, h, _⟩ := e12.ex; exact ⟨i, h⟩
  · obtain ⟨i, h, _⟩ := e153.ex; exact ⟨i, h⟩
  · obtain ⟨i, h, _⟩ := e183.ex; exact ⟨i, h⟩
  · obtain ⟨i, h, _⟩ := e5.ex; exact ⟨i, h⟩
  · obtain ⟨i, h, _⟩ := e5.ex; exact ⟨i, h⟩
  · obtain ⟨i, h, _⟩ := e184.ex; exact ⟨i, h⟩
  · obtain ⟨i, h, _⟩ := e185.ex; exact ⟨i, h⟩
  · obtain ⟨i, h, _⟩ := e186.ex; exact ⟨i, h⟩
  · obtain ⟨i, h, _⟩ := e187.ex; exact ⟨i, h⟩
  · obtain ⟨i, h, _⟩ := e188.ex; exact ⟨i, h⟩
theorem q102 : EqT Tryd.prog 102 [.i .i64, .i .i64, .i .i64, .i .i64] := ⟨by kernel_rfl, by kernel_rfl⟩
theorem kq102 {K : Prop} : Chk (EqT Tryd.prog 102 [.i .i64, .i .i64, .i .i64, .i .i64]) K = K := Chk_of q102
theorem kqt102 : (EqT Tryd.prog 102 [.i .i64, .i .i64, .i .i64, .i .i64]) = True := eq_true q102
theorem q110 : EqT Tryd.prog 110 [.i .i64, .i .i64] := ⟨by kernel_rfl, by kernel_rfl⟩
theorem kq110 {K : Prop} : Chk (EqT Tryd.prog 110 [.i .i64, .i .i64]) K = K := Chk_of q110
theorem kqt110 : (EqT Tryd.prog 110 [.i .i64, .i .i64]) = True := eq_true q110
theorem k1 {K : Prop} : Chk (ElemZ Tryd.prog 1 (.nilFunc)) K = K := Chk_of e1
theorem ke1 : (ElemZ Tryd.prog 1 (.nilFunc)) = True := eq_true e1
theorem k2 {K : Prop} : Chk (ElemZ Tryd.prog 2 (.int .i64 0)) K = K := Chk_of e2
theorem ke2 : (ElemZ Tryd.prog 2 (.int .i64 0)) = True := eq_true e2
theorem k3 {K : Prop} : Chk (ElemZ Tryd.prog 3 (.int .i64 0)) K = K := Chk_of e3
theorem ke3 : (ElemZ Tryd.prog 3 (.int .i64 0)) = True := eq_true e3
theorem k4 {K : Prop} : Chk (ElemZ Tryd.prog 4 (.bool false)) K = K := Chk_of e4
theorem ke4 : (ElemZ Tryd.prog 4 (.bool false)) = True := eq_true e4
theorem k5 {K : Prop} : Chk (ElemZ Tryd.prog 5 (.int .u8 0)) K = K := Chk_of e5
theorem ke5 : (ElemZ Tryd.prog 5 (.int .u8 0)) = True := eq_true e5
theorem k6 {K : Prop} : Chk (ElemZ Tryd.prog 6 (.int .u8 0)) K = K := Chk_of e6
theorem ke6 : (ElemZ Tryd.prog 6 (.int .u8 0)) = True := eq_true e6
theorem k7 {K : Prop} : Chk (ElemZ Tryd.prog 7 (.agg #[.int .i64 0, .int .i64 0, .bool false, .int .u8 0])) K = K := Chk_of e7
theorem ke7 : (ElemZ Tryd.prog 7 (.agg #[.int .i64 0, .int .i64 0, .bool false, .int .u8 0])) = True := eq_true e7
theorem k8 {K : Prop} : Chk (ElemZ Tryd.prog 8 (.agg #[.int .i64 0, .int .i64 0, .bool false, .int .u8 0])) K = K := Chk_of e8
theorem ke8 : (ElemZ Tryd.prog 8 (.agg #[.int .i64 0, .int .i64 0, .bool false, .int .u8 0])) = True := eq_true e8
theorem k9 {K : Prop} : Chk (ElemZ Tryd.prog 9 (.string ⟨#[]⟩)) K = K := Chk_of e9
theorem ke9 : (ElemZ Tryd.prog 9 (.string ⟨#[]⟩)) = True := eq_true e9
theorem k10 {K : Prop} : Chk (ElemZ Tryd.prog 10 (.string ⟨#[]⟩)) K = K := Chk_of e10
theorem ke10 : (ElemZ Tryd.prog 10 (.string ⟨#[]⟩)) = True := eq_true e10
theorem k11 {K : Prop} : Chk (ElemZ Tryd.prog 11 (.string ⟨#[]⟩)) K = K := Chk_of e11
theorem ke11 : (ElemZ Tryd.prog 11 (.string ⟨#[]⟩)) = True := eq_true e11
theorem k12 {K : Prop} : Chk (ElemZ Tryd.prog 12 (.int .u64 0)) K = K := Chk_of e12
theorem ke12 : (ElemZ Tryd.prog 12 (.int .u64 0)) = True := eq_true e12
theorem k13 {K : Prop} : Chk (ElemZ Tryd.prog 13 (.agg #[.string ⟨#[]⟩, .int .u64 0])) K = K := Chk_of e13
theorem ke13 : (ElemZ Tryd.prog 13 (.agg #[.string ⟨#[]⟩, .int .u64 0])) = True := eq_true e13
theorem k14 {K : Prop} : Chk (ElemZ Tryd.prog 14 (.agg #[.string ⟨#[]⟩, .int .u64 0])) K = K := Chk_of e14
theorem ke14 : (ElemZ Tryd.prog 14 (.agg #[.string ⟨#[]⟩, .int .u64 0])) = True := eq_true e14
theorem k15 {K : Prop} : Chk (ElemZ Tryd.prog 15 (.pointer none)) K = K := Chk_of e15
theorem ke15 : (ElemZ Tryd.prog 15 (.pointer none)) = True := eq_true e15
theorem k16 {K : Prop} : Chk (ElemZ Tryd.prog 16 (.pointer none)) K = K := Chk_of e16
theorem ke16 : (ElemZ Tryd.prog 16 (.pointer none)) = True := eq_true e16
theorem k17 {K : Prop} : Chk (ElemZ Tryd.prog 17 (.pointer none)) K = K := Chk_of e17
theorem ke17 : (ElemZ Tryd.prog 17 (.pointer none)) = True := eq_true e17
theorem k18 {K : Prop} : Chk (ElemZ Tryd.prog 18 (.agg #[.pointer none])) K = K := Chk_of e18
theorem ke18 : (ElemZ Tryd.prog 18 (.agg #[.pointer none])) = True := eq_true e18
theorem k19 {K : Prop} : Chk (ElemZ Tryd.prog 19 (.agg #[.pointer none])) K = K := Chk_of e19
theorem ke19 : (ElemZ Tryd.prog 19 (.agg #[.pointer none])) = True := eq_true e19
theorem k20 {K : Prop} : Chk (ElemZ Tryd.prog 20 (.nilIface)) K = K := Chk_of e20
theorem ke20 : (ElemZ Tryd.prog 20 (.nilIface)) = True := eq_true e20
theorem k21 {K : Prop} : Chk (ElemZ Tryd.prog 21 (.int .i32 0)) K = K := Chk_of e21
theorem ke21 : (ElemZ Tryd.prog 21 (.int .i32 0)) = True := eq_true e21
theorem k22 {K : Prop} : Chk (ElemZ Tryd.prog 22 (.slice none 0 0)) K = K := Chk_of e22
theorem ke22 : (ElemZ Tryd.prog 22 (.slice none 0 0)) = True := eq_true e22
theorem k23 {K : Prop} : Chk (ElemZ Tryd.prog 23 (.agg #[.int .i64 0, .int .i64 0, .slice none 0 0])) K = K := Chk_of e23
theorem ke23 : (ElemZ Tryd.prog 23 (.agg #[.int .i64 0, .int .i64 0, .slice none 0 0])) = True := eq_true e23
theorem k24 {K : Prop} : Chk (ElemZ Tryd.prog 24 (.agg #[.int .i64 0, .int .i64 0, .slice none 0 0])) K = K := Chk_of e24
theorem ke24 : (ElemZ Tryd.prog 24 (.agg #[.int .i64 0, .int .i64 0, .slice none 0 0])) = True := eq_true e24
theorem k25 {K : Prop} : Chk (ElemZ Tryd.prog 25 (.nilFunc)) K = K := Chk_of e25
theorem ke25 : (ElemZ Tryd.prog 25 (.nilFunc)) = True := eq_true e25
theorem k26 {K : Prop} : Chk (ElemZ Tryd.prog 26 (.nilFunc)) K = K := Chk_of e26
theorem ke26 : (ElemZ Tryd.prog 26 (.nilFunc)) = True := eq_true e26
theorem k27 {K : Prop} : Chk (ElemZ Tryd.prog 27 (.slice none 0 0)) K = K := Chk_of e27
theorem ke27 : (ElemZ Tryd.prog 27 (.slice none 0 0)) = True := eq_true e27
theorem k28 {K : Prop} : Chk (ElemZ Tryd.prog 28 (.agg #[.int .i64 0, .int .i64 0, .slice none 0 0])) K = K := Chk_of e28
theorem ke28 : (ElemZ Tryd.prog 28 (.agg #[.int .i64 0, .int .i64 0, .slice none 0 0])) = True := eq_true e28
theorem k29 {K : Prop} : Chk (ElemZ Tryd.prog 29 (.agg #[.int .i64 0, .int .i64 0, .slice none 0 0])) K = K := Chk_of e29
theorem ke29 : (ElemZ Tryd.prog 29 (.agg #[.int .i64 0, .int .i64 0, .slice none 0 0])) = True := eq_true e29
theorem k30 {K : Prop} : Chk (ElemZ Tryd.prog 30 (.int .i64 0)) K = K := Chk_of e30
theorem ke30 : (ElemZ Tryd.prog 30 (.int .i64 0)) = True := eq_true e30
theorem k32 {K : Prop} : Chk (ElemZ Tryd.prog 32 (.nilFunc)) K = K := Chk_of e32
theorem ke32 : (ElemZ Tryd.prog 32 (.nilFunc)) = True := eq_true e32
theorem k33 {K : Prop} : Chk (ElemZ Tryd.prog 33 (.nilFunc)) K = K := Chk_of e33
theorem ke33 : (ElemZ Tryd.prog 33 (.nilFunc)) = True := eq_true e33
theorem k34 {K : Prop} : Chk (ElemZ Tryd.prog 34 (.nilFunc)) K = K := Chk_of e34
theorem ke34 : (ElemZ Tryd.prog 34 (.nilFunc)) = True := eq_true e34
theorem k35 {K : Prop} : Chk (ElemZ Tryd.prog 35 (.nilFunc)) K = K := Chk_of e35
theorem ke35 : (ElemZ Tryd.prog 35 (.nilFunc)) = True := eq_true e35
theorem k36 {K : Prop} : Chk (ElemZ Tryd.prog 36 (.nilFunc)) K = K := Chk_of e36
theorem ke36 : (ElemZ Tryd.prog 36 (.nilFunc)) = True := eq_true e36
theorem k37 {K : Prop} : Chk (ElemZ Tryd.prog 37 (.nilFunc)) K = K := Chk_of e37
theorem ke37 : (ElemZ Tryd.prog 37 (.nilFunc)) = True := eq_true e37
theorem k38 {K : Prop} : Chk (ElemZ Tryd.prog 38 (.nilFunc)) K = K := Chk_of e38
theorem ke38 : (ElemZ Tryd.prog 38 (.nilFunc)) = True := eq_true e38
theorem k39 {K : Prop} : Chk (ElemZ Tryd.prog 39 (.nilFunc)) K = K := Chk_of e39
theorem ke39 : (ElemZ Tryd.prog 39 (.nilFunc)) = True := eq_true e39
theorem k40 {K : Prop} : Chk (ElemZ Tryd.prog 40 (.nilFunc)) K = K := Chk_of e40
theorem ke40 : (ElemZ Tryd.prog 40 (.nilFunc)) = True := eq_true e40
theorem k42 {K : Prop} : Chk (ElemZ Tryd.prog 42 (.nilFunc)) K = K := Chk_of e42
theorem ke42 : (ElemZ Tryd.prog 42 (.nilFunc)) = True := eq_true e42
theorem k43 {K : Prop} : Chk (ElemZ Tryd.prog 43 (.nilFunc)) K = K := Chk_of e43
theorem ke43 : (ElemZ Tryd.prog 43 (.nilFunc)) = True := eq_true e43
theorem k44 {K : Prop} : Chk (ElemZ Tryd.prog 44 (.nilFunc)) K = K := Chk_of e44
theorem ke44 : (ElemZ Tryd.prog 44 (.nilFunc)) = True := eq_true e44
theorem k45 {K : Prop} : Chk (ElemZ Tryd.prog 45 (.nilFunc)) K = K := Chk_of e45
theorem ke45 : (ElemZ Tryd.prog 45 (.nilFunc)) = True := eq_true e45
theorem k46 {K : Prop} : Chk (ElemZ Tryd.prog 46 (.nilFunc)) K = K := Chk_of e46
theorem ke46 : (ElemZ Tryd.prog 46 (.nilFunc)) = True := eq_true e46
theorem k47 {K : Prop} : Chk (ElemZ Tryd.prog 47 (.nilFunc)) K = K := Chk_of e47
theorem ke47 : (ElemZ Tryd.prog 47 (.nilFunc)) = True := eq_true e47
theorem k48 {K : Prop} : Chk (ElemZ Tryd.prog 48 (.nilFunc)) K = K := Chk_of e48
theorem ke48 : (ElemZ Tryd.prog 48 (.nilFunc)) = True := eq_true e48
theorem k49 {K : Prop} : Chk (ElemZ Tryd.prog 49 (.nilFunc)) K = K := Chk_of e49
theorem ke49 : (ElemZ Tryd.prog 49 (.nilFunc)) = True := eq_true e49
theorem k50 {K : Prop} : Chk (ElemZ Tryd.prog 50 (.nilFunc)) K = K := Chk_of e50
theorem ke50 : (ElemZ Tryd.prog 50 (.nilFunc)) = True := eq_true e50
theorem k51 {K : Prop} : Chk (ElemZ Tryd.prog 51 (.nilFunc)) K = K := Chk_of e51
theorem ke51 : (ElemZ Tryd.prog 51 (.nilFunc)) = True := eq_true e51
theorem k53 {K : Prop} : Chk (ElemZ Tryd.prog 53 (.nilFunc)) K = K := Chk_of e53
theorem ke53 : (ElemZ Tryd.prog 53 (.nilFunc)) = True := eq_true e53
theorem k55 {K : Prop} : Chk (ElemZ Tryd.prog 55 (.nilFunc)) K = K := Chk_of e55
theorem ke55 : (ElemZ Tryd.prog 55 (.nilFunc)) = True := eq_true e55
theorem k56 {K : Prop} : Chk (ElemZ Tryd.prog 56 (.nilFunc)) K = K := Chk_of e56
theorem ke56 : (ElemZ Tryd.prog 56 (.nilFunc)) = True := eq_true e56
theorem k58 {K : Prop} : Chk (ElemZ Tryd.prog 58 (.nilFunc)) K = K := Chk_of e58
theorem ke58 : (ElemZ Tryd.prog 58 (.nilFunc)) = True := eq_true e58
theorem k59 {K : Prop} : Chk (ElemZ Tryd.prog 59 (.nilFunc)) K = K := Chk_of e59
theorem ke59 : (ElemZ Tryd.prog 59 (.nilFunc)) = True := eq_true e59
theorem k60 {K : Prop} : Chk (ElemZ Tryd.prog 60 (.nilFunc)) K = K := Chk_of e60
theorem ke60 : (ElemZ Tryd.prog 60 (.nilFunc)) = True := eq_true e60
theorem k61 {K : Prop} : Chk (ElemZ Tryd.prog 61 (.nilFunc)) K = K := Chk_of e61
theorem ke61 : (ElemZ Tryd.prog 61 (.nilFunc)) = True := eq_true e61
theorem k62 {K : Prop} : Chk (ElemZ Tryd.prog 62 (.nilFunc)) K = K := Chk_of e62
theorem ke62 : (ElemZ Tryd.prog 62 (.nilFunc)) = True := eq_true e62
theorem k63 {K : Prop} : Chk (ElemZ Tryd.prog 63 (.nilFunc)) K = K := Chk_of e63
theorem ke63 : (ElemZ Tryd.prog 63 (.nilFunc)) = True := eq_true e63
theorem k64 {K : Prop} : Chk (ElemZ Tryd.prog 64 (.nilFunc)) K = K := Chk_of e64
theorem ke64 : (ElemZ Tryd.prog 64 (.nilFunc)) = True := eq_true e64
theorem k65 {K : Prop} : Chk (ElemZ Tryd.prog 65 (.nilFunc)) K = K := Chk_of e65
theorem ke65 : (ElemZ Tryd.prog 65 (.nilFunc)) = True := eq_true e65
theorem k66 {K : Prop} : Chk (ElemZ Tryd.prog 66 (.nilFunc)) K = K := Chk_of e66
theorem ke66 : (ElemZ Tryd.prog 66 (.nilFunc)) = True := eq_true e66
theorem k67 {K : Prop} : Chk (ElemZ Tryd.prog 67 (.nilFunc)) K = K := Chk_of e67
theorem ke67 : (ElemZ Tryd.prog 67 (.nilFunc)) = True := eq_true e67
theorem k68 {K : Prop} : Chk (ElemZ Tryd.prog 68 (.nilFunc)) K = K := Chk_of e68
theorem ke68 : (ElemZ Tryd.prog 68 (.nilFunc)) = True := eq_true e68
theorem k69 {K : Prop} : Chk (ElemZ Tryd.prog 69 (.nilFunc)) K = K := Chk_of e69
theorem ke69 : (ElemZ Tryd.prog 69 (.nilFunc)) = True := eq_true e69
theorem k70 {K : Prop} : Chk (ElemZ Tryd.prog 70 (.nilFunc)) K = K := Chk_of e70
theorem ke70 : (ElemZ Tryd.prog 70 (.nilFunc)) = True := eq_true e70
theorem k71 {K : Prop} : Chk (ElemZ Tryd.prog 71 (.pointer none)) K = K := Chk_of e71
theorem ke71 : (ElemZ Tryd.prog 71 (.pointer none)) = True := eq_true e71
theorem k72 {K : Prop} : Chk (ElemZ Tryd.prog 72 (.nilFunc)) K = K := Chk_of e72
theorem ke72 : (ElemZ Tryd.prog 72 (.nilFunc)) = True := eq_true e72
theorem k73 {K : Prop} : Chk (ElemZ Tryd.prog 73 (.nilFunc)) K = K := Chk_of e73
theorem ke73 : (ElemZ Tryd.prog 73 (.nilFunc)) = True := eq_true e73
theorem k74 {K : Prop} : Chk (ElemZ Tryd.prog 74 (.nilFunc)) K = K := Chk_of e74
theorem ke74 : (ElemZ Tryd.prog 74 (.nilFunc)) = True := eq_true e74
theorem k76 {K : Prop} : Chk (ElemZ Tryd.prog 76 (.nilFunc)) K = K := Chk_of e76
theorem ke76 : (ElemZ Tryd.prog 76 (.nilFunc)) = True := eq_true e76
theorem k77 {K : Prop} : Chk (ElemZ Tryd.prog 77 (.slice none 0 0)) K = K := Chk_of e77
theorem ke77 : (ElemZ Tryd.prog 77 (.slice none 0 0)) = True := eq_true e77
theorem k78 {K : Prop} : Chk (ElemZ Tryd.prog 78 (.nilFunc)) K = K := Chk_of e78
theorem ke78 : (ElemZ Tryd.prog 78 (.nilFunc)) = True := eq_true e78
theorem k79 {K : Prop} : Chk (ElemZ Tryd.prog 79 (.nilFunc)) K = K := Chk_of e79
theorem ke79 : (ElemZ Tryd.prog 79 (.nilFunc)) = True := eq_true e79
theorem k80 {K : Prop} : Chk (ElemZ Tryd.prog 80 (.nilFunc)) K = K := Chk_of e80
theorem ke80 : (ElemZ Tryd.prog 80 (.nilFunc)) = True := eq_true e80
theorem k82 {K : Prop} : Chk (ElemZ Tryd.prog 82 (.nilFunc)) K = K := Chk_of e82
theorem ke82 : (ElemZ Tryd.prog 82 (.nilFunc)) = True := eq_true e82
theorem k84 {K : Prop} : Chk (ElemZ Tryd.prog 84 (.nilFunc)) K = K := Chk_of e84
theorem ke84 : (ElemZ Tryd.prog 84 (.nilFunc)) = True := eq_true e84
theorem k85 {K : Prop} : Chk (ElemZ Tryd.prog 85 (.agg #[.int .i64 0, .int .i64 0])) K = K := Chk_of e85
theorem ke85 : (ElemZ Tryd.prog 85 (.agg #[.int .i64 0, .int .i64 0])) = True := eq_true e85
theorem k86 {K : Prop} : Chk (ElemZ Tryd.prog 86 (.nilFunc)) K = K := Chk_of e86
theorem ke86 : (ElemZ Tryd.prog 86 (.nilFunc)) = True := eq_true e86
theorem k87 {K : Prop} : Chk (ElemZ Tryd.prog 87 (.nilFunc)) K = K := Chk_of e87
theorem ke87 : (ElemZ Tryd.prog 87 (.nilFunc)) = True := eq_true e87
theorem k88 {K : Prop} : Chk (ElemZ Tryd.prog 88 (.nilFunc)) K = K := Chk_of e88
theorem ke88 : (ElemZ Tryd.prog 88 (.nilFunc)) = True := eq_true e88
theorem k89 {K : Prop} : Chk (ElemZ Tryd.prog 89 (.map none)) K = K := Chk_of e89
theorem ke89 : (ElemZ Tryd.prog 89 (.map none)) = True := eq_true e89
theorem k90 {K : Prop} : Chk (ElemZ Tryd.prog 90 (.nilFunc)) K = K := Chk_of e90
theorem ke90 : (ElemZ Tryd.prog 90 (.nilFunc)) = True := eq_true e90
theorem k91 {K : Prop} : Chk (ElemZ Tryd.prog 91 (.nilFunc)) K = K := Chk_of e91
theorem ke91 : (ElemZ Tryd.prog 91 (.nilFunc)) = True := eq_true e91
theorem k92 {K : Prop} : Chk (ElemZ Tryd.prog 92 (.nilFunc)) K = K := Chk_of e92
theorem ke92 : (ElemZ Tryd.prog 92 (.nilFunc)) = True := eq_true e92
theorem k93 {K : Prop} : Chk (ElemZ Tryd.prog 93 (.nilFunc)) K = K := Chk_of e93
theorem ke93 : (ElemZ Tryd.prog 93 (.nilFunc)) = True := eq_true e93
theorem k94 {K : Prop} : Chk (ElemZ Tryd.prog 94 (.nilFunc)) K = K := Chk_of e94
theorem ke94 : (ElemZ Tryd.prog 94 (.nilFunc)) = True := eq_true e94
theorem k95 {K : Prop} : Chk (ElemZ Tryd.prog 95 (.agg #[.bool false, .bool false, .bool false, .bool false, .bool false, .bool false, .bool false, .bool false])) K = K := Chk_of e95
theorem ke95 : (ElemZ Tryd.prog 95 (.agg #[.bool false, .bool false, .bool false, .bool false, .bool false, .bool false, .bool false, .bool false])) = True := eq_true e95
theorem k96 {K : Prop} : Chk (ElemZ Tryd.prog 96 (.nilFunc)) K = K := Chk_of e96
theorem ke96 : (ElemZ Tryd.prog 96 (.nilFunc)) = True := eq_true e96
theorem k97 {K : Prop} : Chk (ElemZ Tryd.prog 97 (.nilFunc)) K = K := Chk_of e97
theorem ke97 : (ElemZ Tryd.prog 97 (.nilFunc)) = True := eq_true e97
theorem k98 {K : Prop} : Chk (ElemZ Tryd.prog 98 (.nilFunc)) K = K := Chk_of e98
theorem ke98 : (ElemZ Tryd.prog 98 (.nilFunc)) = True := eq_true e98
theorem k99 {K : Prop} : Chk (ElemZ Tryd.prog 99 (.nilFunc)) K = K := Chk_of e99
theorem ke99 : (ElemZ Tryd.prog 99 (.nilFunc)) = True := eq_true e99
theorem k100 {K : Prop} : Chk (ElemZ Tryd.prog 100 (.nilFunc)) K = K := Chk_of e100
theorem ke100 : (ElemZ Tryd.prog 100 (.nilFunc)) = True := eq_true e100
theorem k101 {K : Prop} : Chk (ElemZ Tryd.prog 101 (.agg #[.int .i64 0, .int .i64 0, .int .i64 0, .int .i64 0])) K = K := Chk_of e101
theorem ke101 : (ElemZ Tryd.prog 101 (.agg #[.int .i64 0, .int .i64 0, .int .i64 0, .int .i64 0])) = True := eq_true e101
theorem k102 {K : Prop} : Chk (ElemZ Tryd.prog 102 (.agg #[.int .i64 0, .int .i64 0, .int .i64 0, .int .i64 0])) K = K := Chk_of e102
theorem ke102 : (ElemZ Tryd.prog 102 (.agg #[.int .i64 0, .int .i64 0, .int .i64 0, .int .i64 0])) = True := eq_true e102
theorem k103 {K : Prop} : Chk (ElemZ Tryd.prog 103 (.nilFunc)) K = K := Chk_of e103
theorem ke103 : (ElemZ Tryd.prog 103 (.nilFunc)) = True := eq_true e103
theorem k104 {K : Prop} : Chk (ElemZ Tryd.prog 104 (.slice none 0 0)) K = K := Chk_of e104
theorem ke104 : (ElemZ Tryd.prog 104 (.slice none 0 0)) = True := eq_true e104
theorem k105 {K : Prop} : Chk (ElemZ Tryd.prog 105 (.nilFunc)) K = K := Chk_of e105
theorem ke105 : (ElemZ Tryd.prog 105 (.nilFunc)) = True := eq_true e105
theorem k107 {K : Prop} : Chk (ElemZ Tryd.prog 107 (.nilFunc)) K = K := Chk_of e107
theorem ke107 : (ElemZ Tryd.prog 107 (.nilFunc)) = True := eq_true e107
theorem k108 {K : Prop} : Chk (ElemZ Tryd.prog 108 (.map none)) K = K := Chk_of e108
theorem ke108 : (ElemZ Tryd.prog 108 (.map none)) = True := eq_true e108
theorem k109 {K : Prop} : Chk (ElemZ Tryd.prog 109 (.agg #[.int .i64 0, .int .i64 0])) K = K := Chk_of e109
theorem ke109 : (ElemZ Tryd.prog 109 (.agg #[.int .i64 0, .int .i64 0])) = True := eq_true e109
theorem k110 {K : Prop} : Chk (ElemZ Tryd.prog 110 (.agg #[.int .i64 0, .int .i64 0])) K = K := Chk_of e110
theorem ke110 : (ElemZ Tryd.prog 110 (.agg #[.int .i64 0, .int .i64 0])) = True := eq_true e110
theorem k111 {K : Prop} : Chk (ElemZ Tryd.prog 111 (.nilFunc)) K = K := Chk_of e111
theorem ke111 : (ElemZ Tryd.prog 111 (.nilFunc)) = True := eq_true e111
theorem k112 {K : Prop} : Chk (ElemZ Tryd.prog 112 (.nilFunc)) K = K := Chk_of e112
theorem ke112 : (ElemZ Tryd.prog 112 (.nilFunc)) = True := eq_true e112
theorem k113 {K : Prop} : Chk (ElemZ Tryd.prog 113 (.nilFunc)) K = K := Chk_of e113
theorem ke113 : (ElemZ Tryd.prog 113 (.nilFunc)) = True := eq_true e113
theorem k114 {K : Prop} : Chk (ElemZ Tryd.prog 114 (.nilFunc)) K = K := Chk_of e114
theorem ke114 : (ElemZ Tryd.prog 114 (.nilFunc)) = True := eq_true e114
theorem k115 {K : Prop} : Chk (ElemZ Tryd.prog 115 (.nilFunc)) K = K := Chk_of e115
theorem ke115 : (ElemZ Tryd.prog 115 (.nilFunc)) = True := eq_true e115
theorem k116 {K : Prop} : Chk (ElemZ Tryd.prog 116 (.agg #[.int .i64 0, .int .i64 0, .int .i64 0, .int .i64 0])) K = K := Chk_of e116
theorem ke116 : (ElemZ Tryd.prog 116 (.agg #[.int .i64 0, .int .i64 0, .int .i64 0, .int .i64 0])) = True := eq_true e116
theorem k117 {K : Prop} : Chk (ElemZ Tryd.prog 117 (.nilFunc)) K = K := Chk_of e117
theorem ke117 : (ElemZ Tryd.prog 117 (.nilFunc)) = True := eq_true e117
theorem k118 {K : Prop} : Chk (ElemZ Tryd.prog 118 (.nilFunc)) K = K := Chk_of e118
theorem ke118 : (ElemZ Tryd.prog 118 (.nilFunc)) = True := eq_true e118
theorem k119 {K : Prop} : Chk (ElemZ Tryd.prog 119 (.agg #[.int .i64 0, .int .i64 0, .slice none 0 0])) K = K := Chk_of e119
theorem ke119 : (ElemZ Tryd.prog 119 (.agg #[.int .i64 0, .int .i64 0, .slice none 0 0])) = True := eq_true e119
theorem k120 {K : Prop} : Chk (ElemZ Tryd.prog 120 (.agg #[.int .i64 0, .int .i64 0, .slice none 0 0])) K = K := Chk_of e120
theorem ke120 : (ElemZ Tryd.prog 120 (.agg #[.int .i64 0, .int .i64 0, .slice none 0 0])) = True := eq_true e120
theorem k121 {K : Prop} : Chk (ElemZ Tryd.prog 121 (.nilFunc)) K = K := Chk_of e121
theorem ke121 : (ElemZ Tryd.prog 121 (.nilFunc)) = True := eq_true e121
theorem k122 {K : Prop} : Chk (ElemZ Tryd.prog 122 (.nilFunc)) K = K := Chk_of e122
theorem ke122 : (ElemZ Tryd.prog 122 (.nilFunc)) = True := eq_true e122
theorem k123 {K : Prop} : Chk (ElemZ Tryd.prog 123 (.nilFunc)) K = K := Chk_of e123
theorem ke123 : (ElemZ Tryd.prog 123 (.nilFunc)) = True := eq_true e123
theorem k124 {K : Prop} : Chk (ElemZ Tryd.prog 124 (.agg #[.int .i64 0, .int .i64 0, .int .i64 0, .int .i64 0, .int .i64 0, .int .i64 0, .int .i64 0, .int .i64 0, .int .i64 0, .int .i64 0, .int .i64 0, .int .i64 0, .int .i64 0, .int .i64 0, .int .i64 0, .int .i64 0])) K = K := Chk_of e124
theorem ke124 : (ElemZ Tryd.prog 124 (.agg #[.int .i64 0, .int .i64 0, .int .i64 0, .int .i64 0, .int .i64 0, .int .i64 0, .int .i64 0, .int .i64 0, .int .i64 0, .int .i64 0, .int .i64 0, .int .i64 0, .int .i64 0, .int .i64 0, .int .i64 0, .int .i64 0])) = True := eq_true e124
theorem k125 {K : Prop} : Chk (ElemZ Tryd.prog 125 (.agg #[.bool false, .bool false, .bool false, .bool false, .bool false, .bool false, .bool false, .bool false, .bool false])) K = K := Chk_of e125
theorem ke125 : (ElemZ Tryd.prog 125 (.agg #[.bool false, .bool false, .bool false, .bool false, .bool false, .bool false, .bool false, .bool false, .bool false])) = True := eq_true e125
theorem k126 {K : Prop} : Chk (ElemZ Tryd.prog 126 (.slice none 0 0)) K = K := Chk_of e126
theorem ke126 : (ElemZ Tryd.prog 126 (.slice none 0 0)) = True := eq_true e126
theorem k127 {K : Prop} : Chk (ElemZ Tryd.prog 127 (.nilFunc)) K = K := Chk_of e127
theorem ke127 : (ElemZ Tryd.prog 127 (.nilFunc)) = True := eq_true e127
theorem k128 {K : Prop} : Chk (ElemZ Tryd.prog 128 (.nilFunc)) K = K := Chk_of e128
theorem ke128 : (ElemZ Tryd.prog 128 (.nilFunc)) = True := eq_true e128
theorem k129 {K : Prop} : Chk (ElemZ Tryd.prog 129 (.nilFunc)) K = K := Chk_of e129
theorem ke129 : (ElemZ Tryd.prog 129 (.nilFunc)) = True := eq_true e129
theorem k130 {K : Prop} : Chk (ElemZ Tryd.prog 130 (.nilFunc)) K = K := Chk_of e130
theorem ke130 : (ElemZ Tryd.prog 130 (.nilFunc)) = True := eq_true e130
theorem k131 {K : Prop} : Chk (ElemZ Tryd.prog 131 (.nilFunc)) K = K := Chk_of e131
theorem ke131 : (ElemZ Tryd.prog 131 (.nilFunc)) = True := eq_true e131
theorem k132 {K : Prop} : Chk (ElemZ Tryd.prog 132 (.int .u64 0)) K = K := Chk_of e132
theorem ke132 : (ElemZ Tryd.prog 132 (.int .u64 0)) = True := eq_true e132
theorem k133 {K : Prop} : Chk (ElemZ Tryd.prog 133 (.nilFunc)) K = K := Chk_of e133
theorem ke133 : (ElemZ Tryd.prog 133 (.nilFunc)) = True := eq_true e133
theorem k134 {K : Prop} : Chk (ElemZ Tryd.prog 134 (.nilFunc)) K = K := Chk_of e134
theorem ke134 : (ElemZ Tryd.prog 134 (.nilFunc)) = True := eq_true e134
theorem k135 {K : Prop} : Chk (ElemZ Tryd.prog 135 (.nilFunc)) K = K := Chk_of e135
theorem ke135 : (ElemZ Tryd.prog 135 (.nilFunc)) = True := eq_true e135
theorem k136 {K : Prop} : Chk (ElemZ Tryd.prog 136 (.nilFunc)) K = K := Chk_of e136
theorem ke136 : (ElemZ Tryd.prog 136 (.nilFunc)) = True := eq_true e136
theorem k137 {K : Prop} : Chk (ElemZ Tryd.prog 137 (.nilFunc)) K = K := Chk_of e137
theorem ke137 : (ElemZ Tryd.prog 137 (.nilFunc)) = True := eq_true e137
theorem k141 {K : Prop} : Chk (ElemZ Tryd.prog 141 (.nilFunc)) K = K := Chk_of e141
theorem ke141 : (ElemZ Tryd.prog 141 (.nilFunc)) = True := eq_true e141
theorem k142 {K : Prop} : Chk (ElemZ Tryd.prog 142 (.nilFunc)) K = K := Chk_of e142
theorem ke142 : (ElemZ Tryd.prog 142 (.nilFunc)) = True := eq_true e142
theorem k143 {K : Prop} : Chk (ElemZ Tryd.prog 143 (.pointer none)) K = K := Chk_of e143
theorem ke143 : (ElemZ Tryd.prog 143 (.pointer none)) = True := eq_true e143
theorem k144 {K : Prop} : Chk (ElemZ Tryd.prog 144 (.nilFunc)) K = K := Chk_of e144
theorem ke144 : (ElemZ Tryd.prog 144 (.nilFunc)) = True := eq_true e144
theorem k145 {K : Prop} : Chk (ElemZ Tryd.prog 145 (.int .i64 0)) K = K := Chk_of e145
theorem ke145 : (ElemZ Tryd.prog 145 (.int .i64 0)) = True := eq_true e145
theorem k147 {K : Prop} : Chk (ElemZ Tryd.prog 147 (.nilFunc)) K = K := Chk_of e147
theorem ke147 : (ElemZ Tryd.prog 147 (.nilFunc)) = True := eq_true e147
theorem k148 {K : Prop} : Chk (ElemZ Tryd.prog 148 (.nilFunc)) K = K := Chk_of e148
theorem ke148 : (ElemZ Tryd.prog 148 (.nilFunc)) = True := eq_true e148
theorem k149 {K : Prop} : Chk (ElemZ Tryd.prog 149 (.nilFunc)) K = K := Chk_of e149
theorem ke149 : (ElemZ Tryd.prog 149 (.nilFunc)) = True := eq_true e149
theorem k151 {K : Prop} : Chk (ElemZ Tryd.prog 151 (.nilFunc)) K = K := Chk_of e151
theorem ke151 : (ElemZ Tryd.prog 151 (.nilFunc)) = True := eq_true e151
theorem k152 {K : Prop} : Chk (ElemZ Tryd.prog 152 (.nilFunc)) K = K := Chk_of e152
theorem ke152 : (ElemZ Tryd.prog 152 (.nilFunc)) = True := eq_true e152
theorem k153 {K : Prop} : Chk (ElemZ Tryd.prog 153 (.int .u32 0)) K = K := Chk_of e153
theorem ke153 : (ElemZ Tryd.prog 153 (.int .u32 0)) = True := eq_true e153
theorem k154 {K : Prop} : Chk (ElemZ Tryd.prog 154 (.nilFunc)) K = K := Chk_of e154
theorem ke154 : (ElemZ Tryd.prog 154 (.nilFunc)) = True := eq_true e154
theorem k155 {K : Prop} : Chk (ElemZ Tryd.prog 155 (.int .u64 0)) K = K := Chk_of e155
theorem ke155 : (ElemZ Tryd.prog 155 (.int .u64 0)) = True := eq_true e155
theorem k156 {K : Prop} : Chk (ElemZ Tryd.prog 156 (.nilFunc)) K = K := Chk_of e156
theorem ke156 : (ElemZ Tryd.prog 156 (.nilFunc)) = True := eq_true e156
theorem k158 {K : Prop} : Chk (ElemZ Tryd.prog 158 (.nilFunc)) K = K := Chk_of e158
theorem ke158 : (ElemZ Tryd.prog 158 (.nilFunc)) = True := eq_true e158
theorem k159 {K : Prop} : Chk (ElemZ Tryd.prog 159 (.nilFunc)) K = K := Chk_of e159
theorem ke159 : (ElemZ Tryd.prog 159 (.nilFunc)) = True := eq_true e159
theorem k160 {K : Prop} : Chk (ElemZ Tryd.prog 160 (.int .u64 0)) K = K := Chk_of e160
theorem ke160 : (ElemZ Tryd.prog 160 (.int .u64 0)) = True := eq_true e160
theorem k161 {K : Prop} : Chk (ElemZ Tryd.prog 161 (.nilFunc)) K = K := Chk_of e161
theorem ke161 : (ElemZ Tryd.prog 161 (.nilFunc)) = True := eq_true e161
theorem k162 {K : Prop} : Chk (ElemZ Tryd.prog 162 (.nilFunc)) K = K := Chk_of e162
theorem ke162 : (ElemZ Tryd.prog 162 (.nilFunc)) = True := eq_true e162
theorem k163 {K : Prop} : Chk (ElemZ Tryd.prog 163 (.nilFunc)) K = K := Chk_of e163
theorem ke163 : (ElemZ Tryd.prog 163 (.nilFunc)) = True := eq_true e163
theorem k164 {K : Prop} : Chk (ElemZ Tryd.prog 164 (.pointer none)) K = K := Chk_of e164
theorem ke164 : (ElemZ Tryd.prog 164 (.pointer none)) = True := eq_true e164
theorem k165 {K : Prop} : Chk (ElemZ Tryd.prog 165 (.nilFunc)) K = K := Chk_of e165
theorem ke165 : (ElemZ Tryd.prog 165 (.nilFunc)) = True := eq_true e165
theorem k166 {K : Prop} : Chk (ElemZ Tryd.prog 166 (.nilFunc)) K = K := Chk_of e166
theorem ke166 : (ElemZ Tryd.prog 166 (.nilFunc)) = True := eq_true e166
theorem k167 {K : Prop} : Chk (ElemZ Tryd.prog 167 (.pointer none)) K = K := Chk_of e167
theorem ke167 : (ElemZ Tryd.prog 167 (.pointer none)) = True := eq_true e167
theorem k168 {K : Prop} : Chk (ElemZ Tryd.prog 168 (.nilFunc)) K = K := Chk_of e168
theorem ke168 : (ElemZ Tryd.prog 168 (.nilFunc)) = True := eq_true e168
theorem k170 {K : Prop} : Chk (ElemZ Tryd.prog 170 (.agg #[.int .u8 0, .int .u8 0])) K = K := Chk_of e170
theorem ke170 : (ElemZ Tryd.prog 170 (.agg #[.int .u8 0, .int .u8 0])) = True := eq_true e170
theorem k171 {K : Prop} : Chk (ElemZ Tryd.prog 171 (.agg #[.int .u8 0, .int .u8 0])) K = K := Chk_of e171
theorem ke171 : (ElemZ Tryd.prog 171 (.agg #[.int .u8 0, .int .u8 0])) = True := eq_true e171
theorem k172 {K : Prop} : Chk (ElemZ Tryd.prog 172 (.agg #[.int .u8 0, .int .u8 0, .int .u8 0, .int .u8 0, .int .u8 0, .int .u8 0, .int .u8 0, .int .u8 0, .int .u8 0, .int .u8 0, .int .u8 0, .int .u8 0, .int .u8 0, .int .u8 0, .int .u8 0, .int .u8 0, .int .u8 0, .int .u8 0, .int .u8 0, .int .u8 0, .int .u8 0, .int .u8 0, .int .u8 0, .int .u8 0, .int .u8 0, .int .u8 0, .int .u8 0, .int .u8 0, .int .u8 0, .int .u8 0, .int .u8 0, .int .u8 0])) K = K := Chk_of e172
theorem ke172 : (ElemZ Tryd.prog 172 (.agg #[.int .u8 0, .int .u8 0, .int .u8 0, .int .u8 0, .int .u8 0, .int .u8 0, .int .u8 0, .int .u8 0, .int .u8 0, .int .u8 0, .int .u8 0, .int .u8 0, .int .u8 0, .int .u8 0, .int .u8 0, .int .u8 0, .int .u8 0, .int .u8 0, .int .u8 0, .int .u8 0, .int .u8 0, .int .u8 0, .int .u8 0, .int .u8 0, .int .u8 0, .int .u8 0, .int .u8 0, .int .u8 0, .int .u8 0, .int .u8 0, .int .u8 0, .int .u8 0])) = True := eq_true e172
theorem k173 {K : Prop} : Chk (ElemZ Tryd.prog 173 (.nilFunc)) K = K := Chk_of e173
theorem ke173 : (ElemZ Tryd.prog 173 (.nilFunc)) = True := eq_true e173
theorem k174 {K : Prop} : Chk (ElemZ Tryd.prog 174 (.nilFunc)) K = K := Chk_of e174
theorem ke174 : (ElemZ Tryd.prog 174 (.nilFunc)) = True := eq_true e174
theorem k175 {K : Prop} : Chk (ElemZ Tryd.prog 175 (.nilFunc)) K = K := Chk_of e175
theorem ke175 : (ElemZ Tryd.prog 175 (.nilFunc)) = True := eq_true e175
theorem k176 {K : Prop} : Chk (ElemZ Tryd.prog 176 (.nilFunc)) K = K := Chk_of e176
theorem ke176 : (ElemZ Tryd.prog 176 (.nilFunc)) = True := eq_true e176
theorem k177 {K : Prop} : Chk (ElemZ Tryd.prog 177 (.agg #[.pointer none, .pointer none, .pointer none, .string ⟨#[]⟩])) K = K := Chk_of e177
theorem ke177 : (ElemZ Tryd.prog 177 (.agg #[.pointer none, .pointer none, .pointer none, .string ⟨#[]⟩])) = True := eq_true e177
theorem k178 {K : Prop} : Chk (ElemZ Tryd.prog 178 (.agg #[.pointer none, .pointer none, .pointer none, .string ⟨#[]⟩])) K = K := Chk_of e178
theorem ke178 : (ElemZ Tryd.prog 178 (.agg #[.pointer none, .pointer none, .pointer none, .string ⟨#[]⟩])) = True := eq_true e178
theorem k182 {K : Prop} : Chk (ElemZ Tryd.prog 182 (.nilFunc)) K = K := Chk_of e182
theorem ke182 : (ElemZ Tryd.prog 182 (.nilFunc)) = True := eq_true e182
theorem k183 {K : Prop} : Chk (ElemZ Tryd.prog 183 (.int .u8 0)) K = K := Chk_of e183
theorem ke183 : (ElemZ Tryd.prog 183 (.int .u8 0)) = True := eq_true e183
theorem k184 {K : Prop} : Chk (ElemZ Tryd.prog 184 (.int .u8 0)) K = K := Chk_of e184
theorem ke184 : (ElemZ Tryd.prog 184 (.int .u8 0)) = True := eq_true e184
theorem k185 {K : Prop} : Chk (ElemZ Tryd.prog 185 (.nilFunc)) K = K := Chk_of e185
theorem ke185 : (ElemZ Tryd.prog 185 (.nilFunc)) = True := eq_true e185
theorem k186 {K : Prop} : Chk (ElemZ Tryd.prog 186 (.pointer none)) K = K := Chk_of e186
theorem ke186 : (ElemZ Tryd.prog 186 (.pointer none)) = True := eq_true e186
theorem k187 {K : Prop} : Chk (ElemZ Tryd.prog 187 (.int .i32 0)) K = K := Chk_of e187
theorem ke187 : (ElemZ Tryd.prog 187 (.int .i32 0)) = True := eq_true e187
theorem k188 {K : Prop} : Chk (ElemZ Tryd.prog 188 (.int .i32 0)) K = K := Chk_of e188
theorem ke188 : (ElemZ Tryd.prog 188 (.int .i32 0)) = True := eq_true e188
theorem k189 {K : Prop} : Chk (ElemZ Tryd.prog 189 (.agg #[.int .u64 0, .int .u64 0, .int .u32 0, .int .u8 0, .int .u8 0, .int .u8 0, .int .u8 0, .nilFunc, .pointer none, .int .i32 0, .int .i32 0])) K = K := Chk_of e189
theorem ke189 : (ElemZ Tryd.prog 189 (.agg #[.int .u64 0, .int .u64 0, .int .u32 0, .int .u8 0, .int .u8 0, .int .u8 0, .int .u8 0, .nilFunc, .pointer none, .int .i32 0, .int .i32 0])) = True := eq_true e189
theorem k190 {K : Prop} : Chk (ElemZ Tryd.prog 190 (.agg #[.int .u64 0, .int .u64 0, .int .u32 0, .int .u8 0, .int .u8 0, .int .u8 0, .int .u8 0, .nilFunc, .pointer none, .int .i32 0, .int .i32 0])) K = K := Chk_of e190
theorem ke190 : (ElemZ Tryd.prog 190 (.agg #[.int .u64 0, .int .u64 0, .int .u32 0, .int .u8 0, .int .u8 0, .int .u8 0, .int .u8 0, .nilFunc, .pointer none, .int .i32 0, .int .i32 0])) = True := eq_true e190
theorem k191 {K : Prop} : Chk (ElemZ Tryd.prog 191 (.pointer none)) K = K := Chk_of e191
theorem ke191 : (ElemZ Tryd.prog 191 (.pointer none)) = True := eq_true e191
theorem kf7 {K : Prop} : Chk (fieldsOkT Tryd.prog 7) K = K := Chk_of f7
theorem kt7 : (fieldsOkT Tryd.prog 7) = True := eq_true f7
theorem kf8 {K : Prop} : Chk (fieldsOkT Tryd.prog 8) K = K := Chk_of f8
theorem kt8 : (fieldsOkT Tryd.prog 8) = True := eq_true f8
theorem kf13 {K : Prop} : Chk (fieldsOkT Tryd.prog 13) K = K := Chk_of f13
theorem kt13 : (fieldsOkT Tryd.prog 13) = True := eq_true f13
theorem kf14 {K : Prop} : Chk (fieldsOkT Tryd.prog 14) K = K := Chk_of f14
theorem kt14 : (fieldsOkT Tryd.prog 14) = True := eq_true f14
theorem kf18 {K : Prop} : Chk (fieldsOkT Tryd.prog 18) K = K := Chk_of f18
theorem kt18 : (fieldsOkT Tryd.prog 18) = True := eq_true f18
theorem kf19 {K : Prop} : Chk (fieldsOkT Tryd.prog 19) K = K := Chk_of f19
theorem kt19 : (fieldsOkT Tryd.prog 19) = True := eq_true f19
theorem kf23 {K : Prop} : Chk (fieldsOkT Tryd.prog 23) K = K := Chk_of f23
theorem kt23 : (fieldsOkT Tryd.prog 23) = True := eq_true f23
theorem kf24 {K : Prop} : Chk (fieldsOkT Tryd.prog 24) K = K := Chk_of f24
theorem kt24 : (fieldsOkT Tryd.prog 24) = True := eq_true f24
theorem kf28 {K : Prop} : Chk (fieldsOkT Tryd.prog 28) K = K := Chk_of f28
theorem kt28 : (fieldsOkT Tryd.prog 28) = True := eq_true f28
theorem kf29 {K : Prop} : Chk (fieldsOkT Tryd.prog 29) K = K := Chk_of f29
theorem kt29 : (fieldsOkT Tryd.prog 29) = True := eq_true f29
theorem kf85 {K : Prop} : Chk (fieldsOkT Tryd.prog 85) K = K := Chk_of f85
theorem kt85 : (fieldsOkT Tryd.prog 85) = True := eq_true f85
theorem kf95 {K : Prop} : Chk (fieldsOkT Tryd.prog 95) K = K := Chk_of f95
theorem kt95 : (fieldsOkT Tryd.prog 95) = True := eq_true f95
theorem kf101 {K : Prop} : Chk (fieldsOkT Tryd.prog 101) K = K := Chk_of f101
theorem kt101 : (fieldsOkT Tryd.prog 101) = True := eq_true f101
theorem kf102 {K : Prop} : Chk (fieldsOkT Tryd.prog 102) K = K := Chk_of f102
theorem kt102 : (fieldsOkT Tryd.prog 102) = True := eq_true f102
theorem kf109 {K : Prop} : Chk (fieldsOkT Tryd.prog 109) K = K := Chk_of f109
theorem kt109 : (fieldsOkT Tryd.prog 109) = True := eq_true f109
theorem kf110 {K : Prop} : Chk (fieldsOkT Tryd.prog 110) K = K := Chk_of f110
theorem kt110 : (fieldsOkT Tryd.prog 110) = True := eq_true f110
theorem kf116 {K : Prop} : Chk (fieldsOkT Tryd.prog 116) K = K := Chk_of f116
theorem kt116 : (fieldsOkT Tryd.prog 116) = True := eq_true f116
theorem kf119 {K : Prop} : Chk (fieldsOkT Tryd.prog 119) K = K := Chk_of f119
theorem kt119 : (fieldsOkT Tryd.prog 119) = True := eq_true f119
theorem kf120 {K : Prop} : Chk (fieldsOkT Tryd.prog 120) K = K := Chk_of f120
theorem kt120 : (fieldsOkT Tryd.prog 120) = True := eq_true f120
theorem kf124 {K : Prop} : Chk (fieldsOkT Tryd.prog 124) K = K := Chk_of f124
theorem kt124 : (fieldsOkT Tryd.prog 124) = True := eq_true f124
theorem kf125 {K : Prop} : Chk (fieldsOkT Tryd.prog 125) K = K := Chk_of f125
theorem kt125 : (fieldsOkT Tryd.prog 125) = True := eq_true f125
theorem kf170 {K : Prop} : Chk (fieldsOkT Tryd.prog 170) K = K := Chk_of f170
theorem kt170 : (fieldsOkT Tryd.prog 170) = True := eq_true f170
theorem kf171 {K : Prop} : Chk (fieldsOkT Tryd.prog 171) K = K := Chk_of f171
theorem kt171 : (fieldsOkT Tryd.prog 171) = True := eq_true f171
theorem kf172 {K : Prop} : Chk (fieldsOkT Tryd.prog 172) K = K := Chk_of f172
theorem kt172 : (fieldsOkT Tryd.prog 172) = True := eq_true f172
theorem kf177 {K : Prop} : Chk (fieldsOkT Tryd.prog 177) K = K := Chk_of f177
theorem kt177 : (fieldsOkT Tryd.prog 177) = True := eq_true f177
theorem kf178 {K : Prop} : Chk (fieldsOkT Tryd.prog 178) K = K := Chk_of f178
theorem kt178 : (fieldsOkT Tryd.prog 178) = True := eq_true f178
theorem kf189 {K : Prop} : Chk (fieldsOkT Tryd.prog 189) K = K := Chk_of f189
theorem kt189 : (fieldsOkT Tryd.prog 189) = True := eq_true f189
theorem kf190 {K : Prop} : Chk (fieldsOkT Tryd.prog 190) K = K := Chk_of f190
theorem kt190 : (fieldsOkT Tryd.prog 190) = True := eq_true f190
theorem ky3 : Maps.Keyed Tryd.prog 3 = True := eq_true (Maps.int_keyed Tryd.underlying3)
theorem kt_3 (n : Int) : KeyT Tryd.prog 3 (.int .i64 n) = True := eq_true (.int Tryd.underlying3 n)
theorem km_3 (l : List Int) : KeysT Tryd.prog 3 (l.map (.int .i64)) = True := eq_true (KeysT_map (fun n => .int Tryd.underlying3 n) l)
attribute [go_sem] kq102 kqt102 kq110 kqt110 Tryd.underlying0 Tryd.underlying1 Tryd.underlying2 Tryd.underlying3 Tryd.underlying4 Tryd.underlying5 Tryd.underlying6 Tryd.underlying7
attribute [go_sem] Tryd.underlying8 Tryd.underlying9 Tryd.underlying10 Tryd.underlying11 Tryd.underlying12 Tryd.underlying13 Tryd.underlying14 Tryd.underlying15 Tryd.underlying16 Tryd.underlying17 Tryd.underlying18 Tryd.underlying19
attribute [go_sem] Tryd.underlying20 Tryd.underlying21 Tryd.underlying22 Tryd.underlying23 Tryd.underlying24 Tryd.underlying25 Tryd.underlying26 Tryd.underlying27 Tryd.underlying28 Tryd.underlying29 Tryd.underlying30 Tryd.underlying31
attribute [go_sem] Tryd.underlying32 Tryd.underlying33 Tryd.underlying34 Tryd.underlying35 Tryd.underlying36 Tryd.underlying37 Tryd.underlying38 Tryd.underlying39 Tryd.underlying40 Tryd.underlying41 Tryd.underlying42 Tryd.underlying43
attribute [go_sem] Tryd.underlying44 Tryd.underlying45 Tryd.underlying46 Tryd.underlying47 Tryd.underlying48 Tryd.underlying49 Tryd.underlying50 Tryd.underlying51 Tryd.underlying52 Tryd.underlying53 Tryd.underlying54 Tryd.underlying55
attribute [go_sem] Tryd.underlying56 Tryd.underlying57 Tryd.underlying58 Tryd.underlying59 Tryd.underlying60 Tryd.underlying61 Tryd.underlying62 Tryd.underlying63 Tryd.underlying64 Tryd.underlying65 Tryd.underlying66 Tryd.underlying67
attribute [go_sem] Tryd.underlying68 Tryd.underlying69 Tryd.underlying70 Tryd.underlying71 Tryd.underlying72 Tryd.underlying73 Tryd.underlying74 Tryd.underlying75 Tryd.underlying76 Tryd.underlying77 Tryd.underlying78 Tryd.underlying79
attribute [go_sem] Tryd.underlying80 Tryd.underlying81 Tryd.underlying82 Tryd.underlying83 Tryd.underlying84 Tryd.underlying85 Tryd.underlying86 Tryd.underlying87 Tryd.underlying88 Tryd.underlying89 Tryd.underlying90 Tryd.underlying91
attribute [go_sem] Tryd.underlying92 Tryd.underlying93 Tryd.underlying94 Tryd.underlying95 Tryd.underlying96 Tryd.underlying97 Tryd.underlying98 Tryd.underlying99 Tryd.underlying100 Tryd.underlying101 Tryd.underlying102 Tryd.underlying103
attribute [go_sem] Tryd.underlying104 Tryd.underlying105 Tryd.underlying106 Tryd.underlying107 Tryd.underlying108 Tryd.underlying109 Tryd.underlying110 Tryd.underlying111 Tryd.underlying112 Tryd.underlying113 Tryd.underlying114 Tryd.underlying115
attribute [go_sem] Tryd.underlying116 Tryd.underlying117 Tryd.underlying118 Tryd.underlying119 Tryd.underlying120 Tryd.underlying121 Tryd.underlying122 Tryd.underlying123 Tryd.underlying124 Tryd.underlying125 Tryd.underlying126 Tryd.underlying127
attribute [go_sem] Tryd.underlying128 Tryd.underlying129 Tryd.underlying130 Tryd.underlying131 Tryd.underlying132 Tryd.underlying133 Tryd.underlying134 Tryd.underlying135 Tryd.underlying136 Tryd.underlying137 Tryd.underlying138 Tryd.underlying139
attribute [go_sem] Tryd.underlying140 Tryd.underlying141 Tryd.underlying142 Tryd.underlying143 Tryd.underlying144 Tryd.underlying145 Tryd.underlying146 Tryd.underlying147 Tryd.underlying148 Tryd.underlying149 Tryd.underlying150 Tryd.underlying151
attribute [go_sem] Tryd.underlying152 Tryd.underlying153 Tryd.underlying154 Tryd.underlying155 Tryd.underlying156 Tryd.underlying157 Tryd.underlying158 Tryd.underlying159 Tryd.underlying160 Tryd.underlying161 Tryd.underlying162 Tryd.underlying163
attribute [go_sem] Tryd.underlying164 Tryd.underlying165 Tryd.underlying166 Tryd.underlying167 Tryd.underlying168 Tryd.underlying169 Tryd.underlying170 Tryd.underlying171 Tryd.underlying172 Tryd.underlying173 Tryd.underlying174 Tryd.underlying175
attribute [go_sem] Tryd.underlying176 Tryd.underlying177 Tryd.underlying178 Tryd.underlying179 Tryd.underlying180 Tryd.underlying181 Tryd.underlying182 Tryd.underlying183 Tryd.underlying184 Tryd.underlying185 Tryd.underlying186 Tryd.underlying187
attribute [go_sem] Tryd.underlying188 Tryd.underlying189 Tryd.underlying190 Tryd.underlying191 k1 ke1 z1 c1 k2 ke2 z2 c2
attribute [go_sem] k3 ke3 z3 c3 k4 ke4 z4 c4 k5 ke5 z5 c5
attribute [go_sem] k6 ke6 z6 c6 k7 ke7 z7 c7 k8 ke8 z8 c8
attribute [go_sem] k9 ke9 z9 c9 k10 ke10 z10 c10 k11 ke11 z11 c11
attribute [go_sem] k12 ke12 z12 c12 k13 ke13 z13 c13 k14 ke14 z14 c14
attribute [go_sem] k15 ke15 z15 c15 k16 ke16 z16 c16 k17 ke17 z17 c17
attribute [go_sem] k18 ke18 z18 c18 k19 ke19 z19 c19 k20 ke20 z20 c20
attribute [go_sem] k21 ke21 z21 c21 k22 ke22 z22 c22 k23 ke23 z23 c23
attribute [go_sem] k24 ke24 z24 c24 k25 ke25 z25 c25 k26 ke26 z26 c26
attribute [go_sem] k27 ke27 z27 c27 k28 ke28 z28 c28 k29 ke29 z29 c29
attribute [go_sem] k30 ke30 z30 c30 k32 ke32 z32 c32 k33 ke33 z33 c33
attribute [go_sem] k34 ke34 z34 c34 k35 ke35 z35 c35 k36 ke36 z36 c36
attribute [go_sem] k37 ke37 z37 c37 k38 ke38 z38 c38 k39 ke39 z39 c39
attribute [go_sem] k40 ke40 z40 c40 k42 ke42 z42 c42 k43 ke43 z43 c43
attribute [go_sem] k44 ke44 z44 c44 k45 ke45 z45 c45 k46 ke46 z46 c46
attribute [go_sem] k47 ke47 z47 c47 k48 ke48 z48 c48 k49 ke49 z49 c49
attribute [go_sem] k50 ke50 z50 c50 k51 ke51 z51 c51 k53 ke53 z53 c53
attribute [go_sem] k55 ke55 z55 c55 k56 ke56 z56 c56 k58 ke58 z58 c58
attribute [go_sem] k59 ke59 z59 c59 k60 ke60 z60 c60 k61 ke61 z61 c61
attribute [go_sem] k62 ke62 z62 c62 k63 ke63 z63 c63 k64 ke64 z64 c64
attribute [go_sem] k65 ke65 z65 c65 k66 ke66 z66 c66 k67 ke67 z67 c67
attribute [go_sem] k68 ke68 z68 c68 k69 ke69 z69 c69 k70 ke70 z70 c70
attribute [go_sem] k71 ke71 z71 c71 k72 ke72 z72 c72 k73 ke73 z73 c73
attribute [go_sem] k74 ke74 z74 c74 k76 ke76 z76 c76 k77 ke77 z77 c77
attribute [go_sem] k78 ke78 z78 c78 k79 ke79 z79 c79 k80 ke80 z80 c80
attribute [go_sem] k82 ke82 z82 c82 k84 ke84 z84 c84 k85 ke85 z85 c85
attribute [go_sem] k86 ke86 z86 c86 k87 ke87 z87 c87 k88 ke88 z88 c88
attribute [go_sem] k89 ke89 z89 c89 k90 ke90 z90 c90 k91 ke91 z91 c91
attribute [go_sem] k92 ke92 z92 c92 k93 ke93 z93 c93 k94 ke94 z94 c94
attribute [go_sem] k95 ke95 z95 c95 k96 ke96 z96 c96 k97 ke97 z97 c97
attribute [go_sem] k98 ke98 z98 c98 k99 ke99 z99 c99 k100 ke100 z100 c100
attribute [go_sem] k101 ke101 z101 c101 k102 ke102 z102 c102 k103 ke103 z103 c103
attribute [go_sem] k104 ke104 z104 c104 k105 ke105 z105 c105 k107 ke107 z107 c107
attribute [go_sem] k108 ke108 z108 c108 k109 ke109 z109 c109 k110 ke110 z110 c110
attribute [go_sem] k111 ke111 z111 c111 k112 ke112 z112 c112 k113 ke113 z113 c113
attribute [go_sem] k114 ke114 z114 c114 k115 ke115 z115 c115 k116 ke116 z116 c116
attribute [go_sem] k117 ke117 z117 c117 k118 ke118 z118 c118 k119 ke119 z119 c119
attribute [go_sem] k120 ke120 z120 c120 k121 ke121 z121 c121 k122 ke122 z122 c122
attribute [go_sem] k123 ke123 z123 c123 k124 ke124 z124 c124 k125 ke125 z125 c125
attribute [go_sem] k126 ke126 z126 c126 k127 ke127 z127 c127 k128 ke128 z128 c128
attribute [go_sem] k129 ke129 z129 c129 k130 ke130 z130 c130 k131 ke131 z131 c131
attribute [go_sem] k132 ke132 z132 c132 k133 ke133 z133 c133 k134 ke134 z134 c134
attribute [go_sem] k135 ke135 z135 c135 k136 ke136 z136 c136 k137 ke137 z137 c137
attribute [go_sem] k141 ke141 z141 c141 k142 ke142 z142 c142 k143 ke143 z143 c143
attribute [go_sem] k144 ke144 z144 c144 k145 ke145 z145 c145 k147 ke147 z147 c147
attribute [go_sem] k148 ke148 z148 c148 k149 ke149 z149 c149 k151 ke151 z151 c151
attribute [go_sem] k152 ke152 z152 c152 k153 ke153 z153 c153 k154 ke154 z154 c154
attribute [go_sem] k155 ke155 z155 c155 k156 ke156 z156 c156 k158 ke158 z158 c158
attribute [go_sem] k159 ke159 z159 c159 k160 ke160 z160 c160 k161 ke161 z161 c161
attribute [go_sem] k162 ke162 z162 c162 k163 ke163 z163 c163 k164 ke164 z164 c164
attribute [go_sem] k165 ke165 z165 c165 k166 ke166 z166 c166 k167 ke167 z167 c167
attribute [go_sem] k168 ke168 z168 c168 k170 ke170 z170 c170 k171 ke171 z171 c171
attribute [go_sem] k172 ke172 z172 c172 k173 ke173 z173 c173 k174 ke174 z174 c174
attribute [go_sem] k175 ke175 z175 c175 k176 ke176 z176 c176 k177 ke177 z177 c177
attribute [go_sem] k178 ke178 z178 c178 k182 ke182 z182 c182 k183 ke183 z183 c183
attribute [go_sem] k184 ke184 z184 c184 k185 ke185 z185 c185 k186 ke186 z186 c186
attribute [go_sem] k187 ke187 z187 c187 k188 ke188 z188 c188 k189 ke189 z189 c189
attribute [go_sem] k190 ke190 z190 c190 k191 ke191 z191 c191 kf7 kt7 kf8 kt8
attribute [go_sem] kf13 kt13 kf14 kt14 kf18 kt18 kf19 kt19 kf23 kt23 kf24 kt24
attribute [go_sem] kf28 kt28 kf29 kt29 kf85 kt85 kf95 kt95 kf101 kt101 kf102 kt102
attribute [go_sem] kf109 kt109 kf110 kt110 kf116 kt116 kf119 kt119 kf120 kt120 kf124 kt124
attribute [go_sem] kf125 kt125 kf170 kt170 kf171 kt171 kf172 kt172 kf177 kt177 kf178 kt178
attribute [go_sem] kf189 kt189 kf190 kt190 ky3 kt_3 km_3
end Go.Fv.K
