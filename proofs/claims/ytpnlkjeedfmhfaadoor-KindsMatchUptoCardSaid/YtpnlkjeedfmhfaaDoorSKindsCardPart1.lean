/-
  A part of the proof of the claim: walks over the program's functions and the plain laws that these need. No condition of its own.
-/
import Derived.Test.YtpnlkjeedfmhfaaDoorFvPart9
import Derived.Test.YtpnlkjeedfmhfaaDoorProg
/- Facts about the program's types: each shown by reckoning it out. -/

namespace Go.Fv.S
open Go Go.Proofs
theorem e1 : ElemZ Tryd.prog 1 (.nilFunc) := .of (by kernel_rfl) (by kernel_rfl)
theorem z1 : zeroOf Tryd.prog 1 = some (.nilFunc) := e1.zero
theorem c1 : Tryd.prog.cellsOf 1 = 1 := e1.cellsOf
theorem e2 : ElemZ Tryd.prog 2 (.int .i64 0) := .of (by kernel_rfl) (by kernel_rfl)
theorem z2 : zeroOf Tryd.prog 2 = some (.int .i64 0) := e2.zero
theorem c2 : Tryd.prog.cellsOf 2 = 1 := e2.cellsOf
theorem e3 : ElemZ Tryd.prog 3 (.int .i64 0) := .of (by kernel_rfl) (by kernel_rfl)
theorem z3 : zeroOf Tryd.prog 3 = some (.int .i64 0) := e3.zero
theorem c3 : Tryd.prog.cellsOf 3 = 1 := e3.cellsOf
theorem e4 : ElemZ Tryd.prog 4 (.bool false) := .of (by kernel_rfl) (by kernel_rfl)
theorem z4 : zeroOf Tryd.prog 4 = some (.bool false) := e4.zero
theorem c4 : Tryd.prog.cellsOf 4 = 1 := e4.cellsOf
theorem e5 : ElemZ Tryd.prog 5 (.int .u8 0) := .of (by kernel_rfl) (by kernel_rfl)
theorem z5 : zeroOf Tryd.prog 5 = some (.int .u8 0) := e5.zero
theorem c5 : Tryd.prog.cellsOf 5 = 1 := e5.cellsOf
theorem e6 : ElemZ Tryd.prog 6 (.int .u8 0) := .of (by kernel_rfl) (by kernel_rfl)
theorem z6 : zeroOf Tryd.prog 6 = some (.int .u8 0) := e6.zero
theorem c6 : Tryd.prog.cellsOf 6 = 1 := e6.cellsOf
theorem e7 : ElemZ Tryd.prog 7 (.agg #[.int .i64 0, .int .i64 0, .bool false, .int .u8 0]) := .of (by kernel_rfl) (by kernel_rfl)
theorem z7 : zeroOf Tryd.prog 7 = some (.agg #[.int .i64 0, .int .i64 0, .bool false, .int .u8 0]) := e7.zero
theorem c7 : Tryd.prog.cellsOf 7 = 4 := e7.cellsOf
theorem e8 : ElemZ Tryd.prog 8 (.agg #[.int .i64 0, .int .i64 0, .bool false, .int .u8 0]) := .of (by kernel_rfl) (by kernel_rfl)
theorem z8 : zeroOf Tryd.prog 8 = some (.agg #[.int .i64 0, .int .i64 0, .bool false, .int .u8 0]) := e8.zero
theorem c8 : Tryd.prog.cellsOf 8 = 4 := e8.cellsOf
theorem e9 : ElemZ Tryd.prog 9 (.string ⟨#[]⟩) := .of (by kernel_rfl) (by kernel_rfl)
theorem z9 : zeroOf Tryd.prog 9 = some (.string ⟨#[]⟩) := e9.zero
theorem c9 : Tryd.prog.cellsOf 9 = 1 := e9.cellsOf
theorem e10 : ElemZ Tryd.prog 10 (.string ⟨#[]⟩) := .of (by kernel_rfl) (by kernel_rfl)
theorem z10 : zeroOf Tryd.prog 10 = some (.string ⟨#[]⟩) := e10.zero
theorem c10 : Tryd.prog.cellsOf 10 = 1 := e10.cellsOf
theorem e11 : ElemZ Tryd.prog 11 (.string ⟨#[]⟩) := .of (by kernel_rfl) (by kernel_rfl)
theorem z11 : zeroOf Tryd.prog 11 = some (.string ⟨#[]⟩) := e11.zero
theorem c11 : Tryd.prog.cellsOf 11 = 1 := e11.cellsOf
theorem e12 : ElemZ Tryd.prog 12 (.int .u64 0) := .of (by kernel_rfl) (by kernel_rfl)
theorem z12 : zeroOf Tryd.prog 12 = some (.int .u64 0) := e12.zero
theorem c12 : Tryd.prog.cellsOf 12 = 1 := e12.cellsOf
theorem e13 : ElemZ Tryd.prog 13 (.agg #[.string ⟨#[]⟩, .int .u64 0]) := .of (by kernel_rfl) (by kernel_rfl)
theorem z13 : zeroOf Tryd.prog 13 = some (.agg #[.string ⟨#[]⟩, .int .u64 0]) := e13.zero
theorem c13 : Tryd.prog.cellsOf 13 = 2 := e13.cellsOf
theorem e14 : ElemZ Tryd.prog 14 (.agg #[.string ⟨#[]⟩, .int .u64 0]) := .of (by kernel_rfl) (by kernel_rfl)
theorem z14 : zeroOf Tryd.prog 14 = some (.agg #[.string ⟨#[]⟩, .int .u64 0]) := e14.zero
theorem c14 : Tryd.prog.cellsOf 14 = 2 := e14.cellsOf
theorem e15 : ElemZ Tryd.prog 15 (.pointer none) := .of (by kernel_rfl) (by kernel_rfl)
theorem z15 : zeroOf Tryd.prog 15 = some (.pointer none) := e15.zero
theorem c15 : Tryd.prog.cellsOf 15 = 1 := e15.cellsOf
theorem e16 : ElemZ Tryd.prog 16 (.pointer none) := .of (by kernel_rfl) (by kernel_rfl)
theorem z16 : zeroOf Tryd.prog 16 = some (.pointer none) := e16.zero
theorem c16 : Tryd.prog.cellsOf 16 = 1 := e16.cellsOf
theorem e17 : ElemZ Tryd.prog 17 (.pointer none) := .of (by kernel_rfl) (by kernel_rfl)
theorem z17 : zeroOf Tryd.prog 17 = some (.pointer none) := e17.zero
theorem c17 : Tryd.prog.cellsOf 17 = 1 := e17.cellsOf
theorem e18 : ElemZ Tryd.prog 18 (.agg #[.pointer none]) := .of (by kernel_rfl) (by kernel_rfl)
theorem z18 : zeroOf Tryd.prog 18 = some (.agg #[.pointer none]) := e18.zero
theorem c18 : Tryd.prog.cellsOf 18 = 1 := e18.cellsOf
theorem e19 : ElemZ Tryd.prog 19 (.agg #[.pointer none]) := .of (by kernel_rfl) (by kernel_rfl)
theorem z19 : zeroOf Tryd.prog 19 = some (.agg #[.pointer none]) := e19.zero
theorem c19 : Tryd.prog.cellsOf 19 = 1 := e19.cellsOf
theorem e20 : ElemZ Tryd.prog 20 (.nilIface) := .of (by kernel_rfl) (by kernel_rfl)
theorem z20 : zeroOf Tryd.prog 20 = some (.nilIface) := e20.zero
theorem c20 : Tryd.prog.cellsOf 20 = 1 := e20.cellsOf
theorem e21 : ElemZ Tryd.prog 21 (.int .i32 0) := .of (by kernel_rfl) (by kernel_rfl)
theorem z21 : zeroOf Tryd.prog 21 = some (.int .i32 0) := e21.zero
theorem c21 : Tryd.prog.cellsOf 21 = 1 := e21.cellsOf
theorem e22 : ElemZ Tryd.prog 22 (.slice none 0 0) := .of (by kernel_rfl) (by kernel_rfl)
theorem z22 : zeroOf Tryd.prog 22 = some (.slice none 0 0) := e22.zero
theorem c22 : Tryd.prog.cellsOf 22 = 1 := e22.cellsOf
theorem e23 : ElemZ Tryd.prog 23 (.nilFunc) := .of (by kernel_rfl) (by kernel_rfl)
theorem z23 : zeroOf Tryd.prog 23 = some (.nilFunc) := e23.zero
theorem c23 : Tryd.prog.cellsOf 23 = 1 := e23.cellsOf
theorem e24 : ElemZ Tryd.prog 24 (.nilFunc) := .of (by kernel_rfl) (by kernel_rfl)
theorem z24 : zeroOf Tryd.prog 24 = some (.nilFunc) := e24.zero
theorem c24 : Tryd.prog.cellsOf 24 = 1 := e24.cellsOf
theorem e25 : ElemZ Tryd.prog 25 (.slice none 0 0) := .of (by kernel_rfl) (by kernel_rfl)
theorem z25 : zeroOf Tryd.prog 25 = some (.slice none 0 0) := e25.zero
theorem c25 : Tryd.prog.cellsOf 25 = 1 := e25.cellsOf
theorem e26 : ElemZ Tryd.prog 26 (.agg #[.int .i64 0, .int .i64 0, .slice none 0 0]) := .of (by kernel_rfl) (by kernel_rfl)
theorem z26 : zeroOf Tryd.prog 26 = some (.agg #[.int .i64 0, .int .i64 0, .slice none 0 0]) := e26.zero
theorem c26 : Tryd.prog.cellsOf 26 = 3 := e26.cellsOf
theorem e27 : ElemZ Tryd.prog 27 (.agg #[.int .i64 0, .int .i64 0, .slice none 0 0]) := .of (by kernel_rfl) (by kernel_rfl)
theorem z27 : zeroOf Tryd.prog 27 = some (.agg #[.int .i64 0, .int .i64 0, .slice none 0 0]) := e27.zero
theorem c27 : Tryd.prog.cellsOf 27 = 3 := e27.cellsOf
theorem e28 : ElemZ Tryd.prog 28 (.slice none 0 0) := .of (by kernel_rfl) (by kernel_rfl)
theorem z28 : zeroOf Tryd.prog 28 = some (.slice none 0 0) := e28.zero
theorem c28 : Tryd.prog.cellsOf 28 = 1 := e28.cellsOf
theorem e29 : ElemZ Tryd.prog 29 (.agg #[.int .i64 0, .int .i64 0, .slice none 0 0, .slice none 0 0, .string ⟨#[]⟩]) := .of (by kernel_rfl) (by kernel_rfl)
theorem z29 : zeroOf Tryd.prog 29 = some (.agg #[.int .i64 0, .int .i64 0, .slice none 0 0, .slice none 0 0, .string ⟨#[]⟩]) := e29.zero
theorem c29 : Tryd.prog.cellsOf 29 = 5 := e29.cellsOf
theorem e30 : ElemZ Tryd.prog 30 (.agg #[.int .i64 0, .int .i64 0, .slice none 0 0, .slice none 0 0, .string ⟨#[]⟩]) := .of (by kernel_rfl) (by kernel_rfl)
theorem z30 : zeroOf Tryd.prog 30 = some (.agg #[.int .i64 0, .int .i64 0, .slice none 0 0, .slice none 0 0, .string ⟨#[]⟩]) := e30.zero
theorem c30 : Tryd.prog.cellsOf 30 = 5 := e30.cellsOf
theorem e31 : ElemZ Tryd.prog 31 (.int .i64 0) := .of (by kernel_rfl) (by kernel_rfl)
theorem z31 : zeroOf Tryd.prog 31 = some (.int .i64 0) := e31.zero
theorem c31 : Tryd.prog.cellsOf 31 = 1 := e31.cellsOf
theorem e32 : ElemZ Tryd.prog 32 (.nilFunc) := .of (by kernel_rfl) (by kernel_rfl)
theorem z32 : zeroOf Tryd.prog 32 = some (.nilFunc) := e32.zero
theorem c32 : Tryd.prog.cellsOf 32 = 1 := e32.cellsOf
theorem e34 : ElemZ Tryd.prog 34 (.nilFunc) := .of (by kernel_rfl) (by kernel_rfl)
theorem z34 : zeroOf Tryd.prog 34 = some (.nilFunc) := e34.zero
theorem c34 : Tryd.prog.cellsOf 34 = 1 := e34.cellsOf
theorem e35 : ElemZ Tryd.prog 35 (.nilFunc) := .of (by kernel_rfl) (by kernel_rfl)
theorem z35 : zeroOf Tryd.prog 35 = some (.nilFunc) := e35.zero
theorem c35 : Tryd.prog.cellsOf 35 = 1 := e35.cellsOf
theorem e36 : ElemZ Tryd.prog 36 (.nilFunc) := .of (by kernel_rfl) (by kernel_rfl)
theorem z36 : zeroOf Tryd.prog 36 = some (.nilFunc) := e36.zero
theorem c36 : Tryd.prog.cellsOf 36 = 1 := e36.cellsOf
theorem e37 : ElemZ Tryd.prog 37 (.nilFunc) := .of (by kernel_rfl) (by kernel_rfl)
theorem z37 : zeroOf Tryd.prog 37 = some (.nilFunc) := e37.zero
theorem c37 : Tryd.prog.cellsOf 37 = 1 := e37.cellsOf
theorem e38 : ElemZ Tryd.prog 38 (.nilFunc) := .of (by kernel_rfl) (by kernel_rfl)
theorem z38 : zeroOf Tryd.prog 38 = some (.nilFunc) := e38.zero
theorem c38 : Tryd.prog.cellsOf 38 = 1 := e38.cellsOf
theorem e39 : ElemZ Tryd.prog 39 (.nilFunc) := .of (by kernel_rfl) (by kernel_rfl)
theorem z39 : zeroOf Tryd.prog 39 = some (.nilFunc) := e39.zero
theorem c39 : Tryd.prog.cellsOf 39 = 1 := e39.cellsOf
theorem e40 : ElemZ Tryd.prog 40 (.nilFunc) := .of (by kernel_rfl) (by kernel_rfl)
theorem z40 : zeroOf Tryd.prog 40 = some (.nilFunc) := e40.zero
theorem c40 : Tryd.prog.cellsOf 40 = 1 := e40.cellsOf
theorem e42 : ElemZ Tryd.prog 42 (.nilFunc) := .of (by kernel_rfl) (by kernel_rfl)
theorem z42 : zeroOf Tryd.prog 42 = some (.nilFunc) := e42.zero
theorem c42 : Tryd.prog.cellsOf 42 = 1 := e42.cellsOf
theorem e43 : ElemZ Tryd.prog 43 (.nilFunc) := .of (by kernel_rfl) (by kernel_rfl)
theorem z43 : zeroOf Tryd.prog 43 = some (.nilFunc) := e43.zero
theorem c43 : Tryd.prog.cellsOf 43 = 1 := e43.cellsOf
theorem e44 : ElemZ Tryd.prog 44 (.slice none 0 0) := .of (by kernel_rfl) (by kernel_rfl)
theorem z44 : zeroOf Tryd.prog 44 = some (.slice none 0 0) := e44.zero
theorem c44 : Tryd.prog.cellsOf 44 = 1 := e44.cellsOf
theorem e46 : ElemZ Tryd.prog 46 (.nilFunc) := .of (by kernel_rfl) (by kernel_rfl)
theorem z46 : zeroOf Tryd.prog 46 = some (.nilFunc) := e46.zero
theorem c46 : Tryd.prog.cellsOf 46 = 1 := e46.cellsOf
theorem e47 : ElemZ Tryd.prog 47 (.nilFunc) := .of (by kernel_rfl) (by kernel_rfl)
theorem z47 : zeroOf Tryd.prog 47 = some (.nilFunc) := e47.zero
theorem c47 : Tryd.prog.cellsOf 47 = 1 := e47.cellsOf
theorem e48 : ElemZ Tryd.prog 48 (.nilFunc) := .of (by kernel_rfl) (by kernel_rfl)
theorem z48 : zeroOf Tryd.prog 48 = some (.nilFunc) := e48.zero
theorem c48 : Tryd.prog.cellsOf 48 = 1 := e48.cellsOf
theorem e49 : ElemZ Tryd.prog 49 (.nilFunc) := .of (by kernel_rfl) (by kernel_rfl)
theorem z49 : zeroOf Tryd.prog 49 = some (.nilFunc) := e49.zero
theorem c49 : Tryd.prog.cellsOf 49 = 1 := e49.cellsOf
theorem e50 : ElemZ Tryd.prog 50 (.slice none 0 0) := .of (by kernel_rfl) (by kernel_rfl)
theorem z50 : zeroOf Tryd.prog 50 = some (.slice none 0 0) := e50.zero
theorem c50 : Tryd.prog.cellsOf 50 = 1 := e50.cellsOf
theorem e52 : ElemZ Tryd.prog 52 (.nilFunc) := .of (by kernel_rfl) (by kernel_rfl)
theorem z52 : zeroOf Tryd.prog 52 = some (.nilFunc) := e52.zero
theorem c52 : Tryd.prog.cellsOf 52 = 1 := e52.cellsOf
theorem e54 : ElemZ Tryd.prog 54 (.nilFunc) := .of (by kernel_rfl) (by kernel_rfl)
theorem z54 : zeroOf Tryd.prog 54 = some (.nilFunc) := e54.zero
theorem c54 : Tryd.prog.cellsOf 54 = 1 := e54.cellsOf
theorem e55 : ElemZ Tryd.prog 55 (.nilFunc) := .of (by kernel_rfl) (by kernel_rfl)
theorem z55 : zeroOf Tryd.prog 55 = some (.nilFunc) := e55.zero
theorem c55 : Tryd.prog.cellsOf 55 = 1 := e55.cellsOf
theorem e56 : ElemZ Tryd.prog 56 (.nilFunc) := .of (by kernel_rfl) (by kernel_rfl)
theorem z56 : zeroOf Tryd.prog 56 = some (.nilFunc) := e56.zero
theorem c56 : Tryd.prog.cellsOf 56 = 1 := e56.cellsOf
theorem e57 : ElemZ Tryd.prog 57 (.nilFunc) := .of (by kernel_rfl) (by kernel_rfl)
theorem z57 : zeroOf Tryd.prog 57 = some (.nilFunc) := e57.zero
theorem c57 : Tryd.prog.cellsOf 57 = 1 := e57.cellsOf
theorem e58 : ElemZ Tryd.prog 58 (.nilFunc) := .of (by kernel_rfl) (by kernel_rfl)
theorem z58 : zeroOf Tryd.prog 58 = some (.nilFunc) := e58.zero
theorem c58 : Tryd.prog.cellsOf 58 = 1 := e58.cellsOf
theorem e59 : ElemZ Tryd.prog 59 (.slice none 0 0) := .of (by kernel_rfl) (by kernel_rfl)
theorem z59 : zeroOf Tryd.prog 59 = some (.slice none 0 0) := e59.zero
theorem c59 : Tryd.prog.cellsOf 59 = 1 := e59.cellsOf
theorem e61 : ElemZ Tryd.prog 61 (.nilFunc) := .of (by kernel_rfl) (by kernel_rfl)
theorem z61 : zeroOf Tryd.prog 61 = some (.nilFunc) := e61.zero
theorem c61 : Tryd.prog.cellsOf 61 = 1 := e61.cellsOf
theorem e62 : ElemZ Tryd.prog 62 (.nilFunc) := .of (by kernel_rfl) (by kernel_rfl)
theorem z62 : zeroOf Tryd.prog 62 = some (.nilFunc) := e62.zero
theorem c62 : Tryd.prog.cellsOf 62 = 1 := e62.cellsOf
theorem e63 : ElemZ Tryd.prog 63 (.nilFunc) := .of (by kernel_rfl) (by kernel_rfl)
theorem z63 : zeroOf Tryd.prog 63 = some (.nilFunc) := e63.zero
theorem c63 : Tryd.prog.cellsOf 63 = 1 := e63.cellsOf
theorem e64 : ElemZ Tryd.prog 64 (.nilFunc) := .of (by kernel_rfl) (by kernel_rfl)
theorem z64 : zeroOf Tryd.prog 64 = some (.nilFunc) := e64.zero
theorem c64 : Tryd.prog.cellsOf 64 = 1 := e64.cellsOf
theorem e65 : ElemZ Tryd.prog 65 (.slice none 0 0) := .of (by kernel_rfl) (by kernel_rfl)
theorem z65 : zeroOf Tryd.prog 65 = some (.slice none 0 0) := e65.zero
theorem c65 : Tryd.prog.cellsOf 65 = 1 := e65.cellsOf
theorem e66 : ElemZ Tryd.prog 66 (.agg #[.string ⟨#[]⟩, .slice none 0 0]) := .of (by kernel_rfl) (by kernel_rfl)
theorem z66 : zeroOf Tryd.prog 66 = some (.agg #[.string ⟨#[]⟩, .slice none 0 0]) := e66.zero
theorem c66 : Tryd.prog.cellsOf 66 = 2 := e66.cellsOf
theorem e67 : ElemZ Tryd.prog 67 (.agg #[.string ⟨#[]⟩, .slice none 0 0]) := .of (by kernel_rfl) (by kernel_rfl)
theorem z67 : zeroOf Tryd.prog 67 = some (.agg #[.string ⟨#[]⟩, .slice none 0 0]) := e67.zero
theorem c67 : Tryd.prog.cellsOf 67 = 2 := e67.cellsOf
theorem e68 : ElemZ Tryd.prog 68 (.nilFunc) := .of (by kernel_rfl) (by kernel_rfl)
theorem z68 : zeroOf Tryd.prog 68 = some (.nilFunc) := e68.zero
theorem c68 : Tryd.prog.cellsOf 68 = 1 := e68.cellsOf
theorem e70 : ElemZ Tryd.prog 70 (.nilFunc) := .of (by kernel_rfl) (by kernel_rfl)
theorem z70 : zeroOf Tryd.prog 70 = some (.nilFunc) := e70.zero
theorem c70 : Tryd.prog.cellsOf 70 = 1 := e70.cellsOf
theorem e71 : ElemZ Tryd.prog 71 (.nilFunc) := .of (by kernel_rfl) (by kernel_rfl)
theorem z71 : zeroOf Tryd.prog 71 = some (.nilFunc) := e71.zero
theorem c71 : Tryd.prog.cellsOf 71 = 1 := e71.cellsOf
theorem e73 : ElemZ Tryd.prog 73 (.nilFunc) := .of (by kernel_rfl) (by kernel_rfl)
theorem z73 : zeroOf Tryd.prog 73 = some (.nilFunc) := e73.zero
theorem c73 : Tryd.prog.cellsOf 73 = 1 := e73.cellsOf
theorem e74 : ElemZ Tryd.prog 74 (.nilFunc) := .of (by kernel_rfl) (by kernel_rfl)
theorem z74 : zeroOf Tryd.prog 74 = some (.nilFunc) := e74.zero
theorem c74 : Tryd.prog.cellsOf 74 = 1 := e74.cellsOf
theorem e75 : ElemZ Tryd.prog 75 (.nilFunc) := .of (by kernel_rfl) (by kernel_rfl)
theorem z75 : zeroOf Tryd.prog 75 = some (.nilFunc) := e75.zero
theorem c75 : Tryd.prog.cellsOf 75 = 1 := e75.cellsOf
theorem e76 : ElemZ Tryd.prog 76 (.nilFunc) := .of (by kernel_rfl) (by kernel_rfl)
theorem z76 : zeroOf Tryd.prog 76 = some (.nilFunc) := e76.zero
theorem c76 : Tryd.prog.cellsOf 76 = 1 := e76.cellsOf
theorem e77 : ElemZ Tryd.prog 77 (.nilFunc) := .of (by kernel_rfl) (by kernel_rfl)
theorem z77 : zeroOf Tryd.prog 77 = some (.nilFunc) := e77.zero
theorem c77 : Tryd.prog.cellsOf 77 = 1 := e77.cellsOf
theorem e79 : ElemZ Tryd.prog 79 (.nilFunc) := .of (by kernel_rfl) (by kernel_rfl)
theorem z79 : zeroOf Tryd.prog 79 = some (.nilFunc) := e79.zero
theorem c79 : Tryd.prog.cellsOf 79 = 1 := e79.cellsOf
theorem e80 : ElemZ Tryd.prog 80 (.nilFunc) := .of (by kernel_rfl) (by kernel_rfl)
theorem z80 : zeroOf Tryd.prog 80 = some (.nilFunc) := e80.zero
theorem c80 : Tryd.prog.cellsOf 80 = 1 := e80.cellsOf
theorem e81 : ElemZ Tryd.prog 81 (.slice none 0 0) := .of (by kernel_rfl) (by kernel_rfl)
theorem z81 : zeroOf Tryd.prog 81 = some (.slice none 0 0) := e81.zero
theorem c81 : Tryd.prog.cellsOf 81 = 1 := e81.cellsOf
theorem e82 : ElemZ Tryd.prog 82 (.nilFunc) := .of (by kernel_rfl) (by kernel_rfl)
theorem z82 : zeroOf Tryd.prog 82 = some (.nilFunc) := e82.zero
theorem c82 : Tryd.prog.cellsOf 82 = 1 := e82.cellsOf
theorem e83 : ElemZ Tryd.prog 83 (.nilFunc) := .of (by kernel_rfl) (by kernel_rfl)
theorem z83 : zeroOf Tryd.prog 83 = some (.nilFunc) := e83.zero
theorem c83 : Tryd.prog.cellsOf 83 = 1 := e83.cellsOf
theorem e84 : ElemZ Tryd.prog 84 (.nilFunc) := .of (by kernel_rfl) (by kernel_rfl)
theorem z84 : zeroOf Tryd.prog 84 = some (.nilFunc) := e84.zero
theorem c84 : Tryd.prog.cellsOf 84 = 1 := e84.cellsOf
theorem e85 : ElemZ Tryd.prog 85 (.nilFunc) := .of (by kernel_rfl) (by kernel_rfl)
theorem z85 : zeroOf Tryd.prog 85 = some (.nilFunc) := e85.zero
theorem c85 : Tryd.prog.cellsOf 85 = 1 := e85.cellsOf
theorem e86 : ElemZ Tryd.prog 86 (.nilFunc) := .of (by kernel_rfl) (by kernel_rfl)
theorem z86 : zeroOf Tryd.prog 86 = some (.nilFunc) := e86.zero
theorem c86 : Tryd.prog.cellsOf 86 = 1 := e86.cellsOf
theorem e87 : ElemZ Tryd.prog 87 (.slice none 0 0) := .of (by kernel_rfl) (by kernel_rfl)
theorem z87 : zeroOf Tryd.prog 87 = some (.slice none 0 0) := e87.zero
theorem c87 : Tryd.prog.cellsOf 87 = 1 := e87.cellsOf
theorem e88 : ElemZ Tryd.prog 88 (.nilFunc) := .of (by kernel_rfl) (by kernel_rfl)
theorem z88 : zeroOf Tryd.prog 88 = some (.nilFunc) := e88.zero
theorem c88 : Tryd.prog.cellsOf 88 = 1 := e88.cellsOf
theorem e89 : ElemZ Tryd.prog 89 (.nilFunc) := .of (by kernel_rfl) (by kernel_rfl)
theorem z89 : zeroOf Tryd.prog 89 = some (.nilFunc) := e89.zero
theorem c89 : Tryd.prog.cellsOf 89 = 1 := e89.cellsOf
theorem e91 : ElemZ Tryd.prog 91 (.nilFunc) := .of (by kernel_rfl) (by kernel_rfl)
theorem z91 : zeroOf Tryd.prog 91 = some (.nilFunc) := e91.zero
theorem c91 : Tryd.prog.cellsOf 91 = 1 := e91.cellsOf
theorem e92 : ElemZ Tryd.prog 92 (.nilFunc) := .of (by kernel_rfl) (by kernel_rfl)
theorem z92 : zeroOf Tryd.prog 92 = some (.nilFunc) := e92.zero
theorem c92 : Tryd.prog.cellsOf 92 = 1 := e92.cellsOf
theorem e93 : ElemZ Tryd.prog 93 (.nilFunc) := .of (by kernel_rfl) (by kernel_rfl)
theorem z93 : zeroOf Tryd.prog 93 = some (.nilFunc) := e93.zero
theorem c93 : Tryd.prog.cellsOf 93 = 1 := e93.cellsOf
theorem e94 : ElemZ Tryd.prog 94 (.nilFunc) := .of (by kernel_rfl) (by kernel_rfl)
theorem z94 : zeroOf Tryd.prog 94 = some (.nilFunc) := e94.zero
theorem c94 : Tryd.prog.cellsOf 94 = 1 := e94.cellsOf
theorem e95 : ElemZ Tryd.prog 95 (.slice none 0 0) := .of (by kernel_rfl) (by kernel_rfl)
theorem z95 : zeroOf Tryd.prog 95 = some (.slice none 0 0) := e95.zero
theorem c95 : Tryd.prog.cellsOf 95 = 1 := e95.cellsOf
theorem e96 : ElemZ Tryd.prog 96 (.nilFunc) := .of (by kernel_rfl) (by kernel_rfl)
theorem z96 : zeroOf Tryd.prog 96 = some (.nilFunc) := e96.zero
theorem c96 : Tryd.prog.cellsOf 96 = 1 := e96.cellsOf
theorem e98 : ElemZ Tryd.prog 98 (.nilFunc) := .of (by kernel_rfl) (by kernel_rfl)
theorem z98 : zeroOf Tryd.prog 98 = some (.nilFunc) := e98.zero
theorem c98 : Tryd.prog.cellsOf 98 = 1 := e98.cellsOf
theorem e99 : ElemZ Tryd.prog 99 (.nilFunc) := .of (by kernel_rfl) (by kernel_rfl)
theorem z99 : zeroOf Tryd.prog 99 = some (.nilFunc) := e99.zero
theorem c99 : Tryd.prog.cellsOf 99 = 1 := e99.cellsOf
theorem e100 : ElemZ Tryd.prog 100 (.nilFunc) := .of (by kernel_rfl) (by kernel_rfl)
theorem z100 : zeroOf Tryd.prog 100 = some (.nilFunc) := e100.zero
theorem c100 : Tryd.prog.cellsOf 100 = 1 := e100.cellsOf
theorem e102 : ElemZ Tryd.prog 102 (.nilFunc) := .of (by kernel_rfl) (by kernel_rfl)
theorem z102 : zeroOf Tryd.prog 102 = some (.nilFunc) := e102.zero
theorem c102 : Tryd.prog.cellsOf 102 = 1 := e102.cellsOf
theorem e103 : ElemZ Tryd.prog 103 (.nilFunc) := .of (by kernel_rfl) (by kernel_rfl)
theorem z103 : zeroOf Tryd.prog 103 = some (.nilFunc) := e103.zero
theorem c103 : Tryd.prog.cellsOf 103 = 1 := e103.cellsOf
theorem e104 : ElemZ Tryd.prog 104 (.agg #[.string ⟨#[]⟩, .string ⟨#[]⟩]) := .of (by kernel_rfl) (by kernel_rfl)
theorem z104 : zeroOf Tryd.prog 104 = some (.agg #[.string ⟨#[]⟩, .string ⟨#[]⟩]) := e104.zero
theorem c104 : Tryd.prog.cellsOf 104 = 2 := e104.cellsOf
theorem e105 : ElemZ Tryd.prog 105 (.agg #[.string ⟨#[]⟩, .string ⟨#[]⟩]) := .of (by kernel_rfl) (by kernel_rfl)
theorem z105 : zeroOf Tryd.prog 105 = some (.agg #[.string ⟨#[]⟩, .string ⟨#[]⟩]) := e105.zero
theorem c105 : Tryd.prog.cellsOf 105 = 2 := e105.cellsOf
theorem e106 : ElemZ Tryd.prog 106 (.nilFunc) := .of (by kernel_rfl) (by kernel_rfl)
theorem z106 : zeroOf Tryd.prog 106 = some (.nilFunc) := e106.zero
theorem c106 : Tryd.prog.cellsOf 106 = 1 := e106.cellsOf
theorem e107 : ElemZ Tryd.prog 107 (.nilFunc) := .of (by kernel_rfl) (by kernel_rfl)
theorem z107 : zeroOf Tryd.prog 107 = some (.nilFunc) := e107.zero
theorem c107 : Tryd.prog.cellsOf 107 = 1 := e107.cellsOf
theorem e108 : ElemZ Tryd.prog 108 (.nilFunc) := .of (by kernel_rfl) (by kernel_rfl)
theorem z108 : zeroOf Tryd.prog 108 = some (.nilFunc) := e108.zero
theorem c108 : Tryd.prog.cellsOf 108 = 1 := e108.cellsOf
theorem e109 : ElemZ Tryd.prog 109 (.slice none 0 0) := .of (by kernel_rfl) (by kernel_rfl)
theorem z109 : zeroOf Tryd.prog 109 = some (.slice none 0 0) := e109.zero
theorem c109 : Tryd.prog.cellsOf 109 = 1 := e109.cellsOf
theorem e110 : ElemZ Tryd.prog 110 (.nilFunc) := .of (by kernel_rfl) (by kernel_rfl)
theorem z110 : zeroOf Tryd.prog 110 = some (.nilFunc) := e110.zero
theorem c110 : Tryd.prog.cellsOf 110 = 1 := e110.cellsOf
theorem e111 : ElemZ Tryd.prog 111 (.slice none 0 0) := .of (by kernel_rfl) (by kernel_rfl)
theorem z111 : zeroOf Tryd.prog 111 = some (.slice none 0 0) := e111.zero
theorem c111 : Tryd.prog.cellsOf 111 = 1 := e111.cellsOf
theorem e112 : ElemZ Tryd.prog 112 (.nilFunc) := .of (by kernel_rfl) (by kernel_rfl)
theorem z112 : zeroOf Tryd.prog 112 = some (.nilFunc) := e112.zero
theorem c112 : Tryd.prog.cellsOf 112 = 1 := e112.cellsOf
theorem e113 : ElemZ Tryd.prog 113 (.nilFunc) := .of (by kernel_rfl) (by kernel_rfl)
theorem z113 : zeroOf Tryd.prog 113 = some (.nilFunc) := e113.zero
theorem c113 : Tryd.prog.cellsOf 113 = 1 := e113.cellsOf
theorem e114 : ElemZ Tryd.prog 114 (.nilFunc) := .of (by kernel_rfl) (by kernel_rfl)
theorem z114 : zeroOf Tryd.prog 114 = some (.nilFunc) := e114.zero
theorem c114 : Tryd.prog.cellsOf 114 = 1 := e114.cellsOf
theorem e115 : ElemZ Tryd.prog 115 (.nilFunc) := .of (by kernel_rfl) (by kernel_rfl)
theorem z115 : zeroOf Tryd.prog 115 = some (.nilFunc) := e115.zero
theorem c115 : Tryd.prog.cellsOf 115 = 1 := e115.cellsOf
theorem e116 : ElemZ Tryd.prog 116 (.agg #[.int .i64 0, .int .i64 0, .int .i64 0, .int .i64 0]) := .of (by kernel_rfl) (by kernel_rfl)
theorem z116 : zeroOf Tryd.prog 116 = some (.agg #[.int .i64 0, .int .i64 0, .int .i64 0, .int .i64 0]) := e116.zero
theorem c116 : Tryd.prog.cellsOf 116 = 4 := e116.cellsOf
theorem e117 : ElemZ Tryd.prog 117 (.agg #[.int .i64 0, .int .i64 0, .int .i64 0, .int .i64 0]) := .of (by kernel_rfl) (by kernel_rfl)
theorem z117 : zeroOf Tryd.prog 117 = some (.agg #[.int .i64 0, .int .i64 0, .int .i64 0, .int .i64 0]) := e117.zero
theorem c117 : Tryd.prog.cellsOf 117 = 4 := e117.cellsOf
theorem e118 : ElemZ Tryd.prog 118 (.pointer none) := .of (by kernel_rfl) (by kernel_rfl)
theorem z118 : zeroOf Tryd.prog 118 = some (.pointer none) := e118.zero
theorem c118 : Tryd.prog.cellsOf 118 = 1 := e118.cellsOf
theorem e119 : ElemZ Tryd.prog 119 (.nilFunc) := .of (by kernel_rfl) (by kernel_rfl)
theorem z119 : zeroOf Tryd.prog 119 = some (.nilFunc) := e119.zero
theorem c119 : Tryd.prog.cellsOf 119 = 1 := e119.cellsOf
theorem e120 : ElemZ Tryd.prog 120 (.nilFunc) := .of (by kernel_rfl) (by kernel_rfl)
theorem z120 : zeroOf Tryd.prog 120 = some (.nilFunc) := e120.zero
theorem c120 : Tryd.prog.cellsOf 120 = 1 := e120.cellsOf
theorem e121 : ElemZ Tryd.prog 121 (.slice none 0 0) := .of (by kernel_rfl) (by kernel_rfl)
theorem z121 : zeroOf Tryd.prog 121 = some (.slice none 0 0) := e121.zero
theorem c121 : Tryd.prog.cellsOf 121 = 1 := e121.cellsOf
theorem e122 : ElemZ Tryd.prog 122 (.nilFunc) := .of (by kernel_rfl) (by kernel_rfl)
theorem z122 : zeroOf Tryd.prog 122 = some (.nilFunc) := e122.zero
theorem c122 : Tryd.prog.cellsOf 122 = 1 := e122.cellsOf
theorem e123 : ElemZ Tryd.prog 123 (.nilFunc) := .of (by kernel_rfl) (by kernel_rfl)
theorem z123 : zeroOf Tryd.prog 123 = some (.nilFunc) := e123.zero
theorem c123 : Tryd.prog.cellsOf 123 = 1 := e123.cellsOf
theorem e124 : ElemZ Tryd.prog 124 (.nilFunc) := .of (by kernel_rfl) (by kernel_rfl)
theorem z124 : zeroOf Tryd.prog 124 = some (.nilFunc) := e124.zero
theorem c124 : Tryd.prog.cellsOf 124 = 1 := e124.cellsOf
theorem e125 : ElemZ Tryd.prog 125 (.nilFunc) := .of (by kernel_rfl) (by kernel_rfl)
theorem z125 : zeroOf Tryd.prog 125 = some (.nilFunc) := e125.zero
theorem c125 : Tryd.prog.cellsOf 125 = 1 := e125.cellsOf
theorem e126 : ElemZ Tryd.prog 126 (.nilFunc) := .of (by kernel_rfl) (by kernel_rfl)
theorem z126 : zeroOf Tryd.prog 126 = some (.nilFunc) := e126.zero
theorem c126 : Tryd.prog.cellsOf 126 = 1 := e126.cellsOf
theorem e127 : ElemZ Tryd.prog 127 (.map none) := .of (by kernel_rfl) (by kernel_rfl)
theorem z127 : zeroOf Tryd.prog 127 = some (.map none) := e127.zero
theorem c127 : Tryd.prog.cellsOf 127 = 1 := e127.cellsOf
theorem e128 : ElemZ Tryd.prog 128 (.nilFunc) := .of (by kernel_rfl) (by kernel_rfl)
theorem z128 : zeroOf Tryd.prog 128 = some (.nilFunc) := e128.zero
theorem c128 : Tryd.prog.cellsOf 128 = 1 := e128.cellsOf
theorem e129 : ElemZ Tryd.prog 129 (.nilFunc) := .of (by kernel_rfl) (by kernel_rfl)
theorem z129 : zeroOf Tryd.prog 129 = some (.nilFunc) := e129.zero
theorem c129 : Tryd.prog.cellsOf 129 = 1 := e129.cellsOf
theorem e130 : ElemZ Tryd.prog 130 (.nilFunc) := .of (by kernel_rfl) (by kernel_rfl)
theorem z130 : zeroOf Tryd.prog 130 = some (.nilFunc) := e130.zero
theorem c130 : Tryd.prog.cellsOf 130 = 1 := e130.cellsOf
theorem e131 : ElemZ Tryd.prog 131 (.nilFunc) := .of (by kernel_rfl) (by kernel_rfl)
theorem z131 : zeroOf Tryd.prog 131 = some (.nilFunc) := e131.zero
theorem c131 : Tryd.prog.cellsOf 131 = 1 := e131.cellsOf
theorem e132 : ElemZ Tryd.prog 132 (.nilFunc) := .of (by kernel_rfl) (by kernel_rfl)
theorem z132 : zeroOf Tryd.prog 132 = some (.nilFunc) := e132.zero
theorem c132 : Tryd.prog.cellsOf 132 = 1 := e132.cellsOf
theorem e133 : ElemZ Tryd.prog 133 (.nilFunc) := .of (by kernel_rfl) (by kernel_rfl)
theorem z133 : zeroOf Tryd.prog 133 = some (.nilFunc) := e133.zero
theorem c133 : Tryd.prog.cellsOf 133 = 1 := e133.cellsOf
theorem e134 : ElemZ Tryd.prog 134 (.nilFunc) := .of (by kernel_rfl) (by kernel_rfl)
theorem z134 : zeroOf Tryd.prog 134 = some (.nilFunc) := e134.zero
theorem c134 : Tryd.prog.cellsOf 134 = 1 := e134.cellsOf
theorem e135 : ElemZ Tryd.prog 135 (.nilFunc) := .of (by kernel_rfl) (by kernel_rfl)
theorem z135 : zeroOf Tryd.prog 135 = some (.nilFunc) := e135.zero
theorem c135 : Tryd.prog.cellsOf 135 = 1 := e135.cellsOf
theorem e136 : ElemZ Tryd.prog 136 (.nilFunc) := .of (by kernel_rfl) (by kernel_rfl)
theorem z136 : zeroOf Tryd.prog 136 = some (.nilFunc) := e136.zero
theorem c136 : Tryd.prog.cellsOf 136 = 1 := e136.cellsOf
theorem e137 : ElemZ Tryd.prog 137 (.nilFunc) := .of (by kernel_rfl) (by kernel_rfl)
theorem z137 : zeroOf Tryd.prog 137 = some (.nilFunc) := e137.zero
theorem c137 : Tryd.prog.cellsOf 137 = 1 := e137.cellsOf
theorem e138 : ElemZ Tryd.prog 138 (.nilFunc) := .of (by kernel_rfl) (by kernel_rfl)
theorem z138 : zeroOf Tryd.prog 138 = some (.nilFunc) := e138.zero
theorem c138 : Tryd.prog.cellsOf 138 = 1 := e138.cellsOf
theorem e139 : ElemZ Tryd.prog 139 (.nilFunc) := .of (by kernel_rfl) (by kernel_rfl)
theorem z139 : zeroOf Tryd.prog 139 = some (.nilFunc) := e139.zero
theorem c139 : Tryd.prog.cellsOf 139 = 1 := e139.cellsOf
theorem e140 : ElemZ Tryd.prog 140 (.agg #[.string ⟨#[]⟩, .slice none 0 0, .string ⟨#[]⟩]) := .of (by kernel_rfl) (by kernel_rfl)
theorem z140 : zeroOf Tryd.prog 140 = some (.agg #[.string ⟨#[]⟩, .slice none 0 0, .string ⟨#[]⟩]) := e140.zero
theorem c140 : Tryd.prog.cellsOf 140 = 3 := e140.cellsOf
theorem e141 : ElemZ Tryd.prog 141 (.agg #[.string ⟨#[]⟩, .slice none 0 0, .string ⟨#[]⟩]) := .of (by kernel_rfl) (by kernel_rfl)
theorem z141 : zeroOf Tryd.prog 141 = some (.agg #[.string ⟨#[]⟩, .slice none 0 0, .string ⟨#[]⟩]) := e141.zero
theorem c141 : Tryd.prog.cellsOf 141 = 3 := e141.cellsOf
theorem e142 : ElemZ Tryd.prog 142 (.nilFunc) := .of (by kernel_rfl) (by kernel_rfl)
theorem z142 : zeroOf Tryd.prog 142 = some (.nilFunc) := e142.zero
theorem c142 : Tryd.prog.cellsOf 142 = 1 := e142.cellsOf
theorem e143 : ElemZ Tryd.prog 143 (.map none) := .of (by kernel_rfl) (by kernel_rfl)
theorem z143 : zeroOf Tryd.prog 143 = some (.map none) := e143.zero
theorem c143 : Tryd.prog.cellsOf 143 = 1 := e143.cellsOf
theorem e144 : ElemZ Tryd.prog 144 (.slice none 0 0) := .of (by kernel_rfl) (by kernel_rfl)
theorem z144 : zeroOf Tryd.prog 144 = some (.slice none 0 0) := e144.zero
theorem c144 : Tryd.prog.cellsOf 144 = 1 := e144.cellsOf
theorem e145 : ElemZ Tryd.prog 145 (.nilFunc) := .of (by kernel_rfl) (by kernel_rfl)
theorem z145 : zeroOf Tryd.prog 145 = some (.nilFunc) := e145.zero
theorem c145 : Tryd.prog.cellsOf 145 = 1 := e145.cellsOf
theorem e146 : ElemZ Tryd.prog 146 (.agg #[.string ⟨#[]⟩, .bool false]) := .of (by kernel_rfl) (by kernel_rfl)
theorem z146 : zeroOf Tryd.prog 146 = some (.agg #[.string ⟨#[]⟩, .bool false]) := e146.zero
theorem c146 : Tryd.prog.cellsOf 146 = 2 := e146.cellsOf
theorem e147 : ElemZ Tryd.prog 147 (.agg #[.string ⟨#[]⟩, .bool false]) := .of (by kernel_rfl) (by kernel_rfl)
theorem z147 : zeroOf Tryd.prog 147 = some (.agg #[.string ⟨#[]⟩, .bool false]) := e147.zero
theorem c147 : Tryd.prog.cellsOf 147 = 2 := e147.cellsOf
theorem e148 : ElemZ Tryd.prog 148 (.nilFunc) := .of (by kernel_rfl) (by kernel_rfl)
theorem z148 : zeroOf Tryd.prog 148 = some (.nilFunc) := e148.zero
theorem c148 : Tryd.prog.cellsOf 148 = 1 := e148.cellsOf
theorem e149 : ElemZ Tryd.prog 149 (.map none) := .of (by kernel_rfl) (by kernel_rfl)
theorem z149 : zeroOf Tryd.prog 149 = some (.map none) := e149.zero
theorem c149 : Tryd.prog.cellsOf 149 = 1 := e149.cellsOf
theorem e152 : ElemZ Tryd.prog 152 (.nilFunc) := .of (by kernel_rfl) (by kernel_rfl)
theorem z152 : zeroOf Tryd.prog 152 = some (.nilFunc) := e152.zero
theorem c152 : Tryd.prog.cellsOf 152 = 1 := e152.cellsOf
theorem e153 : ElemZ Tryd.prog 153 (.nilFunc) := .of (by kernel_rfl) (by kernel_rfl)
theorem z153 : zeroOf Tryd.prog 153 = some (.nilFunc) := e153.zero
theorem c153 : Tryd.prog.cellsOf 153 = 1 := e153.cellsOf
theorem e154 : ElemZ Tryd.prog 154 (.nilFunc) := .of (by kernel_rfl) (by kernel_rfl)
theorem z154 : zeroOf Tryd.prog 154 = some (.nilFunc) := e154.zero
theorem c154 : Tryd.prog.cellsOf 154 = 1 := e154.cellsOf
theorem e155 : ElemZ Tryd.prog 155 (.nilFunc) := .of (by kernel_rfl) (by kernel_rfl)
theorem z155 : zeroOf Tryd.prog 155 = some (.nilFunc) := e155.zero
theorem c155 : Tryd.prog.cellsOf 155 = 1 := e155.cellsOf
theorem e156 : ElemZ Tryd.prog 156 (.nilFunc) := .of (by kernel_rfl) (by kernel_rfl)
theorem z156 : zeroOf Tryd.prog 156 = some (.nilFunc) := e156.zero
theorem c156 : Tryd.prog.cellsOf 156 = 1 := e156.cellsOf
theorem e157 : ElemZ Tryd.prog 157 (.nilFunc) := .of (by kernel_rfl) (by kernel_rfl)
theorem z157 : zeroOf Tryd.prog 157 = some (.nilFunc) := e157.zero
theorem c157 : Tryd.prog.cellsOf 157 = 1 := e157.cellsOf
theorem e158 : ElemZ Tryd.prog 158 (.nilFunc) := .of (by kernel_rfl) (by kernel_rfl)
theorem z158 : zeroOf Tryd.prog 158 = some (.nilFunc) := e158.zero
theorem c158 : Tryd.prog.cellsOf 158 = 1 := e158.cellsOf
theorem e159 : ElemZ Tryd.prog 159 (.nilFunc) := .of (by kernel_rfl) (by kernel_rfl)
theorem z159 : zeroOf Tryd.prog 159 = some (.nilFunc) := e159.zero
theorem c159 : Tryd.prog.cellsOf 159 = 1 := e159.cellsOf
theorem e160 : ElemZ Tryd.prog 160 (.nilFunc) := .of (by kernel_rfl) (by kernel_rfl)
theorem z160 : zeroOf Tryd.prog 160 = some (.nilFunc) := e160.zero
theorem c160 : Tryd.prog.cellsOf 160 = 1 := e160.cellsOf
theorem e161 : ElemZ Tryd.prog 161 (.pointer none) := .of (by kernel_rfl) (by kernel_rfl)
theorem z161 : zeroOf Tryd.prog 161 = some (.pointer none) := e161.zero
theorem c161 : Tryd.prog.cellsOf 161 = 1 := e161.cellsOf
theorem e162 : ElemZ Tryd.prog 162 (.agg #[.pointer none, .slice none 0 0]) := .of (by kernel_rfl) (by kernel_rfl)
theorem z162 : zeroOf Tryd.prog 162 = some (.agg #[.pointer none, .slice none 0 0]) := e162.zero
theorem c162 : Tryd.prog.cellsOf 162 = 2 := e162.cellsOf
theorem e163 : ElemZ Tryd.prog 163 (.agg #[.pointer none, .slice none 0 0]) := .of (by kernel_rfl) (by kernel_rfl)
theorem z163 : zeroOf Tryd.prog 163 = some (.agg #[.pointer none, .slice none 0 0]) := e163.zero
theorem c163 : Tryd.prog.cellsOf 163 = 2 := e163.cellsOf
theorem e164 : ElemZ Tryd.prog 164 (.nilIface) := .of (by kernel_rfl) (by kernel_rfl)
theorem z164 : zeroOf Tryd.prog 164 = some (.nilIface) := e164.zero
theorem c164 : Tryd.prog.cellsOf 164 = 1 := e164.cellsOf
theorem e165 : ElemZ Tryd.prog 165 (.nilIface) := .of (by kernel_rfl) (by kernel_rfl)
theorem z165 : zeroOf Tryd.prog 165 = some (.nilIface) := e165.zero
theorem c165 : Tryd.prog.cellsOf 165 = 1 := e165.cellsOf
theorem e167 : ElemZ Tryd.prog 167 (.nilFunc) := .of (by kernel_rfl) (by kernel_rfl)
theorem z167 : zeroOf Tryd.prog 167 = some (.nilFunc) := e167.zero
theorem c167 : Tryd.prog.cellsOf 167 = 1 := e167.cellsOf
theorem e168 : ElemZ Tryd.prog 168 (.nilFunc) := .of (by kernel_rfl) (by kernel_rfl)
theorem z168 : zeroOf Tryd.prog 168 = some (.nilFunc) := e168.zero
theorem c168 : Tryd.prog.cellsOf 168 = 1 := e168.cellsOf
theorem e169 : ElemZ Tryd.prog 169 (.nilFunc) := .of (by kernel_rfl) (by kernel_rfl)
theorem z169 : zeroOf Tryd.prog 169 = some (.nilFunc) := e169.zero
theorem c169 : Tryd.prog.cellsOf 169 = 1 := e169.cellsOf
theorem e171 : ElemZ Tryd.prog 171 (.nilFunc) := .of (by kernel_rfl) (by kernel_rfl)
theorem z171 : zeroOf Tryd.prog 171 = some (.nilFunc) := e171.zero
theorem c171 : Tryd.prog.cellsOf 171 = 1 := e171.cellsOf
theorem e173 : ElemZ Tryd.prog 173 (.nilFunc) := .of (by kernel_rfl) (by kernel_rfl)
theorem z173 : zeroOf Tryd.prog 173 = some (.nilFunc) := e173.zero
theorem c173 : Tryd.prog.cellsOf 173 = 1 := e173.cellsOf
theorem e174 : ElemZ Tryd.prog 174 (.nilFunc) := .of (by kernel_rfl) (by kernel_rfl)
theorem z174 : zeroOf Tryd.prog 174 = some (.nilFunc) := e174.zero
theorem c174 : Tryd.prog.cellsOf 174 = 1 := e174.cellsOf
theorem e175 : ElemZ Tryd.prog 175 (.nilFunc) := .of (by kernel_rfl) (by kernel_rfl)
theorem z175 : zeroOf Tryd.prog 175 = some (.nilFunc) := e175.zero
theorem c175 : Tryd.prog.cellsOf 175 = 1 := e175.cellsOf
theorem e176 : ElemZ Tryd.prog 176 (.nilFunc) := .of (by kernel_rfl) (by kernel_rfl)
theorem z176 : zeroOf Tryd.prog 176 = some (.nilFunc) := e176.zero
theorem c176 : Tryd.prog.cellsOf 176 = 1 := e176.cellsOf
theorem e177 : ElemZ Tryd.prog 177 (.nilFunc) := .of (by kernel_rfl) (by kernel_rfl)
theorem z177 : zeroOf Tryd.prog 177 = some (.nilFunc) := e177.zero
theorem c177 : Tryd.prog.cellsOf 177 = 1 := e177.cellsOf
theorem e178 : ElemZ Tryd.prog 178 (.nilFunc) := .of (by kernel_rfl) (by kernel_rfl)
theorem z178 : zeroOf Tryd.prog 178 = some (.nilFunc) := e178.zero
theorem c178 : Tryd.prog.cellsOf 178 = 1 := e178.cellsOf
theorem e179 : ElemZ Tryd.prog 179 (.nilFunc) := .of (by kernel_rfl) (by kernel_rfl)
theorem z179 : zeroOf Tryd.prog 179 = some (.nilFunc) := e179.zero
theorem c179 : Tryd.prog.cellsOf 179 = 1 := e179.cellsOf
theorem e180 : ElemZ Tryd.prog 180 (.nilFunc) := .of (by kernel_rfl) (by kernel_rfl)
theorem z180 : zeroOf Tryd.prog 180 = some (.nilFunc) := e180.zero
theorem c180 : Tryd.prog.cellsOf 180 = 1 := e180.cellsOf
theorem e181 : ElemZ Tryd.prog 181 (.nilFunc) := .of (by kernel_rfl) (by kernel_rfl)
theorem z181 : zeroOf Tryd.prog 181 = some (.nilFunc) := e181.zero
theorem c181 : Tryd.prog.cellsOf 181 = 1 := e181.cellsOf
theorem e182 : ElemZ Tryd.prog 182 (.nilFunc) := .of (by kernel_rfl) (by kernel_rfl)
theorem z182 : zeroOf Tryd.prog 182 = some (.nilFunc) := e182.zero
theorem c182 : Tryd.prog.cellsOf 182 = 1 := e182.cellsOf
theorem e183 : ElemZ Tryd.prog 183 (.nilFunc) := .of (by kernel_rfl) (by kernel_rfl)
theorem z183 : zeroOf Tryd.prog 183 = some (.nilFunc) := e183.zero
theorem c183 : Tryd.prog.cellsOf 183 = 1 := e183.cellsOf
theorem e184 : ElemZ Tryd.prog 184 (.agg #[.int .i64 0, .int .i64 0, .slice none 0 0]) := .of (by kernel_rfl) (by kernel_rfl)
theorem z184 : zeroOf Tryd.prog 184 = some (.agg #[.int .i64 0, .int .i64 0, .slice none 0 0]) := e184.zero
theorem c184 : Tryd.prog.cellsOf 184 = 3 := e184.cellsOf
theorem e185 : ElemZ Tryd.prog 185 (.agg #[.int .i64 0, .int .i64 0, .slice none 0 0]) := .of (by kernel_rfl) (by kernel_rfl)
theorem z185 : zeroOf Tryd.prog 185 = some (.agg #[.int .i64 0, .int .i64 0, .slice none 0 0]) := e185.zero
theorem c185 : Tryd.prog.cellsOf 185 = 3 := e185.cellsOf
theorem e186 : ElemZ Tryd.prog 186 (.nilFunc) := .of (by kernel_rfl) (by kernel_rfl)
theorem z186 : zeroOf Tryd.prog 186 = some (.nilFunc) := e186.zero
theorem c186 : Tryd.prog.cellsOf 186 = 1 := e186.cellsOf
theorem e187 : ElemZ Tryd.prog 187 (.nilFunc) := .of (by kernel_rfl) (by kernel_rfl)
theorem z187 : zeroOf Tryd.prog 187 = some (.nilFunc) := e187.zero
theorem c187 : Tryd.prog.cellsOf 187 = 1 := e187.cellsOf
theorem e188 : ElemZ Tryd.prog 188 (.nilFunc) := .of (by kernel_rfl) (by kernel_rfl)
theorem z188 : zeroOf Tryd.prog 188 = some (.nilFunc) := e188.zero
theorem c188 : Tryd.prog.cellsOf 188 = 1 := e188.cellsOf
theorem e189 : ElemZ Tryd.prog 189 (.nilFunc) := .of (by kernel_rfl) (by kernel_rfl)
theorem z189 : zeroOf Tryd.prog 189 = some (.nilFunc) := e189.zero
theorem c189 : Tryd.prog.cellsOf 189 = 1 := e189.cellsOf
theorem e190 : ElemZ Tryd.prog 190 (.nilFunc) := .of (by kernel_rfl) (by kernel_rfl)
theorem z190 : zeroOf Tryd.prog 190 = some (.nilFunc) := e190.zero
theorem c190 : Tryd.prog.cellsOf 190 = 1 := e190.cellsOf
theorem e191 : ElemZ Tryd.prog 191 (.nilFunc) := .of (by kernel_rfl) (by kernel_rfl)
theorem z191 : zeroOf Tryd.prog 191 = some (.nilFunc) := e191.zero
theorem c191 : Tryd.prog.cellsOf 191 = 1 := e191.cellsOf
theorem e195 : ElemZ Tryd.prog 195 (.nilFunc) := .of (by kernel_rfl) (by kernel_rfl)
theorem z195 : zeroOf Tryd.prog 195 = some (.nilFunc) := e195.zero
theorem c195 : Tryd.prog.cellsOf 195 = 1 := e195.cellsOf
theorem e196 : ElemZ Tryd.prog 196 (.nilFunc) := .of (by kernel_rfl) (by kernel_rfl)
theorem z196 : zeroOf Tryd.prog 196 = some (.nilFunc) := e196.zero
theorem c196 : Tryd.prog.cellsOf 196 = 1 := e196.cellsOf
theorem e197 : ElemZ Tryd.prog 197 (.nilFunc) := .of (by kernel_rfl) (by kernel_rfl)
theorem z197 : zeroOf Tryd.prog 197 = some (.nilFunc) := e197.zero
theorem c197 : Tryd.prog.cellsOf 197 = 1 := e197.cellsOf
theorem e198 : ElemZ Tryd.prog 198 (.pointer none) := .of (by kernel_rfl) (by kernel_rfl)
theorem z198 : zeroOf Tryd.prog 198 = some (.pointer none) := e198.zero
theorem c198 : Tryd.prog.cellsOf 198 = 1 := e198.cellsOf
theorem e199 : ElemZ Tryd.prog 199 (.pointer none) := .of (by kernel_rfl) (by kernel_rfl)
theorem z199 : zeroOf Tryd.prog 199 = some (.pointer none) := e199.zero
theorem c199 : Tryd.prog.cellsOf 199 = 1 := e199.cellsOf
theorem e200 : ElemZ Tryd.prog 200 (.nilFunc) := .of (by kernel_rfl) (by kernel_rfl)
theorem z200 : zeroOf Tryd.prog 200 = some (.nilFunc) := e200.zero
theorem c200 : Tryd.prog.cellsOf 200 = 1 := e200.cellsOf
theorem e201 : ElemZ Tryd.prog 201 (.nilFunc) := .of (by kernel_rfl) (by kernel_rfl)
theorem z201 : zeroOf Tryd.prog 201 = some (.nilFunc) := e201.zero
theorem c201 : Tryd.prog.cellsOf 201 = 1 := e201.cellsOf
theorem e202 : ElemZ Tryd.prog 202 (.nilFunc) := .of (by kernel_rfl) (by kernel_rfl)
theorem z202 : zeroOf Tryd.prog 202 = some (.nilFunc) := e202.zero
theorem c202 : Tryd.prog.cellsOf 202 = 1 := e202.cellsOf
theorem e203 : ElemZ Tryd.prog 203 (.nilFunc) := .of (by kernel_rfl) (by kernel_rfl)
theorem z203 : zeroOf Tryd.prog 203 = some (.nilFunc) := e203.zero
theorem c203 : Tryd.prog.cellsOf 203 = 1 := e203.cellsOf
theorem e205 : ElemZ Tryd.prog 205 (.nilFunc) := .of (by kernel_rfl) (by kernel_rfl)
theorem z205 : zeroOf Tryd.prog 205 = some (.nilFunc) := e205.zero
theorem c205 : Tryd.prog.cellsOf 205 = 1 := e205.cellsOf
theorem e206 : ElemZ Tryd.prog 206 (.nilFunc) := .of (by kernel_rfl) (by kernel_rfl)
theorem z206 : zeroOf Tryd.prog 206 = some (.nilFunc) := e206.zero
theorem c206 : Tryd.prog.cellsOf 206 = 1 := e206.cellsOf
theorem e207 : ElemZ Tryd.prog 207 (.int .u64 0) := .of (by kernel_rfl) (by kernel_rfl)
theorem z207 : zeroOf Tryd.prog 207 = some (.int .u64 0) := e207.zero
theorem c207 : Tryd.prog.cellsOf 207 = 1 := e207.cellsOf
theorem e209 : ElemZ Tryd.prog 209 (.nilFunc) := .of (by kernel_rfl) (by kernel_rfl)
theorem z209 : zeroOf Tryd.prog 209 = some (.nilFunc) := e209.zero
theorem c209 : Tryd.prog.cellsOf 209 = 1 := e209.cellsOf
theorem e210 : ElemZ Tryd.prog 210 (.nilFunc) := .of (by kernel_rfl) (by kernel_rfl)
theorem z210 : zeroOf Tryd.prog 210 = some (.nilFunc) := e210.zero
theorem c210 : Tryd.prog.cellsOf 210 = 1 := e210.cellsOf
theorem e211 : ElemZ Tryd.prog 211 (.nilFunc) := .of (by kernel_rfl) (by kernel_rfl)
theorem z211 : zeroOf Tryd.prog 211 = some (.nilFunc) := e211.zero
theorem c211 : Tryd.prog.cellsOf 211 = 1 := e211.cellsOf
theorem e212 : ElemZ Tryd.prog 212 (.pointer none) := .of (by kernel_rfl) (by kernel_rfl)
theorem z212 : zeroOf Tryd.prog 212 = some (.pointer none) := e212.zero
theorem c212 : Tryd.prog.cellsOf 212 = 1 := e212.cellsOf
theorem e213 : ElemZ Tryd.prog 213 (.nilFunc) := .of (by kernel_rfl) (by kernel_rfl)
theorem z213 : zeroOf Tryd.prog 213 = some (.nilFunc) := e213.zero
theorem c213 : Tryd.prog.cellsOf 213 = 1 := e213.cellsOf
theorem e214 : ElemZ Tryd.prog 214 (.nilFunc) := .of (by kernel_rfl) (by kernel_rfl)
theorem z214 : zeroOf Tryd.prog 214 = some (.nilFunc) := e214.zero
theorem c214 : Tryd.prog.cellsOf 214 = 1 := e214.cellsOf
theorem e215 : ElemZ Tryd.prog 215 (.nilFunc) := .of (by kernel_rfl) (by kernel_rfl)
theorem z215 : zeroOf Tryd.prog 215 = some (.nilFunc) := e215.zero
theorem c215 : Tryd.prog.cellsOf 215 = 1 := e215.cellsOf
theorem e216 : ElemZ Tryd.prog 216 (.nilFunc) := .of (by kernel_rfl) (by kernel_rfl)
theorem z216 : zeroOf Tryd.prog 216 = some (.nilFunc) := e216.zero
theorem c216 : Tryd.prog.cellsOf 216 = 1 := e216.cellsOf
theorem e217 : ElemZ Tryd.prog 217 (.agg #[.int .u8 0, .int .u8 0, .int .u8 0, .int .u8 0, .int .u8 0, .int .u8 0, .int .u8 0, .int .u8 0, .int .u8 0, .int .u8 0, .int .u8 0, .int .u8 0, .int .u8 0, .int .u8 0, .int .u8 0, .int .u8 0, .int .u8 0, .int .u8 0, .int .u8 0, .int .u8 0, .int .u8 0, .int .u8 0, .int .u8 0, .int .u8 0]) := .of (by kernel_rfl) (by kernel_rfl)
theorem z217 : zeroOf Tryd.prog 217 = some (.agg #[.int .u8 0, .int .u8 0, .int .u8 0, .int .u8 0, .int .u8 0, .int .u8 0, .int .u8 0, .int .u8 0, .int .u8 0, .int .u8 0, .int .u8 0, .int .u8 0, .int .u8 0, .int .u8 0, .int .u8 0, .int .u8 0, .int .u8 0, .int .u8 0, .int .u8 0, .int .u8 0, .int .u8 0, .int .u8 0, .int .u8 0, .int .u8 0]) := e217.zero
theorem c217 : Tryd.prog.cellsOf 217 = 24 := e217.cellsOf
theorem e218 : ElemZ Tryd.prog 218 (.int .u64 0) := .of (by kernel_rfl) (by kernel_rfl)
theorem z218 : zeroOf Tryd.prog 218 = some (.int .u64 0) := e218.zero
theorem c218 : Tryd.prog.cellsOf 218 = 1 := e218.cellsOf
theorem e219 : ElemZ Tryd.prog 219 (.nilFunc) := .of (by kernel_rfl) (by kernel_rfl)
theorem z219 : zeroOf Tryd.prog 219 = some (.nilFunc) := e219.zero
theorem c219 : Tryd.prog.cellsOf 219 = 1 := e219.cellsOf
theorem e220 : ElemZ Tryd.prog 220 (.nilFunc) := .of (by kernel_rfl) (by kernel_rfl)
theorem z220 : zeroOf Tryd.prog 220 = some (.nilFunc) := e220.zero
theorem c220 : Tryd.prog.cellsOf 220 = 1 := e220.cellsOf
theorem e222 : ElemZ Tryd.prog 222 (.nilFunc) := .of (by kernel_rfl) (by kernel_rfl)
theorem z222 : zeroOf Tryd.prog 222 = some (.nilFunc) := e222.zero
theorem c222 : Tryd.prog.cellsOf 222 = 1 := e222.cellsOf
theorem e223 : ElemZ Tryd.prog 223 (.nilFunc) := .of (by kernel_rfl) (by kernel_rfl)
theorem z223 : zeroOf Tryd.prog 223 = some (.nilFunc) := e223.zero
theorem c223 : Tryd.prog.cellsOf 223 = 1 := e223.cellsOf
theorem e224 : ElemZ Tryd.prog 224 (.nilFunc) := .of (by kernel_rfl) (by kernel_rfl)
theorem z224 : zeroOf Tryd.prog 224 = some (.nilFunc) := e224.zero
theorem c224 : Tryd.prog.cellsOf 224 = 1 := e224.cellsOf
theorem e225 : ElemZ Tryd.prog 225 (.int .u32 0) := .of (by kernel_rfl) (by kernel_rfl)
theorem z225 : zeroOf Tryd.prog 225 = some (.int .u32 0) := e225.zero
theorem c225 : Tryd.prog.cellsOf 225 = 1 := e225.cellsOf
theorem e227 : ElemZ Tryd.prog 227 (.nilFunc) := .of (by kernel_rfl) (by kernel_rfl)
theorem z227 : zeroOf Tryd.prog 227 = some (.nilFunc) := e227.zero
theorem c227 : Tryd.prog.cellsOf 227 = 1 := e227.cellsOf
theorem e229 : ElemZ Tryd.prog 229 (.agg #[.int .u8 0, .int .u8 0]) := .of (by kernel_rfl) (by kernel_rfl)
theorem z229 : zeroOf Tryd.prog 229 = some (.agg #[.int .u8 0, .int .u8 0]) := e229.zero
theorem c229 : Tryd.prog.cellsOf 229 = 2 := e229.cellsOf
theorem e230 : ElemZ Tryd.prog 230 (.agg #[.int .u8 0, .int .u8 0]) := .of (by kernel_rfl) (by kernel_rfl)
theorem z230 : zeroOf Tryd.prog 230 = some (.agg #[.int .u8 0, .int .u8 0]) := e230.zero
theorem c230 : Tryd.prog.cellsOf 230 = 2 := e230.cellsOf
theorem e231 : ElemZ Tryd.prog 231 (.agg #[.int .u8 0, .int .u8 0, .int .u8 0, .int .u8 0, .int .u8 0, .int .u8 0, .int .u8 0, .int .u8 0, .int .u8 0, .int .u8 0, .int .u8 0, .int .u8 0, .int .u8 0, .int .u8 0, .int .u8 0, .int .u8 0, .int .u8 0, .int .u8 0, .int .u8 0, .int .u8 0, .int .u8 0, .int .u8 0, .int .u8 0, .int .u8 0, .int .u8 0, .int .u8 0, .int .u8 0, .int .u8 0, .int .u8 0, .int .u8 0, .int .u8 0, .int .u8 0]) := .of (by kernel_rfl) (by kernel_rfl)
theorem z231 : zeroOf Tryd.prog 231 = some (.agg #[.int .u8 0, .int .u8 0, .int .u8 0, .int .u8 0, .int .u8 0, .int .u8 0, .int .u8 0, .int .u8 0, .int .u8 0, .int .u8 0, .int .u8 0, .int .u8 0, .int .u8 0, .int .u8 0, .int .u8 0, .int .u8 0, .int .u8 0, .int .u8 0, .int .u8 0, .int .u8 0, .int .u8 0, .int .u8 0, .int .u8 0, .int .u8 0, .int .u8 0, .int .u8 0, .int .u8 0, .int .u8 0, .int .u8 0, .int .u8 0, .int .u8 0, .int .u8 0]) := e231.zero
theorem c231 : Tryd.prog.cellsOf 231 = 32 := e231.cellsOf
theorem e232 : ElemZ Tryd.prog 232 (.agg #[.int .u64 0, .int .u64 0, .int .u64 0, .int .u64 0, .int .u64 0, .int .u64 0, .int .u64 0, .int .u64 0, .int .u64 0, .int .u64 0, .int .u64 0, .int .u64 0, .int .u64 0, .int .u64 0, .int .u64 0, .int .u64 0, .int .u64 0, .int .u64 0, .int .u64 0, .int .u64 0]) := .of (by kernel_rfl) (by kernel_rfl)
theorem z232 : zeroOf Tryd.prog 232 = some (.agg #[.int .u64 0, .int .u64 0, .int .u64 0, .int .u64 0, .int .u64 0, .int .u64 0, .int .u64 0, .int .u64 0, .int .u64 0, .int .u64 0, .int .u64 0, .int .u64 0, .int .u64 0, .int .u64 0, .int .u64 0, .int .u64 0, .int .u64 0, .int .u64 0, .int .u64 0, .int .u64 0]) := e232.zero
theorem c232 : Tryd.prog.cellsOf 232 = 20 := e232.cellsOf
theorem e234 : ElemZ Tryd.prog 234 (.nilFunc) := .of (by kernel_rfl) (by kernel_rfl)
theorem z234 : zeroOf Tryd.prog 234 = some (.nilFunc) := e234.zero
theorem c234 : Tryd.prog.cellsOf 234 = 1 := e234.cellsOf
theorem e235 : ElemZ Tryd.prog 235 (.nilFunc) := .of (by kernel_rfl) (by kernel_rfl)
theorem z235 : zeroOf Tryd.prog 235 = some (.nilFunc) := e235.zero
theorem c235 : Tryd.prog.cellsOf 235 = 1 := e235.cellsOf
theorem e236 : ElemZ Tryd.prog 236 (.agg #[.int .u8 0, .int .u8 0, .int .u8 0, .int .u8 0, .int .u8 0, .int .u8 0, .int .u8 0, .int .u8 0, .int .u8 0, .int .u8 0, .int .u8 0, .int .u8 0, .int .u8 0, .int .u8 0, .int .u8 0, .int .u8 0, .int .u8 0, .int .u8 0, .int .u8 0, .int .u8 0, .int .u8 0, .int .u8 0, .int .u8 0, .int .u8 0, .int .u8 0, .int .u8 0, .int .u8 0, .int .u8 0, .int .u8 0, .int .u8 0, .int .u8 0, .int .u8 0]) := .of (by kernel_rfl) (by kernel_rfl)
theorem z236 : zeroOf Tryd.prog 236 = some (.agg #[.int .u8 0, .int .u8 0, .int .u8 0, .int .u8 0, .int .u8 0, .int .u8 0, .int .u8 0, .int .u8 0, .int .u8 0, .int .u8 0, .int .u8 0, .int .u8 0, .int .u8 0, .int .u8 0, .int .u8 0, .int .u8 0, .int .u8 0, .int .u8 0, .int .u8 0, .int .u8 0, .int .u8 0, .int .u8 0, .int .u8 0, .int .u8 0, .int .u8 0, .int .u8 0, .int .u8 0, .int .u8 0, .int .u8 0, .int .u8 0, .int .u8 0, .int .u8 0]) := e236.zero
theorem c236 : Tryd.prog.cellsOf 236 = 32 := e236.cellsOf
theorem e238 : ElemZ Tryd.prog 238 (.agg #[.pointer none, .pointer none, .pointer none, .string ⟨#[]⟩]) := .of (by kernel_rfl) (by kernel_rfl)
theorem z238 : zeroOf Tryd.prog 238 = some (.agg #[.pointer none, .pointer none, .pointer none, .string ⟨#[]⟩]) := e238.zero
theorem c238 : Tryd.prog.cellsOf 238 = 4 := e238.cellsOf
theorem e239 : ElemZ Tryd.prog 239 (.agg #[.pointer none, .pointer none, .pointer none, .string ⟨#[]⟩]) := .of (by kernel_rfl) (by kernel_rfl)
theorem z239 : zeroOf Tryd.prog 239 = some (.agg #[.pointer none, .pointer none, .pointer none, .string ⟨#[]⟩]) := e239.zero
theorem c239 : Tryd.prog.cellsOf 239 = 4 := e239.cellsOf
theorem e243 : ElemZ Tryd.prog 243 (.nilFunc) := .of (by kernel_rfl) (by kernel_rfl)
theorem z243 : zeroOf Tryd.prog 243 = some (.nilFunc) := e243.zero
theorem c243 : Tryd.prog.cellsOf 243 = 1 := e243.cellsOf
theorem e244 : ElemZ Tryd.prog 244 (.int .u8 0) := .of (by kernel_rfl) (by kernel_rfl)
theorem z244 : zeroOf Tryd.prog 244 = some (.int .u8 0) := e244.zero
theorem c244 : Tryd.prog.cellsOf 244 = 1 := e244.cellsOf
theorem e245 : ElemZ Tryd.prog 245 (.int .u8 0) := .of (by kernel_rfl) (by kernel_rfl)
theorem z245 : zeroOf Tryd.prog 245 = some (.int .u8 0) := e245.zero
theorem c245 : Tryd.prog.cellsOf 245 = 1 := e245.cellsOf
theorem e246 : ElemZ Tryd.prog 246 (.nilFunc) := .of (by kernel_rfl) (by kernel_rfl)
theorem z246 : zeroOf Tryd.prog 246 = some (.nilFunc) := e246.zero
theorem c246 : Tryd.prog.cellsOf 246 = 1 := e246.cellsOf
theorem e247 : ElemZ Tryd.prog 247 (.int .i32 0) := .of (by kernel_rfl) (by kernel_rfl)
theorem z247 : zeroOf Tryd.prog 247 = some (.int .i32 0) := e247.zero
theorem c247 : Tryd.prog.cellsOf 247 = 1 := e247.cellsOf
theorem e248 : ElemZ Tryd.prog 248 (.int .i32 0) := .of (by kernel_rfl) (by kernel_rfl)
theorem z248 : zeroOf Tryd.prog 248 = some (.int .i32 0) := e248.zero
theorem c248 : Tryd.prog.cellsOf 248 = 1 := e248.cellsOf
theorem e249 : ElemZ Tryd.prog 249 (.agg #[.int .u64 0, .int .u64 0, .int .u32 0, .int .u8 0, .int .u8 0, .int .u8 0, .int .u8 0, .nilFunc, .pointer none, .int .i32 0, .int .i32 0]) := .of (by kernel_rfl) (by kernel_rfl)
theorem z249 : zeroOf Tryd.prog 249 = some (.agg #[.int .u64 0, .int .u64 0, .int .u32 0, .int .u8 0, .int .u8 0, .int .u8 0, .int .u8 0, .nilFunc, .pointer none, .int .i32 0, .int .i32 0]) := e249.zero
theorem c249 : Tryd.prog.cellsOf 249 = 11 := e249.cellsOf
theorem e250 : ElemZ Tryd.prog 250 (.agg #[.int .u64 0, .int .u64 0, .int .u32 0, .int .u8 0, .int .u8 0, .int .u8 0, .int .u8 0, .nilFunc, .pointer none, .int .i32 0, .int .i32 0]) := .of (by kernel_rfl) (by kernel_rfl)
theorem z250 : zeroOf Tryd.prog 250 = some (.agg #[.int .u64 0, .int .u64 0, .int .u32 0, .int .u8 0, .int .u8 0, .int .u8 0, .int .u8 0, .nilFunc, .pointer none, .int .i32 0, .int .i32 0]) := e250.zero
theorem c250 : Tryd.prog.cellsOf 250 = 11 := e250.cellsOf
theorem e251 : ElemZ Tryd.prog 251 (.nilFunc) := .of (by kernel_rfl) (by kernel_rfl)
theorem z251 : zeroOf Tryd.prog 251 = some (.nilFunc) := e251.zero
theorem c251 : Tryd.prog.cellsOf 251 = 1 := e251.cellsOf
theorem f7 : fieldsOkT Tryd.prog 7 := by
  intro d hd; rw [Tryd.underlying7] at hd; cases hd
  intro f hf; simp only [List.mem_cons, List.not_mem_nil, or_false] at hf
  rcases hf with rfl | rfl | rfl | rfl
  · obtain ⟨i, h, _⟩ := e2.ex; exact ⟨i, h⟩
  · obtain ⟨i, h, _⟩ := e3.ex; exact ⟨i, h⟩
  · obtain ⟨i, h, _⟩ := e4.ex; exact ⟨i, h⟩
  · obtain ⟨i, h, _⟩ := e6.ex; exact ⟨i, h⟩
theorem f8 : fieldsOkT Tryd.prog 8 := by
  intro d hd; rw [Tryd.underlying8] at hd; cases hd
  intro f hf; simp only [List.mem_cons, List.not_mem_nil, or_false] at hf
  rcases hf with rfl | rfl | rfl | rfl
  · obtain ⟨i, h, _⟩ := e2.ex; exact ⟨i, h⟩
  · obtain ⟨i, h, _⟩ := e3.ex; exact ⟨i, h⟩
  · obtain ⟨i, h, _⟩ := e4.ex; exact ⟨i, h⟩
  · obtain ⟨i, h, _⟩ := e6.ex; exact ⟨i, h⟩
theorem f13 : fieldsOkT Tryd.prog 13 := by
  intro d hd; rw [Tryd.underlying13] at hd; cases hd
  intro f hf; simp only [List.mem_cons, List.not_mem_nil, or_false] at hf
  rcases hf with rfl | rfl
  · obtain ⟨i, h, _⟩ := e9.ex; exact ⟨i, h⟩
  · obtain ⟨i, h, _⟩ := e12.ex; exact ⟨i, h⟩
theorem f14 : fieldsOkT Tryd.prog 14 := by
  intro d hd; rw [Tryd.underlying14] at hd; cases hd
  intro f hf; simp only [List.mem_cons, List.not_mem_nil, or_false] at hf
  rcases hf with rfl | rfl
  · obtain ⟨i, h, _⟩ := e9.ex; exact ⟨i, h⟩
  · obtain ⟨i, h, _⟩ := e12.ex; exact ⟨i, h⟩
theorem f18 : fieldsOkT Tryd.prog 18 := by
  intro d hd; rw [Tryd.underlying18] at hd; cases hd
  intro f hf; simp only [List.mem_cons, List.not_mem_nil, or_false] at hf
  rcases hf with rfl
  · obtain ⟨i, h, _⟩ := e17.ex; exact ⟨i, h⟩
theorem f19 : fieldsOkT Tryd.prog 19 := by
  intro d hd; rw [Tryd.underlying19] at hd; cases hd
  intro f hf; simp only [List.mem_cons, List.not_mem_nil, or_false] at hf
  rcases hf with rfl
  · obtain ⟨i, h, _⟩ := e17.ex; exact ⟨i, h⟩
theorem f26 : fieldsOkT Tryd.prog 26 := by
  intro d hd; rw [Tryd.underlying26] at hd; cases hd
  intro f hf; simp only [List.mem_cons, List.not_mem_nil, or_false] at hf
  rcases hf with rfl | rfl | rfl
  · obtain ⟨i, h, _⟩ := e3.ex; exact ⟨i, h⟩
  · obtain ⟨i, h, _⟩ := e3.ex; exact ⟨i, h⟩
  · obtain ⟨i, h, _⟩ := e25.ex; exact ⟨i, h⟩
theorem f27 : fieldsOkT Tryd.prog 27 := by
  intro d hd; rw [Tryd.underlying27] at hd; cases hd
  intro f hf; simp only [List.mem_cons, List.not_mem_nil, or_false] at hf
  rcases hf with rfl | rfl | rfl
  · obtain ⟨i, h, _⟩ := e3.ex; exact ⟨i, h⟩
  · obtain ⟨i, h, _⟩ := e3.ex; exact ⟨i, h⟩
  · obtain ⟨i, h, _⟩ := e25.ex; exact ⟨i, h⟩
theorem f29 : fieldsOkT Tryd.prog 29 := by
  intro d hd; rw [Tryd.underlying29] at hd; cases hd
  intro f hf; simp only [List.mem_cons, List.not_mem_nil, or_false] at hf
  rcases hf with rfl | rfl | rfl
  · obtain ⟨i, h, _⟩ := e27.ex; exact ⟨i, h⟩
  · obtain ⟨i, h, _⟩ := e28.ex; exact ⟨i, h⟩
  · obtain ⟨i, h, _⟩ := e9.ex; exact ⟨i, h⟩
theorem f30 : fieldsOkT Tryd.prog 30 := by
  intro d hd; rw [Tryd.underlying30] at hd; cases hd
  intro f hf; simp only [List.mem_cons, List.not_mem_nil, or_false] at hf
  rcases hf with rfl | rfl | rfl
  · obtain ⟨i, h, _⟩ := e27.ex; exact ⟨i, h⟩
  · obtain ⟨i, h, _⟩ := e28.ex; exact ⟨i, h⟩
  · obtain ⟨i, h, _⟩ := e9.ex; exact ⟨i, h⟩
theorem f66 : fieldsOkT Tryd.prog 66 := by
  intro d hd; rw [Tryd.underlying66] at hd; cases hd
  intro f hf; simp only [List.mem_cons, List.not_mem_nil, or_false] at hf
  rcases hf with rfl | rfl
  · obtain ⟨i, h, _⟩ := e9.ex; exact ⟨i, h⟩
  · obtain ⟨i, h, _⟩ := e44.ex; exact ⟨i, h⟩
theorem f67 : fieldsOkT Tryd.prog 67 := by
  intro d hd; rw [Tryd.underlying67] at hd; cases hd
  intro f hf; simp only [List.mem_cons, List.not_mem_nil, or_false] at hf
  rcases hf with rfl | rfl
  · obtain ⟨i, h, _⟩ := e9.ex; exact ⟨i, h⟩
  · obtain ⟨i, h, _⟩ := e44.ex; exact ⟨i, h⟩
theorem f104 : fieldsOkT Tryd.prog 104 := by
  intro d hd; rw [Tryd.underlying104] at hd; cases hd
  intro f hf; simp only [List.mem_cons, List.not_mem_nil, or_false] at hf
  rcases hf with rfl | rfl
  · obtain ⟨i, h, _⟩ := e9.ex; exact ⟨i, h⟩
  · obtain ⟨i, h, _⟩ := e9.ex; exact ⟨i, h⟩
theorem f105 : fieldsOkT Tryd.prog 105 := by
  intro d hd; rw [Tryd.underlying105] at hd; cases hd
  intro f hf; simp only [List.mem_cons, List.not_mem_nil, or_false] at hf
  rcases hf with rfl | rfl
  · obtain ⟨i, h, _⟩ := e9.ex; exact ⟨i, h⟩
  · obtain ⟨i, h, _⟩ := e9.ex; exact ⟨i, h⟩
theorem f116 : fieldsOkT Tryd.prog 116 := by
  intro d hd; rw [Tryd.underlying116] at hd; cases hd
  intro f hf; simp only [List.mem_cons, List.not_mem_nil, or_false] at hf
  rcases hf with rfl | rfl | rfl | rfl
  · obtain ⟨i, h, _⟩ := e3.ex; exact ⟨i, h⟩
  · obtain ⟨i, h, _⟩ := e3.ex; exact ⟨i, h⟩
  · obtain ⟨i, h, _⟩ := e3.ex; exact ⟨i, h⟩
  · obtain ⟨i, h, _⟩ := e3.ex; exact ⟨i, h⟩
theorem f117 : fieldsOkT Tryd.prog 117 := by
  intro d hd; rw [Tryd.underlying117] at hd; cases hd
  intro f hf; simp only [List.mem_cons, List.not_mem_nil, or_false] at hf
  rcases hf with rfl | rfl | rfl | rfl
  · obtain ⟨i, h, _⟩ := e3.ex; exact ⟨i, h⟩
  · obtain ⟨i, h, _⟩ := e3.ex; exact ⟨i, h⟩
  · obtain ⟨i, h, _⟩ := e3.ex; exact ⟨i, h⟩
  · obtain ⟨i, h, _⟩ := e3.ex; exact ⟨i, h⟩
theorem f140 : fieldsOkT Tryd.prog 140 := by
  intro d hd; rw [Tryd.underlying140] at hd; cases hd
  intro f hf; simp only [List.mem_cons, List.not_mem_nil, or_false] at hf
  rcases hf with rfl | rfl | rfl
  · obtain ⟨i, h, _⟩ := e9.ex; exact ⟨i, h⟩
  · obtain ⟨i, h, _⟩ := e28.ex; exact ⟨i, h⟩
  · obtain ⟨i, h, _⟩ := e9.ex; exact ⟨i, h⟩
theorem f141 : fieldsOkT Tryd.prog 141 := by
  intro d hd; rw [Tryd.underlying141] at hd; cases hd
  intro f hf; simp only [List.mem_cons, List.not_mem_nil, or_false] at hf
  rcases hf with rfl | rfl | rfl
  · obtain ⟨i, h, _⟩ := e9.ex; exact ⟨i, h⟩
  · obtain ⟨i, h, _⟩ := e28.ex; exact ⟨i, h⟩
  · obtain ⟨i, h, _⟩ := e9.ex; exact ⟨i, h⟩
theorem f146 : fieldsOkT Tryd.prog 146 := by
  intro d hd; rw [Tryd.underlying146] at hd; cases hd
  intro f hf; simp only [List.mem_cons, List.not_mem_nil, or_false] at hf
  rcases hf with rfl | rfl
  · obtain ⟨i, h, _⟩ := e9.ex; exact ⟨i, h⟩
  · obtain ⟨i, h, _⟩ := e4.ex; exact ⟨i, h⟩
theorem f147 : fieldsOkT Tryd.prog 147 := by
  intro d hd; rw [Tryd.underlying147] at hd; cases hd
  intro f hf; simp only [List.mem_cons, List.not_mem_nil, or_false] at hf
  rcases hf with rfl | rfl
  · obtain ⟨i, h, _⟩ := e9.ex; exact ⟨i, h⟩
  · obtain ⟨i, h, _⟩ := e4.ex; exact ⟨i, h⟩
theorem f162 : fieldsOkT Tryd.prog 162 := by
  intro d hd; rw [Tryd.underlying162] at hd; cases hd
  intro f hf; simp only [List.mem_cons, List.not_mem_nil, or_false] at hf
  rcases hf with rfl | rfl
  · obtain ⟨i, h, _⟩ := e161.ex; exact ⟨i, h⟩
  · obtain ⟨i, h, _⟩ := e121.ex; exact ⟨i, h⟩
theorem f163 : fieldsOkT Tryd.prog 163 := by
  intro d hd; rw [Tryd.underlying163] at hd; cases hd
  intro f hf; simp only [List.mem_cons, List.not_mem_nil, or_false] at hf
  rcases hf with rfl | rfl
  · obtain ⟨i, h, _⟩ := e161.ex; exact ⟨i, h⟩
  · obtain ⟨i, h, _⟩ := e121.ex; exact ⟨i, h⟩
theorem f184 : fieldsOkT Tryd.prog 184 := by
  intro d hd; rw [Tryd.underlying184] at hd; cases hd
  intro f hf; simp only [List.mem_cons, List.not_mem_nil, or_false] at hf
  rcases hf with rfl | rfl | rfl
  · obtain ⟨i, h, _⟩ := e3.ex; exact ⟨i, h⟩
  · obtain ⟨i, h, _⟩ := e3.ex; exact ⟨i, h⟩
  · obtain ⟨i, h, _⟩ := e44.ex; exact ⟨i, h⟩
theorem f185 : fieldsOkT Tryd.prog 185 := by
  intro d hd; rw [Tryd.underlying185] at hd; cases hd
  intro f hf; simp only [List.mem_cons, List.not_mem_nil, or_false] at hf
  rcases hf with rfl | rfl | rfl
  · obtain ⟨i, h, _⟩ := e3.ex; exact ⟨i, h⟩
  · obtain ⟨i, h, _⟩ := e3.ex; exact ⟨i, h⟩
  · obtain ⟨i, h, _⟩ := e44.ex; exact ⟨i, h⟩
theorem f217 : fieldsOkT Tryd.prog 217 := by
  intro d hd; rw [Tryd.underlying217] at hd; cases hd
  obtain ⟨i, h, _⟩ := e5.ex; exact ⟨i, h⟩
theorem f229 : fieldsOkT Tryd.prog 229 := by
  intro d hd; rw [Tryd.underlying229] at hd; cases hd
  intro f hf; simp only [List.mem_cons, List.not_mem_nil, or_false] at hf
  rcases hf with rfl | rfl
  · obtain ⟨i, h, _⟩ := e5.ex; exact ⟨i, h⟩
  · obtain ⟨i, h, _⟩ := e5.ex; exact ⟨i, h⟩
theorem f230 : fieldsOkT Tryd.prog 230 := by
  intro d hd; rw [Tryd.underlying230] at hd; cases hd
  intro f hf; simp only [List.mem_cons, List.not_mem_nil, or_false] at hf
  rcases hf with rfl | rfl
  · obtain ⟨i, h, _⟩ := e5.ex; exact ⟨i, h⟩
  · obtain ⟨i, h, _⟩ := e5.ex; exact ⟨i, h⟩
theorem f231 : fieldsOkT Tryd.prog 231 := by
  intro d hd; rw [Tryd.underlying231] at hd; cases hd
  obtain ⟨i, h, _⟩ := e230.ex; exact ⟨i, h⟩
theorem f232 : fieldsOkT Tryd.prog 232 := by
  intro d hd; rw [Tryd.underlying232] at hd; cases hd
  obtain ⟨i, h, _⟩ := e218.ex; exact ⟨i, h⟩
theorem f236 : fieldsOkT Tryd.prog 236 := by
  intro d hd; rw [Tryd.underlying236] at hd; cases hd
  obtain ⟨i, h, _⟩ := e5.ex; exact ⟨i, h⟩
theorem f238 : fieldsOkT Tryd.prog 238 := by
  intro d hd; rw [Tryd.underlying238] at hd; cases hd
  intro f hf; simp only [List.mem_cons, List.not_mem_nil, or_false] at hf
  rcases hf with rfl | rfl | rfl | rfl
  · obtain ⟨i, h, _⟩ := e17.ex; exact ⟨i, h⟩
  · obtain ⟨i, h, _⟩ := e17.ex; exact ⟨i, h⟩
  · obtain ⟨i, h, _⟩ := e17.ex; exact ⟨i, h⟩
  · obtain ⟨i, h, _⟩ := e9.ex; exact ⟨i, h⟩
theorem f239 : fieldsOkT Tryd.prog 239 := by
  intro d hd; rw [Tryd.underlying239] at hd; cases hd
  intro f hf; simp only [List.mem_cons, List.not_mem_nil, or_false] at hf
  rcases hf with rfl | rfl | rfl | rfl
  · obtain ⟨i, h, _⟩ := e17.ex; exact ⟨i, h⟩
  · obtain ⟨i, h, _⟩ := e17.ex; exact ⟨i, h⟩
  · obtain ⟨i, h, _⟩ := e17.ex; exact ⟨i, h⟩
  · obtain ⟨i, h, _⟩ := e9.ex; exact ⟨i, h⟩
theorem f249 : fieldsOkT Tryd.prog 249 := by
  intro d hd; rw [Tryd.underlying249] at hd; cases hd
  intro f hf; simp only [List.mem_cons, List.not_mem_nil, or_false] at hf
  rcases hf with rfl | rfl | rfl | rfl | rfl | rfl | rfl | rfl | rfl | rfl | rfl
  · obtain ⟨i, h, _⟩ := e12.ex; exact ⟨i, h⟩
  · obtain ⟨i, h, _⟩ := e12.ex; exact ⟨i, h⟩
  · obtain ⟨i, h, _⟩ := e225.ex; exact ⟨i, h⟩
  · obtain ⟨i, h, _⟩ := e244.ex; exact ⟨i, h⟩
  · obtain ⟨i, h, _⟩ := e5.ex; exact ⟨i, h⟩
  · obtain ⟨i, h, _⟩ := e5.ex; exact ⟨i, h⟩
  · obtain ⟨i, h, _⟩ := e245.ex; exact ⟨i, h⟩
  · obtain ⟨i, h, _⟩ := e246.ex; exact ⟨i, h⟩
  · obtain ⟨i, h, _⟩ := e199.ex; exact ⟨i, h⟩
  · obtain ⟨i, h, _⟩ := e247.ex; exact ⟨i, h⟩
  · obtain ⟨i, h, _⟩ := e248.ex; exact ⟨i, h⟩
theorem f250 : fieldsOkT Tryd.prog 250 := by
  intro d hd; rw [Tryd.underlying250] at hd; cases hd
  intro f hf; simp only [List.mem_cons, List.not_mem_nil, or_false] at hf
  rcases hf with rfl | rfl | rfl | rfl | rfl | rfl | rfl | rfl | rfl | rfl | rfl
  · obtain ⟨i, h, _⟩ := e12.ex; exact ⟨i, h⟩
  · obtain ⟨i, h, _⟩ := e12.ex; exact ⟨i, h⟩
  · obtain ⟨i, h, _⟩ := e225.ex; exact ⟨i, h⟩
  · obtain ⟨i, h, _⟩ := e244.ex; exact ⟨i, h⟩
  · obtain ⟨i, h, _⟩ := e5.ex; exact ⟨i, h⟩
  · obtain ⟨i, h, _⟩ := e5.ex; exact ⟨i, h⟩
  · obtain ⟨i, h, _⟩ := e245.ex; exact ⟨i, h⟩
  · obtain ⟨i, h, _⟩ := e246.ex; exact ⟨i, h⟩
  · obtain ⟨i, h, _⟩ := e199.ex; exact ⟨i, h⟩
  · obtain ⟨i, h, _⟩ := e247.ex; exact ⟨i, h⟩
  · obtain ⟨i, h, _⟩ := e248.ex; exact ⟨i, h⟩
theorem q105 : EqT Tryd.prog 105 [.s, .s] := ⟨by kernel_rfl, by kernel_rfl⟩
theorem kq105 {K : Prop} : Chk (EqT Tryd.prog 105 [.s, .s]) K = K := Chk_of q105
theorem kqt105 : (EqT Tryd.prog 105 [.s, .s]) = True := eq_true q105
theorem q117 : EqT Tryd.prog 117 [.i .i64, .i .i64, .i .i64, .i .i64] := ⟨by kernel_rfl, by kernel_rfl⟩
theorem kq117 {K : Prop} : Chk (EqT Tryd.prog 117 [.i .i64, .i .i64, .i .i64, .i .i64]) K = K := Chk_of q117
theorem kqt117 : (EqT Tryd.prog 117 [.i .i64, .i .i64, .i .i64, .i .i64]) = True := eq_true q117
theorem q147 : EqT Tryd.prog 147 [.s, .b] := ⟨by kernel_rfl, by kernel_rfl⟩
theorem kq147 {K : Prop} : Chk (EqT Tryd.prog 147 [.s, .b]) K = K := Chk_of q147
theorem kqt147 : (EqT Tryd.prog 147 [.s, .b]) = True := eq_true q147
theorem k1 {K : Prop} : Chk (ElemZ Tryd.prog 1 (.nilFunc)) K = K := Chk_of e1
theorem ke1 : (ElemZ Tryd.prog 1 (.nilFunc)) = True := eq_true e1
theorem k2 {K : Prop} : Chk (ElemZ Tryd.prog 2 (.int .i64 0)) K = K := Chk_of e2
theorem ke2 : (ElemZ Tryd.prog 2 (.int .i64 0)) = True := eq_true e2
theorem k3 {K : Prop} : Chk (ElemZ Tryd.prog 3 (.int .i64 0)) K = K := Chk_of e3
theorem ke3 : (ElemZ Tryd.prog 3 (.int .i64 0)) = True := eq_true e3
theorem k4 {K : Prop} : Chk (ElemZ Tryd.prog 4 (.bool false)) K = K := Chk_of e4
theorem ke4 : (ElemZ Tryd.prog 4 (.bool false)) = True := eq_true e4
theorem k5 {K : Prop} : Chk (ElemZ Tryd.prog 5 (.int .u8 0)) K = K := Chk_of e5
theorem ke5 : (ElemZ Tryd.prog 5 (.int .u8 0)) = True := eq_true e5
theorem k6 {K : Prop} : Chk (ElemZ Tryd.prog 6 (.int .u8 0)) K = K := Chk_of e6
theorem ke6 : (ElemZ Tryd.prog 6 (.int .u8 0)) = True := eq_true e6
theorem k7 {K : Prop} : Chk (ElemZ Tryd.prog 7 (.agg #[.int .i64 0, .int .i64 0, .bool false, .int .u8 0])) K = K := Chk_of e7
theorem ke7 : (ElemZ Tryd.prog 7 (.agg #[.int .i64 0, .int .i64 0, .bool false, .int .u8 0])) = True := eq_true e7
theorem k8 {K : Prop} : Chk (ElemZ Tryd.prog 8 (.agg #[.int .i64 0, .int .i64 0, .bool false, .int .u8 0])) K = K := Chk_of e8
theorem ke8 : (ElemZ Tryd.prog 8 (.agg #[.int .i64 0, .int .i64 0, .bool false, .int .u8 0])) = True := eq_true e8
theorem k9 {K : Prop} : Chk (ElemZ Tryd.prog 9 (.string ⟨#[]⟩)) K = K := Chk_of e9
theorem ke9 : (ElemZ Tryd.prog 9 (.string ⟨#[]⟩)) = True := eq_true e9
theorem k10 {K : Prop} : Chk (ElemZ Tryd.prog 10 (.string ⟨#[]⟩)) K = K := Chk_of e10
theorem ke10 : (ElemZ Tryd.prog 10 (.string ⟨#[]⟩)) = True := eq_true e10
theorem k11 {K : Prop} : Chk (ElemZ Tryd.prog 11 (.string ⟨#[]⟩)) K = K := Chk_of e11
theorem ke11 : (ElemZ Tryd.prog 11 (.string ⟨#[]⟩)) = True := eq_true e11
theorem k12 {K : Prop} : Chk (ElemZ Tryd.prog 12 (.int .u64 0)) K = K := Chk_of e12
theorem ke12 : (ElemZ Tryd.prog 12 (.int .u64 0)) = True := eq_true e12
theorem k13 {K : Prop} : Chk (ElemZ Tryd.prog 13 (.agg #[.string ⟨#[]⟩, .int .u64 0])) K = K := Chk_of e13
theorem ke13 : (ElemZ Tryd.prog 13 (.agg #[.string ⟨#[]⟩, .int .u64 0])) = True := eq_true e13
theorem k14 {K : Prop} : Chk (ElemZ Tryd.prog 14 (.agg #[.string ⟨#[]⟩, .int .u64 0])) K = K := Chk_of e14
theorem ke14 : (ElemZ Tryd.prog 14 (.agg #[.string ⟨#[]⟩, .int .u64 0])) = True := eq_true e14
theorem k15 {K : Prop} : Chk (ElemZ Tryd.prog 15 (.pointer none)) K = K := Chk_of e15
theorem ke15 : (ElemZ Tryd.prog 15 (.pointer none)) = True := eq_true e15
theorem k16 {K : Prop} : Chk (ElemZ Tryd.prog 16 (.pointer none)) K = K := Chk_of e16
theorem ke16 : (ElemZ Tryd.prog 16 (.pointer none)) = True := eq_true e16
theorem k17 {K : Prop} : Chk (ElemZ Tryd.prog 17 (.pointer none)) K = K := Chk_of e17
theorem ke17 : (ElemZ Tryd.prog 17 (.pointer none)) = True := eq_true e17
theorem k18 {K : Prop} : Chk (ElemZ Tryd.prog 18 (.agg #[.pointer none])) K = K := Chk_of e18
theorem ke18 : (ElemZ Tryd.prog 18 (.agg #[.pointer none])) = True := eq_true e18
theorem k19 {K : Prop} : Chk (ElemZ Tryd.prog 19 (.agg #[.pointer none])) K = K := Chk_of e19
theorem ke19 : (ElemZ Tryd.prog 19 (.agg #[.pointer none])) = True := eq_true e19
theorem k20 {K : Prop} : Chk (ElemZ Tryd.prog 20 (.nilIface)) K = K := Chk_of e20
theorem ke20 : (ElemZ Tryd.prog 20 (.nilIface)) = True := eq_true e20
theorem k21 {K : Prop} : Chk (ElemZ Tryd.prog 21 (.int .i32 0)) K = K := Chk_of e21
theorem ke21 : (ElemZ Tryd.prog 21 (.int .i32 0)) = True := eq_true e21
theorem k22 {K : Prop} : Chk (ElemZ Tryd.prog 22 (.slice none 0 0)) K = K := Chk_of e22
theorem ke22 : (ElemZ Tryd.prog 22 (.slice none 0 0)) = True := eq_true e22
theorem k23 {K : Prop} : Chk (ElemZ Tryd.prog 23 (.nilFunc)) K = K := Chk_of e23
theorem ke23 : (ElemZ Tryd.prog 23 (.nilFunc)) = True := eq_true e23
theorem k24 {K : Prop} : Chk (ElemZ Tryd.prog 24 (.nilFunc)) K = K := Chk_of e24
theorem ke24 : (ElemZ Tryd.prog 24 (.nilFunc)) = True := eq_true e24
theorem k25 {K : Prop} : Chk (ElemZ Tryd.prog 25 (.slice none 0 0)) K = K := Chk_of e25
theorem ke25 : (ElemZ Tryd.prog 25 (.slice none 0 0)) = True := eq_true e25
theorem k26 {K : Prop} : Chk (ElemZ Tryd.prog 26 (.agg #[.int .i64 0, .int .i64 0, .slice none 0 0])) K = K := Chk_of e26
theorem ke26 : (ElemZ Tryd.prog 26 (.agg #[.int .i64 0, .int .i64 0, .slice none 0 0])) = True := eq_true e26
theorem k27 {K : Prop} : Chk (ElemZ Tryd.prog 27 (.agg #[.int .i64 0, .int .i64 0, .slice none 0 0])) K = K := Chk_of e27
theorem ke27 : (ElemZ Tryd.prog 27 (.agg #[.int .i64 0, .int .i64 0, .slice none 0 0])) = True := eq_true e27
theorem k28 {K : Prop} : Chk (ElemZ Tryd.prog 28 (.slice none 0 0)) K = K := Chk_of e28
theorem ke28 : (ElemZ Tryd.prog 28 (.slice none 0 0)) = True := eq_true e28
theorem k29 {K : Prop} : Chk (ElemZ Tryd.prog 29 (.agg #[.int .i64 0, .int .i64 0, .slice none 0 0, .slice none 0 0, .string ⟨#[]⟩])) K = K := Chk_of e29
theorem ke29 : (ElemZ Tryd.prog 29 (.agg #[.int .i64 0, .int .i64 0, .slice none 0 0, .slice none 0 0, .string ⟨#[]⟩])) = True := eq_true e29
theorem k30 {K : Prop} : Chk (ElemZ Tryd.prog 30 (.agg #[.int .i64 0, .int .i64 0, .slice none 0 0, .slice none 0 0, .string ⟨#[]⟩])) K = K := Chk_of e30
theorem ke30 : (ElemZ Tryd.prog 30 (.agg #[.int .i64 0, .int .i64 0, .slice none 0 0, .slice none 0 0, .string ⟨#[]⟩])) = True := eq_true e30
theorem k31 {K : Prop} : Chk (ElemZ Tryd.prog 31 (.int .i64 0)) K = K := Chk_of e31
theorem ke31 : (ElemZ Tryd.prog 31 (.int .i64 0)) = True := eq_true e31
theorem k32 {K : Prop} : Chk (ElemZ Tryd.prog 32 (.nilFunc)) K = K := Chk_of e32
theorem ke32 : (ElemZ Tryd.prog 32 (.nilFunc)) = True := eq_true e32
theorem k34 {K : Prop} : Chk (ElemZ Tryd.prog 34 (.nilFunc)) K = K := Chk_of e34
theorem ke34 : (ElemZ Tryd.prog 34 (.nilFunc)) = True := eq_true e34
theorem k35 {K : Prop} : Chk (ElemZ Tryd.prog 35 (.nilFunc)) K = K := Chk_of e35
theorem ke35 : (ElemZ Tryd.prog 35 (.nilFunc)) = True := eq_true e35
theorem k36 {K : Prop} : Chk (ElemZ Tryd.prog 36 (.nilFunc)) K = K := Chk_of e36
theorem ke36 : (ElemZ Tryd.prog 36 (.nilFunc)) = True := eq_true e36
theorem k37 {K : Prop} : Chk (ElemZ Tryd.prog 37 (.nilFunc)) K = K := Chk_of e37
theorem ke37 : (ElemZ Tryd.prog 37 (.nilFunc)) = True := eq_true e37
theorem k38 {K : Prop} : Chk (ElemZ Tryd.prog 38 (.nilFunc)) K = K := Chk_of e38
theorem ke38 : (ElemZ Tryd.prog 38 (.nilFunc)) = True := eq_true e38
theorem k39 {K : Prop} : Chk (ElemZ Tryd.prog 39 (.nilFunc)) K = K := Chk_of e39
theorem ke39 : (ElemZ Tryd.prog 39 (.nilFunc)) = True := eq_true e39
theorem k40 {K : Prop} : Chk (ElemZ Tryd.prog 40 (.nilFunc)) K = K := Chk_of e40
theorem ke40 : (ElemZ Tryd.prog 40 (.nilFunc)) = True := eq_true e40
theorem k42 {K : Prop} : Chk (ElemZ Tryd.prog 42 (.nilFunc)) K = K := Chk_of e42
theorem ke42 : (ElemZ Tryd.prog 42 (.nilFunc)) = True := eq_true e42
theorem k43 {K : Prop} : Chk (ElemZ Tryd.prog 43 (.nilFunc)) K = K := Chk_of e43
theorem ke43 : (ElemZ Tryd.prog 43 (.nilFunc)) = True := eq_true e43
theorem k44 {K : Prop} : Chk (ElemZ Tryd.prog 44 (.slice none 0 0)) K = K := Chk_of e44
theorem ke44 : (ElemZ Tryd.prog 44 (.slice none 0 0)) = True := eq_true e44
theorem k46 {K : Prop} : Chk (ElemZ Tryd.prog 46 (.nilFunc)) K = K := Chk_of e46
theorem ke46 : (ElemZ Tryd.prog 46 (.nilFunc)) = True := eq_true e46
theorem k47 {K : Prop} : Chk (ElemZ Tryd.prog 47 (.nilFunc)) K = K := Chk_of e47
theorem ke47 : (ElemZ Tryd.prog 47 (.nilFunc)) = True := eq_true e47
theorem k48 {K : Prop} : Chk (ElemZ Tryd.prog 48 (.nilFunc)) K = K := Chk_of e48
theorem ke48 : (ElemZ Tryd.prog 48 (.nilFunc)) = True := eq_true e48
theorem k49 {K : Prop} : Chk (ElemZ Tryd.prog 49 (.nilFunc)) K = K := Chk_of e49
theorem ke49 : (ElemZ Tryd.prog 49 (.nilFunc)) = True := eq_true e49
theorem k50 {K : Prop} : Chk (ElemZ Tryd.prog 50 (.slice none 0 0)) K = K := Chk_of e50
theorem ke50 : (ElemZ Tryd.prog 50 (.slice none 0 0)) = True := eq_true e50
theorem k52 {K : Prop} : Chk (ElemZ Tryd.prog 52 (.nilFunc)) K = K := Chk_of e52
theorem ke52 : (ElemZ Tryd.prog 52 (.nilFunc)) = True := eq_true e52
theorem k54 {K : Prop} : Chk (ElemZ Tryd.prog 54 (.nilFunc)) K = K := Chk_of e54
theorem ke54 : (ElemZ Tryd.prog 54 (.nilFunc)) = True := eq_true e54
theorem k55 {K : Prop} : Chk (ElemZ Tryd.prog 55 (.nilFunc)) K = K := Chk_of e55
theorem ke55 : (ElemZ Tryd.prog 55 (.nilFunc)) = True := eq_true e55
theorem k56 {K : Prop} : Chk (ElemZ Tryd.prog 56 (.nilFunc)) K = K := Chk_of e56
theorem ke56 : (ElemZ Tryd.prog 56 (.nilFunc)) = True := eq_true e56
theorem k57 {K : Prop} : Chk (ElemZ Tryd.prog 57 (.nilFunc)) K = K := Chk_of e57
theorem ke57 : (ElemZ Tryd.prog 57 (.nilFunc)) = True := eq_true e57
theorem k58 {K : Prop} : Chk (ElemZ Tryd.prog 58 (.nilFunc)) K = K := Chk_of e58
theorem ke58 : (ElemZ Tryd.prog 58 (.nilFunc)) = True := eq_true e58
theorem k59 {K : Prop} : Chk (ElemZ Tryd.prog 59 (.slice none 0 0)) K = K := Chk_of e59
theorem ke59 : (ElemZ Tryd.prog 59 (.slice none 0 0)) = True := eq_true e59
theorem k61 {K : Prop} : Chk (ElemZ Tryd.prog 61 (.nilFunc)) K = K := Chk_of e61
theorem ke61 : (ElemZ Tryd.prog 61 (.nilFunc)) = True := eq_true e61
theorem k62 {K : Prop} : Chk (ElemZ Tryd.prog 62 (.nilFunc)) K = K := Chk_of e62
theorem ke62 : (ElemZ Tryd.prog 62 (.nilFunc)) = True := eq_true e62
theorem k63 {K : Prop} : Chk (ElemZ Tryd.prog 63 (.nilFunc)) K = K := Chk_of e63
theorem ke63 : (ElemZ Tryd.prog 63 (.nilFunc)) = True := eq_true e63
theorem k64 {K : Prop} : Chk (ElemZ Tryd.prog 64 (.nilFunc)) K = K := Chk_of e64
theorem ke64 : (ElemZ Tryd.prog 64 (.nilFunc)) = True := eq_true e64
theorem k65 {K : Prop} : Chk (ElemZ Tryd.prog 65 (.slice none 0 0)) K = K := Chk_of e65
theorem ke65 : (ElemZ Tryd.prog 65 (.slice none 0 0)) = True := eq_true e65
theorem k66 {K : Prop} : Chk (ElemZ Tryd.prog 66 (.agg #[.string ⟨#[]⟩, .slice none 0 0])) K = K := Chk_of e66
theorem ke66 : (ElemZ Tryd.prog 66 (.agg #[.string ⟨#[]⟩, .slice none 0 0])) = True := eq_true e66
theorem k67 {K : Prop} : Chk (ElemZ Tryd.prog 67 (.agg #[.string ⟨#[]⟩, .slice none 0 0])) K = K := Chk_of e67
theorem ke67 : (ElemZ Tryd.prog 67 (.agg #[.string ⟨#[]⟩, .slice none 0 0])) = True := eq_true e67
theorem k68 {K : Prop} : Chk (ElemZ Tryd.prog 68 (.nilFunc)) K = K := Chk_of e68
theorem ke68 : (ElemZ Tryd.prog 68 (.nilFunc)) = True := eq_true e68
theorem k70 {K : Prop} : Chk (ElemZ Tryd.prog 70 (.nilFunc)) K = K := Chk_of e70
theorem ke70 : (ElemZ Tryd.prog 70 (.nilFunc)) = True := eq_true e70
theorem k71 {K : Prop} : Chk (ElemZ Tryd.prog 71 (.nilFunc)) K = K := Chk_of e71
theorem ke71 : (ElemZ Tryd.prog 71 (.nilFunc)) = True := eq_true e71
theorem k73 {K : Prop} : Chk (ElemZ Tryd.prog 73 (.nilFunc)) K = K := Chk_of e73
theorem ke73 : (ElemZ Tryd.prog 73 (.nilFunc)) = True := eq_true e73
theorem k74 {K : Prop} : Chk (ElemZ Tryd.prog 74 (.nilFunc)) K = K := Chk_of e74
theorem ke74 : (ElemZ Tryd.prog 74 (.nilFunc)) = True := eq_true e74
theorem k75 {K : Prop} : Chk (ElemZ Tryd.prog 75 (.nilFunc)) K = K := Chk_of e75
theorem ke75 : (ElemZ Tryd.prog 75 (.nilFunc)) = True := eq_true e75
theorem k76 {K : Prop} : Chk (ElemZ Tryd.prog 76 (.nilFunc)) K = K := Chk_of e76
theorem ke76 : (ElemZ Tryd.prog 76 (.nilFunc)) = True := eq_true e76
theorem k77 {K : Prop} : Chk (ElemZ Tryd.prog 77 (.nilFunc)) K = K := Chk_of e77
theorem ke77 : (ElemZ Tryd.prog 77 (.nilFunc)) = True := eq_true e77
theorem k79 {K : Prop} : Chk (ElemZ Tryd.prog 79 (.nilFunc)) K = K := Chk_of e79
theorem ke79 : (ElemZ Tryd.prog 79 (.nilFunc)) = True := eq_true e79
theorem k80 {K : Prop} : Chk (ElemZ Tryd.prog 80 (.nilFunc)) K = K := Chk_of e80
theorem ke80 : (ElemZ Tryd.prog 80 (.nilFunc)) = True := eq_true e80
theorem k81 {K : Prop} : Chk (ElemZ Tryd.prog 81 (.slice none 0 0)) K = K := Chk_of e81
theorem ke81 : (ElemZ Tryd.prog 81 (.slice none 0 0)) = True := eq_true e81
theorem k82 {K : Prop} : Chk (ElemZ Tryd.prog 82 (.nilFunc)) K = K := Chk_of e82
theorem ke82 : (ElemZ Tryd.prog 82 (.nilFunc)) = True := eq_true e82
theorem k83 {K : Prop} : Chk (ElemZ Tryd.prog 83 (.nilFunc)) K = K := Chk_of e83
theorem ke83 : (ElemZ Tryd.prog 83 (.nilFunc)) = True := eq_true e83
theorem k84 {K : Prop} : Chk (ElemZ Tryd.prog 84 (.nilFunc)) K = K := Chk_of e84
theorem ke84 : (ElemZ Tryd.prog 84 (.nilFunc)) = True := eq_true e84
theorem k85 {K : Prop} : Chk (ElemZ Tryd.prog 85 (.nilFunc)) K = K := Chk_of e85
theorem ke85 : (ElemZ Tryd.prog 85 (.nilFunc)) = True := eq_true e85
theorem k86 {K : Prop} : Chk (ElemZ Tryd.prog 86 (.nilFunc)) K = K := Chk_of e86
theorem ke86 : (ElemZ Tryd.prog 86 (.nilFunc)) = True := eq_true e86
theorem k87 {K : Prop} : Chk (ElemZ Tryd.prog 87 (.slice none 0 0)) K = K := Chk_of e87
theorem ke87 : (ElemZ Tryd.prog 87 (.slice none 0 0)) = True := eq_true e87
theorem k88 {K : Prop} : Chk (ElemZ Tryd.prog 88 (.nilFunc)) K = K := Chk_of e88
theorem ke88 : (ElemZ Tryd.prog 88 (.nilFunc)) = True := eq_true e88
theorem k89 {K : Prop} : Chk (ElemZ Tryd.prog 89 (.nilFunc)) K = K := Chk_of e89
theorem ke89 : (ElemZ Tryd.prog 89 (.nilFunc)) = True := eq_true e89
theorem k91 {K : Prop} : Chk (ElemZ Tryd.prog 91 (.nilFunc)) K = K := Chk_of e91
theorem ke91 : (ElemZ Tryd.prog 91 (.nilFunc)) = True := eq_true e91
theorem k92 {K : Prop} : Chk (ElemZ Tryd.prog 92 (.nilFunc)) K = K := Chk_of e92
theorem ke92 : (ElemZ Tryd.prog 92 (.nilFunc)) = True := eq_true e92
theorem k93 {K : Prop} : Chk (ElemZ Tryd.prog 93 (.nilFunc)) K = K := Chk_of e93
theorem ke93 : (ElemZ Tryd.prog 93 (.nilFunc)) = True := eq_true e93
theorem k94 {K : Prop} : Chk (ElemZ Tryd.prog 94 (.nilFunc)) K = K := Chk_of e94
theorem ke94 : (ElemZ Tryd.prog 94 (.nilFunc)) = True := eq_true e94
theorem k95 {K : Prop} : Chk (ElemZ Tryd.prog 95 (.slice none 0 0)) K = K := Chk_of e95
theorem ke95 : (ElemZ Tryd.prog 95 (.slice none 0 0)) = True := eq_true e95
theorem k96 {K : Prop} : Chk (ElemZ Tryd.prog 96 (.nilFunc)) K = K := Chk_of e96
theorem ke96 : (ElemZ Tryd.prog 96 (.nilFunc)) = True := eq_true e96
theorem k98 {K : Prop} : Chk (ElemZ Tryd.prog 98 (.nilFunc)) K = K := Chk_of e98
theorem ke98 : (ElemZ Tryd.prog 98 (.nilFunc)) = True := eq_true e98
theorem k99 {K : Prop} : Chk (ElemZ Tryd.prog 99 (.nilFunc)) K = K := Chk_of e99
theorem ke99 : (ElemZ Tryd.prog 99 (.nilFunc)) = True := eq_true e99
theorem k100 {K : Prop} : Chk (ElemZ Tryd.prog 100 (.nilFunc)) K = K := Chk_of e100
theorem ke100 : (ElemZ Tryd.prog 100 (.nilFunc)) = True := eq_true e100
theorem k102 {K : Prop} : Chk (ElemZ Tryd.prog 102 (.nilFunc)) K = K := Chk_of e102
theorem ke102 : (ElemZ Tryd.prog 102 (.nilFunc)) = True := eq_true e102
theorem k103 {K : Prop} : Chk (ElemZ Tryd.prog 103 (.nilFunc)) K = K := Chk_of e103
theorem ke103 : (ElemZ Tryd.prog 103 (.nilFunc)) = True := eq_true e103
theorem k104 {K : Prop} : Chk (ElemZ Tryd.prog 104 (.agg #[.string ⟨#[]⟩, .string ⟨#[]⟩])) K = K := Chk_of e104
theorem ke104 : (ElemZ Tryd.prog 104 (.agg #[.string ⟨#[]⟩, .string ⟨#[]⟩])) = True := eq_true e104
theorem k105 {K : Prop} : Chk (ElemZ Tryd.prog 105 (.agg #[.string ⟨#[]⟩, .string ⟨#[]⟩])) K = K := Chk_of e105
theorem ke105 : (ElemZ Tryd.prog 105 (.agg #[.string ⟨#[]⟩, .string ⟨#[]⟩])) = True := eq_true e105
theorem k106 {K : Prop} : Chk (ElemZ Tryd.prog 106 (.nilFunc)) K = K := Chk_of e106
theorem ke106 : (ElemZ Tryd.prog 106 (.nilFunc)) = True := eq_true e106
theorem k107 {K : Prop} : Chk (ElemZ Tryd.prog 107 (.nilFunc)) K = K := Chk_of e107
theorem ke107 : (ElemZ Tryd.prog 107 (.nilFunc)) = True := eq_true e107
theorem k108 {K : Prop} : Chk (ElemZ Tryd.prog 108 (.nilFunc)) K = K := Chk_of e108
theorem ke108 : (ElemZ Tryd.prog 108 (.nilFunc)) = True := eq_true e108
theorem k109 {K : Prop} : Chk (ElemZ Tryd.prog 109 (.slice none 0 0)) K = K := Chk_of e109
theorem ke109 : (ElemZ Tryd.prog 109 (.slice none 0 0)) = True := eq_true e109
theorem k110 {K : Prop} : Chk (ElemZ Tryd.prog 110 (.nilFunc)) K = K := Chk_of e110
theorem ke110 : (ElemZ Tryd.prog 110 (.nilFunc)) = True := eq_true e110
theorem k111 {K : Prop} : Chk (ElemZ Tryd.prog 111 (.slice none 0 0)) K = K := Chk_of e111
theorem ke111 : (ElemZ Tryd.prog 111 (.slice none 0 0)) = True := eq_true e111
theorem k112 {K : Prop} : Chk (ElemZ Tryd.prog 112 (.nilFunc)) K = K := Chk_of e112
theorem ke112 : (ElemZ Tryd.prog 112 (.nilFunc)) = True := eq_true e112
theorem k113 {K : Prop} : Chk (ElemZ Tryd.prog 113 (.nilFunc)) K = K := Chk_of e113
theorem ke113 : (ElemZ Tryd.prog 113 (.nilFunc)) = True := eq_true e113
theorem k114 {K : Prop} : Chk (ElemZ Tryd.prog 114 (.nilFunc)) K = K := Chk_of e114
theorem ke114 : (ElemZ Tryd.prog 114 (.nilFunc)) = True := eq_true e114
theorem k115 {K : Prop} : Chk (ElemZ Tryd.prog 115 (.nilFunc)) K = K := Chk_of e115
theorem ke115 : (ElemZ Tryd.prog 115 (.nilFunc)) = True := eq_true e115
theorem k116 {K : Prop} : Chk (ElemZ Tryd.prog 116 (.agg #[.int .i64 0, .int .i64 0, .int .i64 0, .int .i64 0])) K = K := Chk_of e116
theorem ke116 : (ElemZ Tryd.prog 116 (.agg #[.int .i64 0, .int .i64 0, .int .i64 0, .int .i64 0])) = True := eq_true e116
theorem k117 {K : Prop} : Chk (ElemZ Tryd.prog 117 (.agg #[.int .i64 0, .int .i64 0, .int .i64 0, .int .i64 0])) K = K := Chk_of e117
theorem ke117 : (ElemZ Tryd.prog 117 (.agg #[.int .i64 0, .int .i64 0, .int .i64 0, .int .i64 0])) = True := eq_true e117
theorem k118 {K : Prop} : Chk (ElemZ Tryd.prog 118 (.pointer none)) K = K := Chk_of e118
theorem ke118 : (ElemZ Tryd.prog 118 (.pointer none)) = True := eq_true e118
theorem k119 {K : Prop} : Chk (ElemZ Tryd.prog 119 (.nilFunc)) K = K := Chk_of e119
theorem ke119 : (ElemZ Tryd.prog 119 (.nilFunc)) = True := eq_true e119
theorem k120 {K : Prop} : Chk (ElemZ Tryd.prog 120 (.nilFunc)) K = K := Chk_of e120
theorem ke120 : (ElemZ Tryd.prog 120 (.nilFunc)) = True := eq_true e120
theorem k121 {K : Prop} : Chk (ElemZ Tryd.prog 121 (.slice none 0 0)) K = K := Chk_of e121
theorem ke121 : (ElemZ Tryd.prog 121 (.slice none 0 0)) = True := eq_true e121
theorem k122 {K : Prop} : Chk (ElemZ Tryd.prog 122 (.nilFunc)) K = K := Chk_of e122
theorem ke122 : (ElemZ Tryd.prog 122 (.nilFunc)) = True := eq_true e122
theorem k123 {K : Prop} : Chk (ElemZ Tryd.prog 123 (.nilFunc)) K = K := Chk_of e123
theorem ke123 : (ElemZ Tryd.prog 123 (.nilFunc)) = True := eq_true e123
theorem k124 {K : Prop} : Chk (ElemZ Tryd.prog 124 (.nilFunc)) K = K := Chk_of e124
theorem ke124 : (ElemZ Tryd.prog 124 (.nilFunc)) = True := eq_true e124
theorem k125 {K : Prop} : Chk (ElemZ Tryd.prog 125 (.nilFunc)) K = K := Chk_of e125
theorem ke125 : (ElemZ Tryd.prog 125 (.nilFunc)) = True := eq_true e125
theorem k126 {K : Prop} : Chk (ElemZ Tryd.prog 126 (.nilFunc)) K = K := Chk_of e126
theorem ke126 : (ElemZ Tryd.prog 126 (.nilFunc)) = True := eq_true e126
theorem k127 {K : Prop} : Chk (ElemZ Tryd.prog 127 (.map none)) K = K := Chk_of e127
theorem ke127 : (ElemZ Tryd.prog 127 (.map none)) = True := eq_true e127
theorem k128 {K : Prop} : Chk (ElemZ Tryd.prog 128 (.nilFunc)) K = K := Chk_of e128
theorem ke128 : (ElemZ Tryd.prog 128 (.nilFunc)) = True := eq_true e128
theorem k129 {K : Prop} : Chk (ElemZ Tryd.prog 129 (.nilFunc)) K = K := Chk_of e129
theorem ke129 : (ElemZ Tryd.prog 129 (.nilFunc)) = True := eq_true e129
theorem k130 {K : Prop} : Chk (ElemZ Tryd.prog 130 (.nilFunc)) K = K := Chk_of e130
theorem ke130 : (ElemZ Tryd.prog 130 (.nilFunc)) = True := eq_true e130
theorem k131 {K : Prop} : Chk (ElemZ Tryd.prog 131 (.nilFunc)) K = K := Chk_of e131
theorem ke131 : (ElemZ Tryd.prog 131 (.nilFunc)) = True := eq_true e131
theorem k132 {K : Prop} : Chk (ElemZ Tryd.prog 132 (.nilFunc)) K = K := Chk_of e132
theorem ke132 : (ElemZ Tryd.prog 132 (.nilFunc)) = True := eq_true e132
theorem k133 {K : Prop} : Chk (ElemZ Tryd.prog 133 (.nilFunc)) K = K := Chk_of e133
theorem ke133 : (ElemZ Tryd.prog 133 (.nilFunc)) = True := eq_true e133
theorem k134 {K : Prop} : Chk (ElemZ Tryd.prog 134 (.nilFunc)) K = K := Chk_of e134
theorem ke134 : (ElemZ Tryd.prog 134 (.nilFunc)) = True := eq_true e134
theorem k135 {K : Prop} : Chk (ElemZ Tryd.prog 135 (.nilFunc)) K = K := Chk_of e135
theorem ke135 : (ElemZ Tryd.prog 135 (.nilFunc)) = True := eq_true e135
theorem k136 {K : Prop} : Chk (ElemZ Tryd.prog 136 (.nilFunc)) K = K := Chk_of e136
theorem ke136 : (ElemZ Tryd.prog 136 (.nilFunc)) = True := eq_true e136
theorem k137 {K : Prop} : Chk (ElemZ Tryd.prog 137 (.nilFunc)) K = K := Chk_of e137
theorem ke137 : (ElemZ Tryd.prog 137 (.nilFunc)) = True := eq_true e137
theorem k138 {K : Prop} : Chk (ElemZ Tryd.prog 138 (.nilFunc)) K = K := Chk_of e138
theorem ke138 : (ElemZ Tryd.prog 138 (.nilFunc)) = True := eq_true e138
theorem k139 {K : Prop} : Chk (ElemZ Tryd.prog 139 (.nilFunc)) K = K := Chk_of e139
theorem ke139 : (ElemZ Tryd.prog 139 (.nilFunc)) = True := eq_true e139
theorem k140 {K : Prop} : Chk (ElemZ Tryd.prog 140 (.agg #[.string ⟨#[]⟩, .slice none 0 0, .string ⟨#[]⟩])) K = K := Chk_of e140
theorem ke140 : (ElemZ Tryd.prog 140 (.agg #[.string ⟨#[]⟩, .slice none 0 0, .string ⟨#[]⟩])) = True := eq_true e140
theorem k141 {K : Prop} : Chk (ElemZ Tryd.prog 141 (.agg #[.string ⟨#[]⟩, .slice none 0 0, .string ⟨#[]⟩])) K = K := Chk_of e141
theorem ke141 : (ElemZ Tryd.prog 141 (.agg #[.string ⟨#[]⟩, .slice none 0 0, .string ⟨#[]⟩])) = True := eq_true e141
theorem k142 {K : Prop} : Chk (ElemZ Tryd.prog 142 (.nilFunc)) K = K := Chk_of e142
theorem ke142 : (ElemZ Tryd.prog 142 (.nilFunc)) = True := eq_true e142
theorem k143 {K : Prop} : Chk (ElemZ Tryd.prog 143 (.map none)) K = K := Chk_of e143
theorem ke143 : (ElemZ Tryd.prog 143 (.map none)) = True := eq_true e143
theorem k144 {K : Prop} : Chk (ElemZ Tryd.prog 144 (.slice none 0 0)) K = K := Chk_of e144
theorem ke144 : (ElemZ Tryd.prog 144 (.slice none 0 0)) = True := eq_true e144
theorem k145 {K : Prop} : Chk (ElemZ Tryd.prog 145 (.nilFunc)) K = K := Chk_of e145
theorem ke145 : (ElemZ Tryd.prog 145 (.nilFunc)) = True := eq_true e145
theorem k146 {K : Prop} : Chk (ElemZ Tryd.prog 146 (.agg #[.string ⟨#[]⟩, .bool false])) K = K := Chk_of e146
theorem ke146 : (ElemZ Tryd.prog 146 (.agg #[.string ⟨#[]⟩, .bool false])) = True := eq_true e146
theorem k147 {K : Prop} : Chk (ElemZ Tryd.prog 147 (.agg #[.string ⟨#[]⟩, .bool false])) K = K := Chk_of e147
theorem ke147 : (ElemZ Tryd.prog 147 (.agg #[.string ⟨#[]⟩, .bool false])) = True := eq_true e147
theorem k148 {K : Prop} : Chk (ElemZ Tryd.prog 148 (.nilFunc)) K = K := Chk_of e148
theorem ke148 : (ElemZ Tryd.prog 148 (.nilFunc)) = True := eq_true e148
theorem k149 {K : Prop} : Chk (ElemZ Tryd.prog 149 (.map none)) K = K := Chk_of e149
theorem ke149 : (ElemZ Tryd.prog 149 (.map none)) = True := eq_true e149
theorem k152 {K : Prop} : Chk (ElemZ Tryd.prog 152 (.nilFunc)) K = K := Chk_of e152
theorem ke152 : (ElemZ Tryd.prog 152 (.nilFunc)) = True := eq_true e152
theorem k153 {K : Prop} : Chk (ElemZ Tryd.prog 153 (.nilFunc)) K = K := Chk_of e153
theorem ke153 : (ElemZ Tryd.prog 153 (.nilFunc)) = True := eq_true e153
theorem k154 {K : Prop} : Chk (ElemZ Tryd.prog 154 (.nilFunc)) K = K := Chk_of e154
theorem ke154 : (ElemZ Tryd.prog 154 (.nilFunc)) = True := eq_true e154
theorem k155 {K : Prop} : Chk (ElemZ Tryd.prog 155 (.nilFunc)) K = K := Chk_of e155
theorem ke155 : (ElemZ Tryd.prog 155 (.nilFunc)) = True := eq_true e155
theorem k156 {K : Prop} : Chk (ElemZ Tryd.prog 156 (.nilFunc)) K = K := Chk_of e156
theorem ke156 : (ElemZ Tryd.prog 156 (.nilFunc)) = True := eq_true e156
theorem k157 {K : Prop} : Chk (ElemZ Tryd.prog 157 (.nilFunc)) K = K := Chk_of e157
theorem ke157 : (ElemZ Tryd.prog 157 (.nilFunc)) = True := eq_true e157
theorem k158 {K : Prop} : Chk (ElemZ Tryd.prog 158 (.nilFunc)) K = K := Chk_of e158
theorem ke158 : (ElemZ Tryd.prog 158 (.nilFunc)) = True := eq_true e158
theorem k159 {K : Prop} : Chk (ElemZ Tryd.prog 159 (.nilFunc)) K = K := Chk_of e159
theorem ke159 : (ElemZ Tryd.prog 159 (.nilFunc)) = True := eq_true e159
theorem k160 {K : Prop} : Chk (ElemZ Tryd.prog 160 (.nilFunc)) K = K := Chk_of e160
theorem ke160 : (ElemZ Tryd.prog 160 (.nilFunc)) = True := eq_true e160
theorem k161 {K : Prop} : Chk (ElemZ Tryd.prog 161 (.pointer none)) K = K := Chk_of e161
theorem ke161 : (ElemZ Tryd.prog 161 (.pointer none)) = True := eq_true e161
theorem k162 {K : Prop} : Chk (ElemZ Tryd.prog 162 (.agg #[.pointer none, .slice none 0 0])) K = K := Chk_of e162
theorem ke162 : (ElemZ Tryd.prog 162 (.agg #[.pointer none, .slice none 0 0])) = True := eq_true e162
theorem k163 {K : Prop} : Chk (ElemZ Tryd.prog 163 (.agg #[.pointer none, .slice none 0 0])) K = K := Chk_of e163
theorem ke163 : (ElemZ Tryd.prog 163 (.agg #[.pointer none, .slice none 0 0])) = True := eq_true e163
theorem k164 {K : Prop} : Chk (ElemZ Tryd.prog 164 (.nilIface)) K = K := Chk_of e164
theorem ke164 : (ElemZ Tryd.prog 164 (.nilIface)) = True := eq_true e164
theorem k165 {K : Prop} : Chk (ElemZ Tryd.prog 165 (.nilIface)) K = K := Chk_of e165
theorem ke165 : (ElemZ Tryd.prog 165 (.nilIface)) = True := eq_true e165
theorem k167 {K : Prop} : Chk (ElemZ Tryd.prog 167 (.nilFunc)) K = K := Chk_of e167
theorem ke167 : (ElemZ Tryd.prog 167 (.nilFunc)) = True := eq_true e167
theorem k168 {K : Prop} : Chk (ElemZ Tryd.prog 168 (.nilFunc)) K = K := Chk_of e168
theorem ke168 : (ElemZ Tryd.prog 168 (.nilFunc)) = True := eq_true e168
theorem k169 {K : Prop} : Chk (ElemZ Tryd.prog 169 (.nilFunc)) K = K := Chk_of e169
theorem ke169 : (ElemZ Tryd.prog 169 (.nilFunc)) = True := eq_true e169
theorem k171 {K : Prop} : Chk (ElemZ Tryd.prog 171 (.nilFunc)) K = K := Chk_of e171
theorem ke171 : (ElemZ Tryd.prog 171 (.nilFunc)) = True := eq_true e171
theorem k173 {K : Prop} : Chk (ElemZ Tryd.prog 173 (.nilFunc)) K = K := Chk_of e173
theorem ke173 : (ElemZ Tryd.prog 173 (.nilFunc)) = True := eq_true e173
theorem k174 {K : Prop} : Chk (ElemZ Tryd.prog 174 (.nilFunc)) K = K := Chk_of e174
theorem ke174 : (ElemZ Tryd.prog 174 (.nilFunc)) = True := eq_true e174
theorem k175 {K : Prop} : Chk (ElemZ Tryd.prog 175 (.nilFunc)) K = K := Chk_of e175
theorem ke175 : (ElemZ Tryd.prog 175 (.nilFunc)) = True := eq_true e175
theorem k176 {K : Prop} : Chk (ElemZ Tryd.prog 176 (.nilFunc)) K = K := Chk_of e176
theorem ke176 : (ElemZ Tryd.prog 176 (.nilFunc)) = True := eq_true e176
theorem k177 {K : Prop} : Chk (ElemZ Tryd.prog 177 (.nilFunc)) K = K := Chk_of e177
theorem ke177 : (ElemZ Tryd.prog 177 (.nilFunc)) = True := eq_true e177
theorem k178 {K : Prop} : Chk (ElemZ Tryd.prog 178 (.nilFunc)) K = K := Chk_of e178
theorem ke178 : (ElemZ Tryd.prog 178 (.nilFunc)) = True := eq_true e178
theorem k179 {K : Prop} : Chk (ElemZ Tryd.prog 179 (.nilFunc)) K = K := Chk_of e179
theorem ke179 : (ElemZ Tryd.prog 179 (.nilFunc)) = True := eq_true e179
theorem k180 {K : Prop} : Chk (ElemZ Tryd.prog 180 (.nilFunc)) K = K := Chk_of e180
theorem ke180 : (ElemZ Tryd.prog 180 (.nilFunc)) = True := eq_true e180
theorem k181 {K : Prop} : Chk (ElemZ Tryd.prog 181 (.nilFunc)) K = K := Chk_of e181
theorem ke181 : (ElemZ Tryd.prog 181 (.nilFunc)) = True := eq_true e181
theorem k182 {K : Prop} : Chk (ElemZ Tryd.prog 182 (.nilFunc)) K = K := Chk_of e182
theorem ke182 : (ElemZ Tryd.prog 182 (.nilFunc)) = True := eq_true e182
theorem k183 {K : Prop} : Chk (ElemZ Tryd.prog 183 (.nilFunc)) K = K := Chk_of e183
theorem ke183 : (ElemZ Tryd.prog 183 (.nilFunc)) = True := eq_true e183
theorem k184 {K : Prop} : Chk (ElemZ Tryd.prog 184 (.agg #[.int .i64 0, .int .i64 0, .slice none 0 0])) K = K := Chk_of e184
theorem ke184 : (ElemZ Tryd.prog 184 (.agg #[.int .i64 0, .int .i64 0, .slice none 0 0])) = True := eq_true e184
theorem k185 {K : Prop} : Chk (ElemZ Tryd.prog 185 (.agg #[.int .i64 0, .int .i64 0, .slice none 0 0])) K = K := Chk_of e185
theorem ke185 : (ElemZ Tryd.prog 185 (.agg #[.int .i64 0, .int .i64 0, .slice none 0 0])) = True := eq_true e185
theorem k186 {K : Prop} : Chk (ElemZ Tryd.prog 186 (.nilFunc)) K = K := Chk_of e186
theorem ke186 : (ElemZ Tryd.prog 186 (.nilFunc)) = True := eq_true e186
theorem k187 {K : Prop} : Chk (ElemZ Tryd.prog 187 (.nilFunc)) K = K := Chk_of e187
theorem ke187 : (ElemZ Tryd.prog 187 (.nilFunc)) = True := eq_true e187
theorem k188 {K : Prop} : Chk (ElemZ Tryd.prog 188 (.nilFunc)) K = K := Chk_of e188
theorem ke188 : (ElemZ Tryd.prog 188 (.nilFunc)) = True := eq_true e188
theorem k189 {K : Prop} : Chk (ElemZ Tryd.prog 189 (.nilFunc)) K = K := Chk_of e189
theorem ke189 : (ElemZ Tryd.prog 189 (.nilFunc)) = True := eq_true e189
theorem k190 {K : Prop} : Chk (ElemZ Tryd.prog 190 (.nilFunc)) K = K := Chk_of e190
theorem ke190 : (ElemZ Tryd.prog 190 (.nilFunc)) = True := eq_true e190
theorem k191 {K : Prop} : Chk (ElemZ Tryd.prog 191 (.nilFunc)) K = K := Chk_of e191
theorem ke191 : (ElemZ Tryd.prog 191 (.nilFunc)) = True := eq_true e191
theorem k195 {K : Prop} : Chk (ElemZ Tryd.prog 195 (.nilFunc)) K = K := Chk_of e195
theorem ke195 : (ElemZ Tryd.prog 195 (.nilFunc)) = True := eq_true e195
theorem k196 {K : Prop} : Chk (ElemZ Tryd.prog 196 (.nilFunc)) K = K := Chk_of e196
theorem ke196 : (ElemZ Tryd.prog 196 (.nilFunc)) = True := eq_true e196
theorem k197 {K : Prop} : Chk (ElemZ Tryd.prog 197 (.nilFunc)) K = K := Chk_of e197
theorem ke197 : (ElemZ Tryd.prog 197 (.nilFunc)) = True := eq_true e197
theorem k198 {K : Prop} : Chk (ElemZ Tryd.prog 198 (.pointer none)) K = K := Chk_of e198
theorem ke198 : (ElemZ Tryd.prog 198 (.pointer none)) = True := eq_true e198
theorem k199 {K : Prop} : Chk (ElemZ Tryd.prog 199 (.pointer none)) K = K := Chk_of e199
theorem ke199 : (ElemZ Tryd.prog 199 (.pointer none)) = True := eq_true e199
theorem k200 {K : Prop} : Chk (ElemZ Tryd.prog 200 (.nilFunc)) K = K := Chk_of e200
theorem ke200 : (ElemZ Tryd.prog 200 (.nilFunc)) = True := eq_true e200
theorem k201 {K : Prop} : Chk (ElemZ Tryd.prog 201 (.nilFunc)) K = K := Chk_of e201
theorem ke201 : (ElemZ Tryd.prog 201 (.nilFunc)) = True := eq_true e201
theorem k202 {K : Prop} : Chk (ElemZ Tryd.prog 202 (.nilFunc)) K = K := Chk_of e202
theorem ke202 : (ElemZ Tryd.prog 202 (.nilFunc)) = True := eq_true e202
theorem k203 {K : Prop} : Chk (ElemZ Tryd.prog 203 (.nilFunc)) K = K := Chk_of e203
theorem ke203 : (ElemZ Tryd.prog 203 (.nilFunc)) = True := eq_true e203
theorem k205 {K : Prop} : Chk (ElemZ Tryd.prog 205 (.nilFunc)) K = K := Chk_of e205
theorem ke205 : (ElemZ Tryd.prog 205 (.nilFunc)) = True := eq_true e205
theorem k206 {K : Prop} : Chk (ElemZ Tryd.prog 206 (.nilFunc)) K = K := Chk_of e206
theorem ke206 : (ElemZ Tryd.prog 206 (.nilFunc)) = True := eq_true e206
theorem k207 {K : Prop} : Chk (ElemZ Tryd.prog 207 (.int .u64 0)) K = K := Chk_of e207
theorem ke207 : (ElemZ Tryd.prog 207 (.int .u64 0)) = True := eq_true e207
theorem k209 {K : Prop} : Chk (ElemZ Tryd.prog 209 (.nilFunc)) K = K := Chk_of e209
theorem ke209 : (ElemZ Tryd.prog 209 (.nilFunc)) = True := eq_true e209
theorem k210 {K : Prop} : Chk (ElemZ Tryd.prog 210 (.nilFunc)) K = K := Chk_of e210
theorem ke210 : (ElemZ Tryd.prog 210 (.nilFunc)) = True := eq_true e210
theorem k211 {K : Prop} : Chk (ElemZ Tryd.prog 211 (.nilFunc)) K = K := Chk_of e211
theorem ke211 : (ElemZ Tryd.prog 211 (.nilFunc)) = True := eq_true e211
theorem k212 {K : Prop} : Chk (ElemZ Tryd.prog 212 (.pointer none)) K = K := Chk_of e212
theorem ke212 : (ElemZ Tryd.prog 212 (.pointer none)) = True := eq_true e212
theorem k213 {K : Prop} : Chk (ElemZ Tryd.prog 213 (.nilFunc)) K = K := Chk_of e213
theorem ke213 : (ElemZ Tryd.prog 213 (.nilFunc)) = True := eq_true e213
theorem k214 {K : Prop} : Chk (ElemZ Tryd.prog 214 (.nilFunc)) K = K := Chk_of e214
theorem ke214 : (ElemZ Tryd.prog 214 (.nilFunc)) = True := eq_true e214
theorem k215 {K : Prop} : Chk (ElemZ Tryd.prog 215 (.nilFunc)) K = K := Chk_of e215
theorem ke215 : (ElemZ Tryd.prog 215 (.nilFunc)) = True := eq_true e215
theorem k216 {K : Prop} : Chk (ElemZ Tryd.prog 216 (.nilFunc)) K = K := Chk_of e216
theorem ke216 : (ElemZ Tryd.prog 216 (.nilFunc)) = True := eq_true e216
theorem k217 {K : Prop} : Chk (ElemZ Tryd.prog 217 (.agg #[.int .u8 0, .int .u8 0, .int .u8 0, .int .u8 0, .int .u8 0, .int .u8 0, .int .u8 0, .int .u8 0, .int .u8 0, .int .u8 0, .int .u8 0, .int .u8 0, .int .u8 0, .int .u8 0, .int .u8 0, .int .u8 0, .int .u8 0, .int .u8 0, .int .u8 0, .int .u8 0, .int .u8 0, .int .u8 0, .int .u8 0, .int .u8 0])) K = K := Chk_of e217
theorem ke217 : (ElemZ Tryd.prog 217 (.agg #[.int .u8 0, .int .u8 0, .int .u8 0, .int .u8 0, .int .u8 0, .int .u8 0, .int .u8 0, .int .u8 0, .int .u8 0, .int .u8 0, .int .u8 0, .int .u8 0, .int .u8 0, .int .u8 0, .int .u8 0, .int .u8 0, .int .u8 0, .int .u8 0, .int .u8 0, .int .u8 0, .int .u8 0, .int .u8 0, .int .u8 0, .int .u8 0])) = True := eq_true e217
theorem k218 {K : Prop} : Chk (ElemZ Tryd.prog 218 (.int .u64 0)) K = K := Chk_of e218
theorem ke218 : (ElemZ Tryd.prog 218 (.int .u64 0)) = True := eq_true e218
theorem k219 {K : Prop} : Chk (ElemZ Tryd.prog 219 (.nilFunc)) K = K := Chk_of e219
theorem ke219 : (ElemZ Tryd.prog 219 (.nilFunc)) = True := eq_true e219
theorem k220 {K : Prop} : Chk (ElemZ Tryd.prog 220 (.nilFunc)) K = K := Chk_of e220
theorem ke220 : (ElemZ Tryd.prog 220 (.nilFunc)) = True := eq_true e220
theorem k222 {K : Prop} : Chk (ElemZ Tryd.prog 222 (.nilFunc)) K = K := Chk_of e222
theorem ke222 : (ElemZ Tryd.prog 222 (.nilFunc)) = True := eq_true e222
theorem k223 {K : Prop} : Chk (ElemZ Tryd.prog 223 (.nilFunc)) K = K := Chk_of e223
theorem ke223 : (ElemZ Tryd.prog 223 (.nilFunc)) = True := eq_true e223
theorem k224 {K : Prop} : Chk (ElemZ Tryd.prog 224 (.nilFunc)) K = K := Chk_of e224
theorem ke224 : (ElemZ Tryd.prog 224 (.nilFunc)) = True := eq_true e224
theorem k225 {K : Prop} : Chk (ElemZ Tryd.prog 225 (.int .u32 0)) K = K := Chk_of e225
theorem ke225 : (ElemZ Tryd.prog 225 (.int .u32 0)) = True := eq_true e225
theorem k227 {K : Prop} : Chk (ElemZ Tryd.prog 227 (.nilFunc)) K = K := Chk_of e227
theorem ke227 : (ElemZ Tryd.prog 227 (.nilFunc)) = True := eq_true e227
theorem k229 {K : Prop} : Chk (ElemZ Tryd.prog 229 (.agg #[.int .u8 0, .int .u8 0])) K = K := Chk_of e229
theorem ke229 : (ElemZ Tryd.prog 229 (.agg #[.int .u8 0, .int .u8 0])) = True := eq_true e229
theorem k230 {K : Prop} : Chk (ElemZ Tryd.prog 230 (.agg #[.int .u8 0, .int .u8 0])) K = K := Chk_of e230
theorem ke230 : (ElemZ Tryd.prog 230 (.agg #[.int .u8 0, .int .u8 0])) = True := eq_true e230
theorem k231 {K : Prop} : Chk (ElemZ Tryd.prog 231 (.agg #[.int .u8 0, .int .u8 0, .int .u8 0, .int .u8 0, .int .u8 0, .int .u8 0, .int .u8 0, .int .u8 0, .int .u8 0, .int .u8 0, .int .u8 0, .int .u8 0, .int .u8 0, .int .u8 0, .int .u8 0, .int .u8 0, .int .u8 0, .int .u8 0, .int .u8 0, .int .u8 0, .int .u8 0, .int .u8 0, .int .u8 0, .int .u8 0, .int .u8 0, .int .u8 0, .int .u8 0, .int .u8 0, .int .u8 0, .int .u8 0, .int .u8 0, .int .u8 0])) K = K := Chk_of e231
theorem ke231 : (ElemZ Tryd.prog 231 (.agg #[.int .u8 0, .int .u8 0, .int .u8 0, .int .u8 0, .int .u8 0, .int .u8 0, .int .u8 0, .int .u8 0, .int .u8 0, .int .u8 0, .int .u8 0, .int .u8 0, .int .u8 0, .int .u8 0, .int .u8 0, .int .u8 0, .int .u8 0, .int .u8 0, .int .u8 0, .int .u8 0, .int .u8 0, .int .u8 0, .int .u8 0, .int .u8 0, .int .u8 0, .int .u8 0, .int .u8 0, .int .u8 0, .int .u8 0, .int .u8 0, .int .u8 0, .int .u8 0])) = True := eq_true e231
theorem k232 {K : Prop} : Chk (ElemZ Tryd.prog 232 (.agg #[.int .u64 0, .int .u64 0, .int .u64 0, .int .u64 0, .int .u64 0, .int .u64 0, .int .u64 0, .int .u64 0, .int .u64 0, .int .u64 0, .int .u64 0, .int .u64 0, .int .u64 0, .int .u64 0, .int .u64 0, .int .u64 0, .int .u64 0, .int .u64 0, .int .u64 0, .int .u64 0])) K = K := Chk_of e232
theorem ke232 : (ElemZ Tryd.prog 232 (.agg #[.int .u64 0, .int .u64 0, .int .u64 0, .int .u64 0, .int .u64 0, .int .u64 0, .int .u64 0, .int .u64 0, .int .u64 0, .int .u64 0, .int .u64 0, .int .u64 0, .int .u64 0, .int .u64 0, .int .u64 0, .int .u64 0, .int .u64 0, .int .u64 0, .int .u64 0, .int .u64 0])) = True := eq_true e232
theorem k234 {K : Prop} : Chk (ElemZ Tryd.prog 234 (.nilFunc)) K = K := Chk_of e234
theorem ke234 : (ElemZ Tryd.prog 234 (.nilFunc)) = True := eq_true e234
theorem k235 {K : Prop} : Chk (ElemZ Tryd.prog 235 (.nilFunc)) K = K := Chk_of e235
theorem ke235 : (ElemZ Tryd.prog 235 (.nilFunc)) = True := eq_true e235
theorem k236 {K : Prop} : Chk (ElemZ Tryd.prog 236 (.agg #[.int .u8 0, .int .u8 0, .int .u8 0, .int .u8 0, .int .u8 0, .int .u8 0, .int .u8 0, .int .u8 0, .int .u8 0, .int .u8 0, .int .u8 0, .int .u8 0, .int .u8 0, .int .u8 0, .int .u8 0, .int .u8 0, .int .u8 0, .int .u8 0, .int .u8 0, .int .u8 0, .int .u8 0, .int .u8 0, .int .u8 0, .int .u8 0, .int .u8 0, .int .u8 0, .int .u8 0, .int .u8 0, .int .u8 0, .int .u8 0, .int .u8 0, .int .u8 0])) K = K := Chk_of e236
theorem ke236 : (ElemZ Tryd.prog 236 (.agg #[.int .u8 0, .int .u8 0, .int .u8 0, .int .u8 0, .int .u8 0, .int .u8 0, .int .u8 0, .int .u8 0, .int .u8 0, .int .u8 0, .int .u8 0, .int .u8 0, .int .u8 0, .int .u8 0, .int .u8 0, .int .u8 0, .int .u8 0, .int .u8 0, .int .u8 0, .int .u8 0, .int .u8 0, .int .u8 0, .int .u8 0, .int .u8 0, .int .u8 0, .int .u8 0, .int .u8 0, .int .u8 0, .int .u8 0, .int .u8 0, .int .u8 0, .int .u8 0])) = True := eq_true e236
theorem k238 {K : Prop} : Chk (ElemZ Tryd.prog 238 (.agg #[.pointer none, .pointer none, .pointer none, .string ⟨#[]⟩])) K = K := Chk_of e238
theorem ke238 : (ElemZ Tryd.prog 238 (.agg #[.pointer none, .pointer none, .pointer none, .string ⟨#[]⟩])) = True := eq_true e238
theorem k239 {K : Prop} : Chk (ElemZ Tryd.prog 239 (.agg #[.pointer none, .pointer none, .pointer none, .string ⟨#[]⟩])) K = K := Chk_of e239
theorem ke239 : (ElemZ Tryd.prog 239 (.agg #[.pointer none, .pointer none, .pointer none, .string ⟨#[]⟩])) = True := eq_true e239
theorem k243 {K : Prop} : Chk (ElemZ Tryd.prog 243 (.nilFunc)) K = K := Chk_of e243
theorem ke243 : (ElemZ Tryd.prog 243 (.nilFunc)) = True := eq_true e243
theorem k244 {K : Prop} : Chk (ElemZ Tryd.prog 244 (.int .u8 0)) K = K := Chk_of e244
theorem ke244 : (ElemZ Tryd.prog 244 (.int .u8 0)) = True := eq_true e244
theorem k245 {K : Prop} : Chk (ElemZ Tryd.prog 245 (.int .u8 0)) K = K := Chk_of e245
theorem ke245 : (ElemZ Tryd.prog 245 (.int .u8 0)) = True := eq_true e245
theorem k246 {K : Prop} : Chk (ElemZ Tryd.prog 246 (.nilFunc)) K = K := Chk_of e246
theorem ke246 : (ElemZ Tryd.prog 246 (.nilFunc)) = True := eq_true e246
theorem k247 {K : Prop} : Chk (ElemZ Tryd.prog 247 (.int .i32 0)) K = K := Chk_of e247
theorem ke247 : (ElemZ Tryd.prog 247 (.int .i32 0)) = True := eq_true e247
theorem k248 {K : Prop} : Chk (ElemZ Tryd.prog 248 (.int .i32 0)) K = K := Chk_of e248
theorem ke248 : (ElemZ Tryd.prog 248 (.int .i32 0)) = True := eq_true e248
theorem k249 {K : Prop} : Chk (ElemZ Tryd.prog 249 (.agg #[.int .u64 0, .int .u64 0, .int .u32 0, .int .u8 0, .int .u8 0, .int .u8 0, .int .u8 0, .nilFunc, .pointer none, .int .i32 0, .int .i32 0])) K = K := Chk_of e249
theorem ke249 : (ElemZ Tryd.prog 249 (.agg #[.int .u64 0, .int .u64 0, .int .u32 0, .int .u8 0, .int .u8 0, .int .u8 0, .int .u8 0, .nilFunc, .pointer none, .int .i32 0, .int .i32 0])) = True := eq_true e249
theorem k250 {K : Prop} : Chk (ElemZ Tryd.prog 250 (.agg #[.int .u64 0, .int .u64 0, .int .u32 0, .int .u8 0, .int .u8 0, .int .u8 0, .int .u8 0, .nilFunc, .pointer none, .int .i32 0, .int .i32 0])) K = K := Chk_of e250
theorem ke250 : (ElemZ Tryd.prog 250 (.agg #[.int .u64 0, .int .u64 0, .int .u32 0, .int .u8 0, .int .u8 0, .int .u8 0, .int .u8 0, .nilFunc, .pointer none, .int .i32 0, .int .i32 0])) = True := eq_true e250
theorem k251 {K : Prop} : Chk (ElemZ Tryd.prog 251 (.nilFunc)) K = K := Chk_of e251
theorem ke251 : (ElemZ Tryd.prog 251 (.nilFunc)) = True := eq_true e251
theorem kf7 {K : Prop} : Chk (fieldsOkT Tryd.prog 7) K = K := Chk_of f7
theorem kt7 : (fieldsOkT Tryd.prog 7) = True := eq_true f7
theorem kf8 {K : Prop} : Chk (fieldsOkT Tryd.prog 8) K = K := Chk_of f8
theorem kt8 : (fieldsOkT Tryd.prog 8) = True := eq_true f8
theorem kf13 {K : Prop} : Chk (fieldsOkT Tryd.prog 13) K = K := Chk_of f13
theorem kt13 : (fieldsOkT Tryd.prog 13) = True := eq_true f13
theorem kf14 {K : Prop} : Chk (fieldsOkT Tryd.prog 14) K = K := Chk_of f14
theorem kt14 : (fieldsOkT Tryd.prog 14) = True := eq_true f14
theorem kf18 {K : Prop} : Chk (fieldsOkT Tryd.prog 18) K = K := Chk_of f18
theorem kt18 : (fieldsOkT Tryd.prog 18) = True := eq_true f18
theorem kf19 {K : Prop} : Chk (fieldsOkT Tryd.prog 19) K = K := Chk_of f19
theorem kt19 : (fieldsOkT Tryd.prog 19) = True := eq_true f19
theorem kf26 {K : Prop} : Chk (fieldsOkT Tryd.prog 26) K = K := Chk_of f26
theorem kt26 : (fieldsOkT Tryd.prog 26) = True := eq_true f26
theorem kf27 {K : Prop} : Chk (fieldsOkT Tryd.prog 27) K = K := Chk_of f27
theorem kt27 : (fieldsOkT Tryd.prog 27) = True := eq_true f27
theorem kf29 {K : Prop} : Chk (fieldsOkT Tryd.prog 29) K = K := Chk_of f29
theorem kt29 : (fieldsOkT Tryd.prog 29) = True := eq_true f29
theorem kf30 {K : Prop} : Chk (fieldsOkT Tryd.prog 30) K = K := Chk_of f30
theorem kt30 : (fieldsOkT Tryd.prog 30) = True := eq_true f30
theorem kf66 {K : Prop} : Chk (fieldsOkT Tryd.prog 66) K = K := Chk_of f66
theorem kt66 : (fieldsOkT Tryd.prog 66) = True := eq_true f66
theorem kf67 {K : Prop} : Chk (fieldsOkT Tryd.prog 67) K = K := Chk_of f67
theorem kt67 : (fieldsOkT Tryd.prog 67) = True := eq_true f67
theorem kf104 {K : Prop} : Chk (fieldsOkT Tryd.prog 104) K = K := Chk_of f104
theorem kt104 : (fieldsOkT Tryd.prog 104) = True := eq_true f104
theorem kf105 {K : Prop} : Chk (fieldsOkT Tryd.prog 105) K = K := Chk_of f105
theorem kt105 : (fieldsOkT Tryd.prog 105) = True := eq_true f105
theorem kf116 {K : Prop} : Chk (fieldsOkT Tryd.prog 116) K = K := Chk_of f116
theorem kt116 : (fieldsOkT Tryd.prog 116) = True := eq_true f116
theorem kf117 {K : Prop} : Chk (fieldsOkT Tryd.prog 117) K = K := Chk_of f117
theorem kt117 : (fieldsOkT Tryd.prog 117) = True := eq_true f117
theorem kf140 {K : Prop} : Chk (fieldsOkT Tryd.prog 140) K = K := Chk_of f140
theorem kt140 : (fieldsOkT Tryd.prog 140) = True := eq_true f140
theorem kf141 {K : Prop} : Chk (fieldsOkT Tryd.prog 141) K = K := Chk_of f141
theorem kt141 : (fieldsOkT Tryd.prog 141) = True := eq_true f141
theorem kf146 {K : Prop} : Chk (fieldsOkT Tryd.prog 146) K = K := Chk_of f146
theorem kt146 : (fieldsOkT Tryd.prog 146) = True := eq_true f146
theorem kf147 {K : Prop} : Chk (fieldsOkT Tryd.prog 147) K = K := Chk_of f147
theorem kt147 : (fieldsOkT Tryd.prog 147) = True := eq_true f147
theorem kf162 {K : Prop} : Chk (fieldsOkT Tryd.prog 162) K = K := Chk_of f162
theorem kt162 : (fieldsOkT Tryd.prog 162) = True := eq_true f162
theorem kf163 {K : Prop} : Chk (fieldsOkT Tryd.prog 163) K = K := Chk_of f163
theorem kt163 : (fieldsOkT Tryd.prog 163) = True := eq_true f163
theorem kf184 {K : Prop} : Chk (fieldsOkT Tryd.prog 184) K = K := Chk_of f184
theorem kt184 : (fieldsOkT Tryd.prog 184) = True := eq_true f184
theorem kf185 {K : Prop} : Chk (fieldsOkT Tryd.prog 185) K = K := Chk_of f185
theorem kt185 : (fieldsOkT Tryd.prog 185) = True := eq_true f185
theorem kf217 {K : Prop} : Chk (fieldsOkT Tryd.prog 217) K = K := Chk_of f217
theorem kt217 : (fieldsOkT Tryd.prog 217) = True := eq_true f217
theorem kf229 {K : Prop} : Chk (fieldsOkT Tryd.prog 229) K = K := Chk_of f229
theorem kt229 : (fieldsOkT Tryd.prog 229) = True := eq_true f229
theorem kf230 {K : Prop} : Chk (fieldsOkT Tryd.prog 230) K = K := Chk_of f230
theorem kt230 : (fieldsOkT Tryd.prog 230) = True := eq_true f230
theorem kf231 {K : Prop} : Chk (fieldsOkT Tryd.prog 231) K = K := Chk_of f231
theorem kt231 : (fieldsOkT Tryd.prog 231) = True := eq_true f231
theorem kf232 {K : Prop} : Chk (fieldsOkT Tryd.prog 232) K = K := Chk_of f232
theorem kt232 : (fieldsOkT Tryd.prog 232) = True := eq_true f232
theorem kf236 {K : Prop} : Chk (fieldsOkT Tryd.prog 236) K = K := Chk_of f236
theorem kt236 : (fieldsOkT Tryd.prog 236) = True := eq_true f236
theorem kf238 {K : Prop} : Chk (fieldsOkT Tryd.prog 238) K = K := Chk_of f238
theorem kt238 : (fieldsOkT Tryd.prog 238) = True := eq_true f238
theorem kf239 {K : Prop} : Chk (fieldsOkT Tryd.prog 239) K = K := Chk_of f239
theorem kt239 : (fieldsOkT Tryd.prog 239) = True := eq_true f239
theorem kf249 {K : Prop} : Chk (fieldsOkT Tryd.prog 249) K = K := Chk_of f249
theorem kt249 : (fieldsOkT Tryd.prog 249) = True := eq_true f249
theorem kf250 {K : Prop} : Chk (fieldsOkT Tryd.prog 250) K = K := Chk_of f250
theorem kt250 : (fieldsOkT Tryd.prog 250) = True := eq_true f250
theorem ky3 : Maps.Keyed Tryd.prog 3 = True := eq_true (Maps.int_keyed Tryd.underlying3)
theorem kt_3 (n : Int) : KeyT Tryd.prog 3 (.int .i64 n) = True := eq_true (.int Tryd.underlying3 n)
theorem km_3 (l : List Int) : KeysT Tryd.prog 3 (l.map (.int .i64)) = True := eq_true (KeysT_map (fun n => .int Tryd.underlying3 n) l)
theorem ky9 : Maps.Keyed Tryd.prog 9 = True := eq_true (Maps.string_keyed Tryd.underlying9)
theorem kt_9 (s : List UInt8) : KeyT Tryd.prog 9 (.str s) = True := eq_true (.str Tryd.underlying9 s)
theorem km_9 (l : List (List UInt8)) : KeysT Tryd.prog 9 (l.map .str) = True := eq_true (KeysT_map (fun n => .str Tryd.underlying9 n) l)
attribute [go_sem] kq105 kqt105 kq117 kqt117 kq147 kqt147 Tryd.underlying0 Tryd.underlying1 Tryd.underlying2 Tryd.underlying3 Tryd.underlying4 Tryd.underlying5
attribute [go_sem] Tryd.underlying6 Tryd.underlying7 Tryd.underlying8 Tryd.underlying9 Tryd.underlying10 Tryd.underlying11 Tryd.underlying12 Tryd.underlying13 Tryd.underlying14 Tryd.underlying15 Tryd.underlying16 Tryd.underlying17
attribute [go_sem] Tryd.underlying18 Tryd.underlying19 Tryd.underlying20 Tryd.underlying21 Tryd.underlying22 Tryd.underlying23 Tryd.underlying24 Tryd.underlying25 Tryd.underlying26 Tryd.underlying27 Tryd.underlying28 Tryd.underlying29
attribute [go_sem] Tryd.underlying30 Tryd.underlying31 Tryd.underlying32 Tryd.underlying33 Tryd.underlying34 Tryd.underlying35 Tryd.underlying36 Tryd.underlying37 Tryd.underlying38 Tryd.underlying39 Tryd.underlying40 Tryd.underlying41
attribute [go_sem] Tryd.underlying42 Tryd.underlying43 Tryd.underlying44 Tryd.underlying45 Tryd.underlying46 Tryd.underlying47 Tryd.underlying48 Tryd.underlying49 Tryd.underlying50 Tryd.underlying51 Tryd.underlying52 Tryd.underlying53
attribute [go_sem] Tryd.underlying54 Tryd.underlying55 Tryd.underlying56 Tryd.underlying57 Tryd.underlying58 Tryd.underlying59 Tryd.underlying60 Tryd.underlying61 Tryd.underlying62 Tryd.underlying63 Tryd.underlying64 Tryd.underlying65
attribute [go_sem] Tryd.underlying66 Tryd.underlying67 Tryd.underlying68 Tryd.underlying69 Tryd.underlying70 Tryd.underlying71 Tryd.underlying72 Tryd.underlying73 Tryd.underlying74 Tryd.underlying75 Tryd.underlying76 Tryd.underlying77
attribute [go_sem] Tryd.underlying78 Tryd.underlying79 Tryd.underlying80 Tryd.underlying81 Tryd.underlying82 Tryd.underlying83 Tryd.underlying84 Tryd.underlying85 Tryd.underlying86 Tryd.underlying87 Tryd.underlying88 Tryd.underlying89
attribute [go_sem] Tryd.underlying90 Tryd.underlying91 Tryd.underlying92 Tryd.underlying93 Tryd.underlying94 Tryd.underlying95 Tryd.underlying96 Tryd.underlying97 Tryd.underlying98 Tryd.underlying99 Tryd.underlying100 Tryd.underlying101
attribute [go_sem] Tryd.underlying102 Tryd.underlying103 Tryd.underlying104 Tryd.underlying105 Tryd.underlying106 Tryd.underlying107 Tryd.underlying108 Tryd.underlying109 Tryd.underlying110 Tryd.underlying111 Tryd.underlying112 Tryd.underlying113
attribute [go_sem] Tryd.underlying114 Tryd.underlying115 Tryd.underlying116 Tryd.underlying117 Tryd.underlying118 Tryd.underlying119 Tryd.underlying120 Tryd.underlying121 Tryd.underlying122 Tryd.underlying123 Tryd.underlying124 Tryd.underlying125
attribute [go_sem] Tryd.underlying126 Tryd.underlying127 Tryd.underlying128 Tryd.underlying129 Tryd.underlying130 Tryd.underlying131 Tryd.underlying132 Tryd.underlying133 Tryd.underlying134 Tryd.underlying135 Tryd.underlying136 Tryd.underlying137
attribute [go_sem] Tryd.underlying138 Tryd.underlying139 Tryd.underlying140 Tryd.underlying141 Tryd.underlying142 Tryd.underlying143 Tryd.underlying144 Tryd.underlying145 Tryd.underlying146 Tryd.underlying147 Tryd.underlying148 Tryd.underlying149
attribute [go_sem] Tryd.underlying150 Tryd.underlying151 Tryd.underlying152 Tryd.underlying153 Tryd.underlying154 Tryd.underlying155 Tryd.underlying156 Tryd.underlying157 Tryd.underlying158 Tryd.underlying159 Tryd.underlying160 Tryd.underlying161
attribute [go_sem] Tryd.underlying162 Tryd.underlying163 Tryd.underlying164 Tryd.underlying165 Tryd.underlying166 Tryd.underlying167 Tryd.underlying168 Tryd.underlying169 Tryd.underlying170 Tryd.underlying171 Tryd.underlying172 Tryd.underlying173
attribute [go_sem] Tryd.underlying174 Tryd.underlying175 Tryd.underlying176 Tryd.underlying177 Tryd.underlying178 Tryd.underlying179 Tryd.underlying180 Tryd.underlying181 Tryd.underlying182 Tryd.underlying183 Tryd.underlying184 Tryd.underlying185
attribute [go_sem] Tryd.underlying186 Tryd.underlying187 Tryd.underlying188 Tryd.underlying189 Tryd.underlying190 Tryd.underlying191 Tryd.underlying192 Tryd.underlying193 Tryd.underlying194 Tryd.underlying195 Tryd.underlying196 Tryd.underlying197
attribute [go_sem] Tryd.underlying198 Tryd.underlying199 Tryd.underlying200 Tryd.underlying201 Tryd.underlying202 Tryd.underlying203 Tryd.underlying204 Tryd.underlying205 Tryd.underlying206 Tryd.underlying207 Tryd.underlying208 Tryd.underlying209
attribute [go_sem] Tryd.underlying210 Tryd.underlying211 Tryd.underlying212 Tryd.underlying213 Tryd.underlying214 Tryd.underlying215 Tryd.underlying216 Tryd.underlying217 Tryd.underlying218 Tryd.underlying219 Tryd.underlying220 Tryd.underlying221
attribute [go_sem] Tryd.underlying222 Tryd.underlying223 Tryd.underlying224 Tryd.underlying225 Tryd.underlying226 Tryd.underlying227 Tryd.underlying228 Tryd.underlying229 Tryd.underlying230 Tryd.underlying231 Tryd.underlying232 Tryd.underlying233
attribute [go_sem] Tryd.underlying234 Tryd.underlying235 Tryd.underlying236 Tryd.underlying237 Tryd.underlying238 Tryd.underlying239 Tryd.underlying240 Tryd.underlying241 Tryd.underlying242 Tryd.underlying243 Tryd.underlying244 Tryd.underlying245
attribute [go_sem] Tryd.underlying246 Tryd.underlying247 Tryd.underlying248 Tryd.underlying249 Tryd.underlying250 Tryd.underlying251 k1 ke1 z1 c1 k2 ke2
attribute [go_sem] z2 c2 k3 ke3 z3 c3 k4 ke4 z4 c4 k5 ke5
attribute [go_sem] z5 c5 k6 ke6 z6 c6 k7 ke7 z7 c7 k8 ke8
attribute [go_sem] z8 c8 k9 ke9 z9 c9 k10 ke10 z10 c10 k11 ke11
attribute [go_sem] z11 c11 k12 ke12 z12 c12 k13 ke13 z13 c13 k14 ke14
attribute [go_sem] z14 c14 k15 ke15 z15 c15 k16 ke16 z16 c16 k17 ke17
attribute [go_sem] z17 c17 k18 ke18 z18 c18 k19 ke19 z19 c19 k20 ke20
attribute [go_sem] z20 c20 k21 ke21 z21 c21 k22 ke22 z22 c22 k23 ke23
attribute [go_sem] z23 c23 k24 ke24 z24 c24 k25 ke25 z25 c25 k26 ke26
attribute [go_sem] z26 c26 k27 ke27 z27 c27 k28 ke28 z28 c28 k29 ke29
attribute [go_sem] z29 c29 k30 ke30 z30 c30 k31 ke31 z31 c31 k32 ke32
attribute [go_sem] z32 c32 k34 ke34 z34 c34 k35 ke35 z35 c35 k36 ke36
attribute [go_sem] z36 c36 k37 ke37 z37 c37 k38 ke38 z38 c38 k39 ke39
attribute [go_sem] z39 c39 k40 ke40 z40 c40 k42 ke42 z42 c42 k43 ke43
attribute [go_sem] z43 c43 k44 ke44 z44 c44 k46 ke46 z46 c46 k47 ke47
attribute [go_sem] z47 c47 k48 ke48 z48 c48 k49 ke49 z49 c49 k50 ke50
attribute [go_sem] z50 c50 k52 ke52 z52 c52 k54 ke54 z54 c54 k55 ke55
attribute [go_sem] z55 c55 k56 ke56 z56 c56 k57 ke57 z57 c57 k58 ke58
attribute [go_sem] z58 c58 k59 ke59 z59 c59 k61 ke61 z61 c61 k62 ke62
attribute [go_sem] z62 c62 k63 ke63 z63 c63 k64 ke64 z64 c64 k65 ke65
attribute [go_sem] z65 c65 k66 ke66 z66 c66 k67 ke67 z67 c67 k68 ke68
attribute [go_sem] z68 c68 k70 ke70 z70 c70 k71 ke71 z71 c71 k73 ke73
attribute [go_sem] z73 c73 k74 ke74 z74 c74 k75 ke75 z75 c75 k76 ke76
attribute [go_sem] z76 c76 k77 ke77 z77 c77 k79 ke79 z79 c79 k80 ke80
attribute [go_sem] z80 c80 k81 ke81 z81 c81 k82 ke82 z82 c82 k83 ke83
attribute [go_sem] z83 c83 k84 ke84 z84 c84 k85 ke85 z85 c85 k86 ke86
attribute [go_sem] z86 c86 k87 ke87 z87 c87 k88 ke88 z88 c88 k89 ke89
attribute [go_sem] z89 c89 k91 ke91 z91 c91 k92 ke92 z92 c92 k93 ke93
attribute [go_sem] z93 c93 k94 ke94 z94 c94 k95 ke95 z95 c95 k96 ke96
attribute [go_sem] z96 c96 k98 ke98 z98 c98 k99 ke99 z99 c99 k100 ke100
attribute [go_sem] z100 c100 k102 ke102 z102 c102 k103 ke103 z103 c103 k104 ke104
attribute [go_sem] z104 c104 k105 ke105 z105 c105 k106 ke106 z106 c106 k107 ke107
attribute [go_sem] z107 c107 k108 ke108 z108 c108 k109 ke109 z109 c109 k110 ke110
attribute [go_sem] z110 c110 k111 ke111 z111 c111 k112 ke112 z112 c112 k113 ke113
attribute [go_sem] z113 c113 k114 ke114 z114 c114 k115 ke115 z115 c115 k116 ke116
attribute [go_sem] z116 c116 k117 ke117 z117 c117 k118 ke118 z118 c118 k119 ke119
attribute [go_sem] z119 c119 k120 ke120 z120 c120 k121 ke121 z121 c121 k122 ke122
attribute [go_sem] z122 c122 k123 ke123 z123 c123 k124 ke124 z124 c124 k125 ke125
attribute [go_sem] z125 c125 k126 ke126 z126 c126 k127 ke127 z127 c127 k128 ke128
attribute [go_sem] z128 c128 k129 ke129 z129 c129 k130 ke130 z130 c130 k131 ke131
attribute [go_sem] z131 c131 k132 ke132 z132 c132 k133 ke133 z133 c133 k134 ke134
attribute [go_sem] z134 c134 k135 ke135 z135 c135 k136 ke136 z136 c136 k137 ke137
attribute [go_sem] z137 c137 k138 ke138 z138 c138 k139 ke139 z139 c139 k140 ke140
attribute [go_sem] z140 c140 k141 ke141 z141 c141 k142 ke142 z142 c142 k143 ke143
attribute [go_sem] z143 c143 k144 ke144 z144 c144 k145 ke145 z145 c145 k146 ke146
attribute [go_sem] z146 c146 k147 ke147 z147 c147 k148 ke148 z148 c148 k149 ke149
attribute [go_sem] z149 c149 k152 ke152 z152 c152 k153 ke153 z153 c153 k154 ke154
attribute [go_sem] z154 c154 k155 ke155 z155 c155 k156 ke156 z156 c156 k157 ke157
attribute [go_sem] z157 c157 k158 ke158 z158 c158 k159 ke159 z159 c159 k160 ke160
attribute [go_sem] z160 c160 k161 ke161 z161 c161 k162 ke162 z162 c162 k163 ke163
attribute [go_sem] z163 c163 k164 ke164 z164 c164 k165 ke165 z165 c165 k167 ke167
attribute [go_sem] z167 c167 k168 ke168 z168 c168 k169 ke169 z169 c169 k171 ke171
attribute [go_sem] z171 c171 k173 ke173 z173 c173 k174 ke174 z174 c174 k175 ke175
attribute [go_sem] z175 c175 k176 ke176 z176 c176 k177 ke177 z177 c177 k178 ke178
attribute [go_sem] z178 c178 k179 ke179 z179 c179 k180 ke180 z180 c180 k181 ke181
attribute [go_sem] z181 c181 k182 ke182 z182 c182 k183 ke183 z183 c183 k184 ke184
attribute [go_sem] z184 c184 k185 ke185 z185 c185 k186 ke186 z186 c186 k187 ke187
attribute [go_sem] z187 c187 k188 ke188 z188 c188 k189 ke189 z189 c189 k190 ke190
attribute [go_sem] z190 c190 k191 ke191 z191 c191 k195 ke195 z195 c195 k196 ke196
attribute [go_sem] z196 c196 k197 ke197 z197 c197 k198 ke198 z198 c198 k199 ke199
attribute [go_sem] z199 c199 k200 ke200 z200 c200 k201 ke201 z201 c201 k202 ke202
attribute [go_sem] z202 c202 k203 ke203 z203 c203 k205 ke205 z205 c205 k206 ke206
attribute [go_sem] z206 c206 k207 ke207 z207 c207 k209 ke209 z209 c209 k210 ke210
attribute [go_sem] z210 c210 k211 ke211 z211 c211 k212 ke212 z212 c212 k213 ke213
attribute [go_sem] z213 c213 k214 ke214 z214 c214 k215 ke215 z215 c215 k216 ke216
attribute [go_sem] z216 c216 k217 ke217 z217 c217 k218 ke218 z218 c218 k219 ke219
attribute [go_sem] z219 c219 k220 ke220 z220 c220 k222 ke222 z222 c222 k223 ke223
attribute [go_sem] z223 c223 k224 ke224 z224 c224 k225 ke225 z225 c225 k227 ke227
attribute [go_sem] z227 c227 k229 ke229 z229 c229 k230 ke230 z230 c230 k231 ke231
attribute [go_sem] z231 c231 k232 ke232 z232 c232 k234 ke234 z234 c234 k235 ke235
attribute [go_sem] z235 c235 k236 ke236 z236 c236 k238 ke238 z238 c238 k239 ke239
attribute [go_sem] z239 c239 k243 ke243 z243 c243 k244 ke244 z244 c244 k245 ke245
attribute [go_sem] z245 c245 k246 ke246 z246 c246 k247 ke247 z247 c247 k248 ke248
attribute [go_sem] z248 c248 k249 ke249 z249 c249 k250 ke250 z250 c250 k251 ke251
attribute [go_sem] z251 c251 kf7 kt7 kf8 kt8 kf13 kt13 kf14 kt14 kf18 kt18
attribute [go_sem] kf19 kt19 kf26 kt26 kf27 kt27 kf29 kt29 kf30 kt30 kf66 kt66
attribute [go_sem] kf67 kt67 kf104 kt104 kf105 kt105 kf116 kt116 kf117 kt117 kf140 kt140
attribute [go_sem] kf141 kt141 kf146 kt146 kf147 kt147 kf162 kt162 kf163 kt163 kf184 kt184
attribute [go_sem] kf185 kt185 kf217 kt217 kf229 kt229 kf230 kt230 kf231 kt231 kf232 kt232
attribute [go_sem] kf236 kt236 kf238 kt238 kf239 kt239 kf249 kt249 kf250 kt250 ky3 kt_3
attribute [go_sem] km_3 ky9 kt_9 km_9
end Go.Fv.S
