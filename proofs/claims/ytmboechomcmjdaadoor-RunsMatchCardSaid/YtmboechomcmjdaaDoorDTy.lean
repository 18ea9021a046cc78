/- Facts about the program's types: each shown by reckoning it out. -/
import Derived.Test.YtmboechomcmjdaaDoorFvSet
import Derived.Test.YtmboechomcmjdaaDoorProg
namespace Go.Fv.D
open Go Go.Proofs
theorem e1 : ElemZ Tryd.prog 1 (.nilFunc) := .of (by kernel_rfl) (by kernel_rfl)
theorem z1 : zeroOf Tryd.prog 1 = some (.nilFunc) := e1.zero
theorem c1 : Tryd.prog.cellsOf 1 = 1 := e1.cellsOf
theorem e2 : ElemZ Tryd.prog 2 (.int .i64 0) := .of (by kernel_rfl) (by kernel_rfl)
theorem z2 : zeroOf Tryd.prog 2 = some (.int .i64 0) := e2.zero
theorem c2 : Tryd.prog.cellsOf 2 = 1 := e2.cellsOf
theorem e3 : ElemZ Tryd.prog 3 (.int .i64 0) := .of (by kernel_rfl) (by kernel_rfl)
theorem z3 : zeroOf Tryd.prog 3 = some (.int .i64 0) := e3.zero
theorem c3 : Tryd.prog.cellsOf 3 = 1 := e3.cellsOf
theorem e4 : ElemZ Tryd.prog 4 (.bool false) := .of (by kernel_rfl) (by kernel_rfl)
theorem z4 : zeroOf Tryd.prog 4 = some (.bool false) := e4.zero
theorem c4 : Tryd.prog.cellsOf 4 = 1 := e4.cellsOf
theorem e5 : ElemZ Tryd.prog 5 (.int .u8 0) := .of (by kernel_rfl) (by kernel_rfl)
theorem z5 : zeroOf Tryd.prog 5 = some (.int .u8 0) := e5.zero
theorem c5 : Tryd.prog.cellsOf 5 = 1 := e5.cellsOf
theorem e6 : ElemZ Tryd.prog 6 (.int .u8 0) := .of (by kernel_rfl) (by kernel_rfl)
theorem z6 : zeroOf Tryd.prog 6 = some (.int .u8 0) := e6.zero
theorem c6 : Tryd.prog.cellsOf 6 = 1 := e6.cellsOf
theorem e7 : ElemZ Tryd.prog 7 (.agg #[.int .i64 0, .int .i64 0, .bool false, .int .u8 0]) := .of (by kernel_rfl) (by kernel_rfl)
theorem z7 : zeroOf Tryd.prog 7 = some (.agg #[.int .i64 0, .int .i64 0, .bool false, .int .u8 0]) := e7.zero
theorem c7 : Tryd.prog.cellsOf 7 = 4 := e7.cellsOf
theorem e8 : ElemZ Tryd.prog 8 (.agg #[.int .i64 0, .int .i64 0, .bool false, .int .u8 0]) := .of (by kernel_rfl) (by kernel_rfl)
theorem z8 : zeroOf Tryd.prog 8 = some (.agg #[.int .i64 0, .int .i64 0, .bool false, .int .u8 0]) := e8.zero
theorem c8 : Tryd.prog.cellsOf 8 = 4 := e8.cellsOf
theorem e9 : ElemZ Tryd.prog 9 (.string ⟨#[]⟩) := .of (by kernel_rfl) (by kernel_rfl)
theorem z9 : zeroOf Tryd.prog 9 = some (.string ⟨#[]⟩) := e9.zero
theorem c9 : Tryd.prog.cellsOf 9 = 1 := e9.cellsOf
theorem e10 : ElemZ Tryd.prog 10 (.string ⟨#[]⟩) := .of (by kernel_rfl) (by kernel_rfl)
theorem z10 : zeroOf Tryd.prog 10 = some (.string ⟨#[]⟩) := e10.zero
theorem c10 : Tryd.prog.cellsOf 10 = 1 := e10.cellsOf
theorem e11 : ElemZ Tryd.prog 11 (.string ⟨#[]⟩) := .of (by kernel_rfl) (by kernel_rfl)
theorem z11 : zeroOf Tryd.prog 11 = some (.string ⟨#[]⟩) := e11.zero
theorem c11 : Tryd.prog.cellsOf 11 = 1 := e11.cellsOf
theorem e12 : ElemZ Tryd.prog 12 (.int .u64 0) := .of (by kernel_rfl) (by kernel_rfl)
theorem z12 : zeroOf Tryd.prog 12 = some (.int .u64 0) := e12.zero
theorem c12 : Tryd.prog.cellsOf 12 = 1 := e12.cellsOf
theorem e13 : ElemZ Tryd.prog 13 (.agg #[.string ⟨#[]⟩, .int .u64 0]) := .of (by kernel_rfl) (by kernel_rfl)
theorem z13 : zeroOf Tryd.prog 13 = some (.agg #[.string ⟨#[]⟩, .int .u64 0]) := e13.zero
theorem c13 : Tryd.prog.cellsOf 13 = 2 := e13.cellsOf
theorem e14 : ElemZ Tryd.prog 14 (.agg #[.string ⟨#[]⟩, .int .u64 0]) := .of (by kernel_rfl) (by kernel_rfl)
theorem z14 : zeroOf Tryd.prog 14 = some (.agg #[.string ⟨#[]⟩, .int .u64 0]) := e14.zero
theorem c14 : Tryd.prog.cellsOf 14 = 2 := e14.cellsOf
theorem e15 : ElemZ Tryd.prog 15 (.pointer none) := .of (by kernel_rfl) (by kernel_rfl)
theorem z15 : zeroOf Tryd.prog 15 = some (.pointer none) := e15.zero
theorem c15 : Tryd.prog.cellsOf 15 = 1 := e15.cellsOf
theorem e16 : ElemZ Tryd.prog 16 (.pointer none) := .of (by kernel_rfl) (by kernel_rfl)
theorem z16 : zeroOf Tryd.prog 16 = some (.pointer none) := e16.zero
theorem c16 : Tryd.prog.cellsOf 16 = 1 := e16.cellsOf
theorem e17 : ElemZ Tryd.prog 17 (.pointer none) := .of (by kernel_rfl) (by kernel_rfl)
theorem z17 : zeroOf Tryd.prog 17 = some (.pointer none) := e17.zero
theorem c17 : Tryd.prog.cellsOf 17 = 1 := e17.cellsOf
theorem e18 : ElemZ Tryd.prog 18 (.agg #[.pointer none]) := .of (by kernel_rfl) (by kernel_rfl)
theorem z18 : zeroOf Tryd.prog 18 = some (.agg #[.pointer none]) := e18.zero
theorem c18 : Tryd.prog.cellsOf 18 = 1 := e18.cellsOf
theorem e19 : ElemZ Tryd.prog 19 (.agg #[.pointer none]) := .of (by kernel_rfl) (by kernel_rfl)
theorem z19 : zeroOf Tryd.prog 19 = some (.agg #[.pointer none]) := e19.zero
theorem c19 : Tryd.prog.cellsOf 19 = 1 := e19.cellsOf
theorem e20 : ElemZ Tryd.prog 20 (.nilIface) := .of (by kernel_rfl) (by kernel_rfl)
theorem z20 : zeroOf Tryd.prog 20 = some (.nilIface) := e20.zero
theorem c20 : Tryd.prog.cellsOf 20 = 1 := e20.cellsOf
theorem e21 : ElemZ Tryd.prog 21 (.int .i32 0) := .of (by kernel_rfl) (by kernel_rfl)
theorem z21 : zeroOf Tryd.prog 21 = some (.int .i32 0) := e21.zero
theorem c21 : Tryd.prog.cellsOf 21 = 1 := e21.cellsOf
theorem e22 : ElemZ Tryd.prog 22 (.slice none 0 0) := .of (by kernel_rfl) (by kernel_rfl)
theorem z22 : zeroOf Tryd.prog 22 = some (.slice none 0 0) := e22.zero
theorem c22 : Tryd.prog.cellsOf 22 = 1 := e22.cellsOf
theorem e23 : ElemZ Tryd.prog 23 (.slice none 0 0) := .of (by kernel_rfl) (by kernel_rfl)
theorem z23 : zeroOf Tryd.prog 23 = some (.slice none 0 0) := e23.zero
theorem c23 : Tryd.prog.cellsOf 23 = 1 := e23.cellsOf
theorem e24 : ElemZ Tryd.prog 24 (.nilFunc) := .of (by kernel_rfl) (by kernel_rfl)
theorem z24 : zeroOf Tryd.prog 24 = some (.nilFunc) := e24.zero
theorem c24 : Tryd.prog.cellsOf 24 = 1 := e24.cellsOf
theorem e25 : ElemZ Tryd.prog 25 (.int .i64 0) := .of (by kernel_rfl) (by kernel_rfl)
theorem z25 : zeroOf Tryd.prog 25 = some (.int .i64 0) := e25.zero
theorem c25 : Tryd.prog.cellsOf 25 = 1 := e25.cellsOf
theorem e27 : ElemZ Tryd.prog 27 (.nilFunc) := .of (by kernel_rfl) (by kernel_rfl)
theorem z27 : zeroOf Tryd.prog 27 = some (.nilFunc) := e27.zero
theorem c27 : Tryd.prog.cellsOf 27 = 1 := e27.cellsOf
theorem e29 : ElemZ Tryd.prog 29 (.nilFunc) := .of (by kernel_rfl) (by kernel_rfl)
theorem z29 : zeroOf Tryd.prog 29 = some (.nilFunc) := e29.zero
theorem c29 : Tryd.prog.cellsOf 29 = 1 := e29.cellsOf
theorem e30 : ElemZ Tryd.prog 30 (.nilFunc) := .of (by kernel_rfl) (by kernel_rfl)
theorem z30 : zeroOf Tryd.prog 30 = some (.nilFunc) := e30.zero
theorem c30 : Tryd.prog.cellsOf 30 = 1 := e30.cellsOf
theorem e31 : ElemZ Tryd.prog 31 (.nilFunc) := .of (by kernel_rfl) (by kernel_rfl)
theorem z31 : zeroOf Tryd.prog 31 = some (.nilFunc) := e31.zero
theorem c31 : Tryd.prog.cellsOf 31 = 1 := e31.cellsOf
theorem e32 : ElemZ Tryd.prog 32 (.nilFunc) := .of (by kernel_rfl) (by kernel_rfl)
theorem z32 : zeroOf Tryd.prog 32 = some (.nilFunc) := e32.zero
theorem c32 : Tryd.prog.cellsOf 32 = 1 := e32.cellsOf
theorem e33 : ElemZ Tryd.prog 33 (.nilFunc) := .of (by kernel_rfl) (by kernel_rfl)
theorem z33 : zeroOf Tryd.prog 33 = some (.nilFunc) := e33.zero
theorem c33 : Tryd.prog.cellsOf 33 = 1 := e33.cellsOf
theorem e35 : ElemZ Tryd.prog 35 (.nilFunc) := .of (by kernel_rfl) (by kernel_rfl)
theorem z35 : zeroOf Tryd.prog 35 = some (.nilFunc) := e35.zero
theorem c35 : Tryd.prog.cellsOf 35 = 1 := e35.cellsOf
theorem e37 : ElemZ Tryd.prog 37 (.nilFunc) := .of (by kernel_rfl) (by kernel_rfl)
theorem z37 : zeroOf Tryd.prog 37 = some (.nilFunc) := e37.zero
theorem c37 : Tryd.prog.cellsOf 37 = 1 := e37.cellsOf
theorem e38 : ElemZ Tryd.prog 38 (.nilFunc) := .of (by kernel_rfl) (by kernel_rfl)
theorem z38 : zeroOf Tryd.prog 38 = some (.nilFunc) := e38.zero
theorem c38 : Tryd.prog.cellsOf 38 = 1 := e38.cellsOf
theorem e39 : ElemZ Tryd.prog 39 (.nilFunc) := .of (by kernel_rfl) (by kernel_rfl)
theorem z39 : zeroOf Tryd.prog 39 = some (.nilFunc) := e39.zero
theorem c39 : Tryd.prog.cellsOf 39 = 1 := e39.cellsOf
theorem e40 : ElemZ Tryd.prog 40 (.nilFunc) := .of (by kernel_rfl) (by kernel_rfl)
theorem z40 : zeroOf Tryd.prog 40 = some (.nilFunc) := e40.zero
theorem c40 : Tryd.prog.cellsOf 40 = 1 := e40.cellsOf
theorem e42 : ElemZ Tryd.prog 42 (.nilFunc) := .of (by kernel_rfl) (by kernel_rfl)
theorem z42 : zeroOf Tryd.prog 42 = some (.nilFunc) := e42.zero
theorem c42 : Tryd.prog.cellsOf 42 = 1 := e42.cellsOf
theorem e43 : ElemZ Tryd.prog 43 (.nilFunc) := .of (by kernel_rfl) (by kernel_rfl)
theorem z43 : zeroOf Tryd.prog 43 = some (.nilFunc) := e43.zero
theorem c43 : Tryd.prog.cellsOf 43 = 1 := e43.cellsOf
theorem e44 : ElemZ Tryd.prog 44 (.nilFunc) := .of (by kernel_rfl) (by kernel_rfl)
theorem z44 : zeroOf Tryd.prog 44 = some (.nilFunc) := e44.zero
theorem c44 : Tryd.prog.cellsOf 44 = 1 := e44.cellsOf
theorem e45 : ElemZ Tryd.prog 45 (.nilFunc) := .of (by kernel_rfl) (by kernel_rfl)
theorem z45 : zeroOf Tryd.prog 45 = some (.nilFunc) := e45.zero
theorem c45 : Tryd.prog.cellsOf 45 = 1 := e45.cellsOf
theorem e46 : ElemZ Tryd.prog 46 (.nilFunc) := .of (by kernel_rfl) (by kernel_rfl)
theorem z46 : zeroOf Tryd.prog 46 = some (.nilFunc) := e46.zero
theorem c46 : Tryd.prog.cellsOf 46 = 1 := e46.cellsOf
theorem e47 : ElemZ Tryd.prog 47 (.nilIface) := .of (by kernel_rfl) (by kernel_rfl)
theorem z47 : zeroOf Tryd.prog 47 = some (.nilIface) := e47.zero
theorem c47 : Tryd.prog.cellsOf 47 = 1 := e47.cellsOf
theorem e48 : ElemZ Tryd.prog 48 (.nilIface) := .of (by kernel_rfl) (by kernel_rfl)
theorem z48 : zeroOf Tryd.prog 48 = some (.nilIface) := e48.zero
theorem c48 : Tryd.prog.cellsOf 48 = 1 := e48.cellsOf
theorem e50 : ElemZ Tryd.prog 50 (.nilFunc) := .of (by kernel_rfl) (by kernel_rfl)
theorem z50 : zeroOf Tryd.prog 50 = some (.nilFunc) := e50.zero
theorem c50 : Tryd.prog.cellsOf 50 = 1 := e50.cellsOf
theorem e51 : ElemZ Tryd.prog 51 (.nilFunc) := .of (by kernel_rfl) (by kernel_rfl)
theorem z51 : zeroOf Tryd.prog 51 = some (.nilFunc) := e51.zero
theorem c51 : Tryd.prog.cellsOf 51 = 1 := e51.cellsOf
theorem e52 : ElemZ Tryd.prog 52 (.nilFunc) := .of (by kernel_rfl) (by kernel_rfl)
theorem z52 : zeroOf Tryd.prog 52 = some (.nilFunc) := e52.zero
theorem c52 : Tryd.prog.cellsOf 52 = 1 := e52.cellsOf
theorem e54 : ElemZ Tryd.prog 54 (.nilFunc) := .of (by kernel_rfl) (by kernel_rfl)
theorem z54 : zeroOf Tryd.prog 54 = some (.nilFunc) := e54.zero
theorem c54 : Tryd.prog.cellsOf 54 = 1 := e54.cellsOf
theorem e55 : ElemZ Tryd.prog 55 (.nilFunc) := .of (by kernel_rfl) (by kernel_rfl)
theorem z55 : zeroOf Tryd.prog 55 = some (.nilFunc) := e55.zero
theorem c55 : Tryd.prog.cellsOf 55 = 1 := e55.cellsOf
theorem e57 : ElemZ Tryd.prog 57 (.nilFunc) := .of (by kernel_rfl) (by kernel_rfl)
theorem z57 : zeroOf Tryd.prog 57 = some (.nilFunc) := e57.zero
theorem c57 : Tryd.prog.cellsOf 57 = 1 := e57.cellsOf
theorem e58 : ElemZ Tryd.prog 58 (.slice none 0 0) := .of (by kernel_rfl) (by kernel_rfl)
theorem z58 : zeroOf Tryd.prog 58 = some (.slice none 0 0) := e58.zero
theorem c58 : Tryd.prog.cellsOf 58 = 1 := e58.cellsOf
theorem e59 : ElemZ Tryd.prog 59 (.nilFunc) := .of (by kernel_rfl) (by kernel_rfl)
theorem z59 : zeroOf Tryd.prog 59 = some (.nilFunc) := e59.zero
theorem c59 : Tryd.prog.cellsOf 59 = 1 := e59.cellsOf
theorem e60 : ElemZ Tryd.prog 60 (.nilFunc) := .of (by kernel_rfl) (by kernel_rfl)
theorem z60 : zeroOf Tryd.prog 60 = some (.nilFunc) := e60.zero
theorem c60 : Tryd.prog.cellsOf 60 = 1 := e60.cellsOf
theorem e61 : ElemZ Tryd.prog 61 (.nilFunc) := .of (by kernel_rfl) (by kernel_rfl)
theorem z61 : zeroOf Tryd.prog 61 = some (.nilFunc) := e61.zero
theorem c61 : Tryd.prog.cellsOf 61 = 1 := e61.cellsOf
theorem e62 : ElemZ Tryd.prog 62 (.nilFunc) := .of (by kernel_rfl) (by kernel_rfl)
theorem z62 : zeroOf Tryd.prog 62 = some (.nilFunc) := e62.zero
theorem c62 : Tryd.prog.cellsOf 62 = 1 := e62.cellsOf
theorem e63 : ElemZ Tryd.prog 63 (.nilFunc) := .of (by kernel_rfl) (by kernel_rfl)
theorem z63 : zeroOf Tryd.prog 63 = some (.nilFunc) := e63.zero
theorem c63 : Tryd.prog.cellsOf 63 = 1 := e63.cellsOf
theorem e64 : ElemZ Tryd.prog 64 (.nilFunc) := .of (by kernel_rfl) (by kernel_rfl)
theorem z64 : zeroOf Tryd.prog 64 = some (.nilFunc) := e64.zero
theorem c64 : Tryd.prog.cellsOf 64 = 1 := e64.cellsOf
theorem e68 : ElemZ Tryd.prog 68 (.nilFunc) := .of (by kernel_rfl) (by kernel_rfl)
theorem z68 : zeroOf Tryd.prog 68 = some (.nilFunc) := e68.zero
theorem c68 : Tryd.prog.cellsOf 68 = 1 := e68.cellsOf
theorem e69 : ElemZ Tryd.prog 69 (.nilFunc) := .of (by kernel_rfl) (by kernel_rfl)
theorem z69 : zeroOf Tryd.prog 69 = some (.nilFunc) := e69.zero
theorem c69 : Tryd.prog.cellsOf 69 = 1 := e69.cellsOf
theorem e70 : ElemZ Tryd.prog 70 (.pointer none) := .of (by kernel_rfl) (by kernel_rfl)
theorem z70 : zeroOf Tryd.prog 70 = some (.pointer none) := e70.zero
theorem c70 : Tryd.prog.cellsOf 70 = 1 := e70.cellsOf
theorem e71 : ElemZ Tryd.prog 71 (.nilFunc) := .of (by kernel_rfl) (by kernel_rfl)
theorem z71 : zeroOf Tryd.prog 71 = some (.nilFunc) := e71.zero
theorem c71 : Tryd.prog.cellsOf 71 = 1 := e71.cellsOf
theorem e72 : ElemZ Tryd.prog 72 (.int .u64 0) := .of (by kernel_rfl) (by kernel_rfl)
theorem z72 : zeroOf Tryd.prog 72 = some (.int .u64 0) := e72.zero
theorem c72 : Tryd.prog.cellsOf 72 = 1 := e72.cellsOf
theorem e74 : ElemZ Tryd.prog 74 (.nilFunc) := .of (by kernel_rfl) (by kernel_rfl)
theorem z74 : zeroOf Tryd.prog 74 = some (.nilFunc) := e74.zero
theorem c74 : Tryd.prog.cellsOf 74 = 1 := e74.cellsOf
theorem e75 : ElemZ Tryd.prog 75 (.pointer none) := .of (by kernel_rfl) (by kernel_rfl)
theorem z75 : zeroOf Tryd.prog 75 = some (.pointer none) := e75.zero
theorem c75 : Tryd.prog.cellsOf 75 = 1 := e75.cellsOf
theorem e76 : ElemZ Tryd.prog 76 (.slice none 0 0) := .of (by kernel_rfl) (by kernel_rfl)
theorem z76 : zeroOf Tryd.prog 76 = some (.slice none 0 0) := e76.zero
theorem c76 : Tryd.prog.cellsOf 76 = 1 := e76.cellsOf
theorem e77 : ElemZ Tryd.prog 77 (.agg #[.pointer none, .slice none 0 0]) := .of (by kernel_rfl) (by kernel_rfl)
theorem z77 : zeroOf Tryd.prog 77 = some (.agg #[.pointer none, .slice none 0 0]) := e77.zero
theorem c77 : Tryd.prog.cellsOf 77 = 2 := e77.cellsOf
theorem e78 : ElemZ Tryd.prog 78 (.agg #[.pointer none, .slice none 0 0]) := .of (by kernel_rfl) (by kernel_rfl)
theorem z78 : zeroOf Tryd.prog 78 = some (.agg #[.pointer none, .slice none 0 0]) := e78.zero
theorem c78 : Tryd.prog.cellsOf 78 = 2 := e78.cellsOf
theorem e79 : ElemZ Tryd.prog 79 (.nilFunc) := .of (by kernel_rfl) (by kernel_rfl)
theorem z79 : zeroOf Tryd.prog 79 = some (.nilFunc) := e79.zero
theorem c79 : Tryd.prog.cellsOf 79 = 1 := e79.cellsOf
theorem e81 : ElemZ Tryd.prog 81 (.nilFunc) := .of (by kernel_rfl) (by kernel_rfl)
theorem z81 : zeroOf Tryd.prog 81 = some (.nilFunc) := e81.zero
theorem c81 : Tryd.prog.cellsOf 81 = 1 := e81.cellsOf
theorem e82 : ElemZ Tryd.prog 82 (.nilFunc) := .of (by kernel_rfl) (by kernel_rfl)
theorem z82 : zeroOf Tryd.prog 82 = some (.nilFunc) := e82.zero
theorem c82 : Tryd.prog.cellsOf 82 = 1 := e82.cellsOf
theorem e83 : ElemZ Tryd.prog 83 (.nilFunc) := .of (by kernel_rfl) (by kernel_rfl)
theorem z83 : zeroOf Tryd.prog 83 = some (.nilFunc) := e83.zero
theorem c83 : Tryd.prog.cellsOf 83 = 1 := e83.cellsOf
theorem e84 : ElemZ Tryd.prog 84 (.nilFunc) := .of (by kernel_rfl) (by kernel_rfl)
theorem z84 : zeroOf Tryd.prog 84 = some (.nilFunc) := e84.zero
theorem c84 : Tryd.prog.cellsOf 84 = 1 := e84.cellsOf
theorem e85 : ElemZ Tryd.prog 85 (.nilFunc) := .of (by kernel_rfl) (by kernel_rfl)
theorem z85 : zeroOf Tryd.prog 85 = some (.nilFunc) := e85.zero
theorem c85 : Tryd.prog.cellsOf 85 = 1 := e85.cellsOf
theorem e86 : ElemZ Tryd.prog 86 (.nilFunc) := .of (by kernel_rfl) (by kernel_rfl)
theorem z86 : zeroOf Tryd.prog 86 = some (.nilFunc) := e86.zero
theorem c86 : Tryd.prog.cellsOf 86 = 1 := e86.cellsOf
theorem e88 : ElemZ Tryd.prog 88 (.nilFunc) := .of (by kernel_rfl) (by kernel_rfl)
theorem z88 : zeroOf Tryd.prog 88 = some (.nilFunc) := e88.zero
theorem c88 : Tryd.prog.cellsOf 88 = 1 := e88.cellsOf
theorem e89 : ElemZ Tryd.prog 89 (.nilFunc) := .of (by kernel_rfl) (by kernel_rfl)
theorem z89 : zeroOf Tryd.prog 89 = some (.nilFunc) := e89.zero
theorem c89 : Tryd.prog.cellsOf 89 = 1 := e89.cellsOf
theorem e91 : ElemZ Tryd.prog 91 (.nilFunc) := .of (by kernel_rfl) (by kernel_rfl)
theorem z91 : zeroOf Tryd.prog 91 = some (.nilFunc) := e91.zero
theorem c91 : Tryd.prog.cellsOf 91 = 1 := e91.cellsOf
theorem e92 : ElemZ Tryd.prog 92 (.nilFunc) := .of (by kernel_rfl) (by kernel_rfl)
theorem z92 : zeroOf Tryd.prog 92 = some (.nilFunc) := e92.zero
theorem c92 : Tryd.prog.cellsOf 92 = 1 := e92.cellsOf
theorem e93 : ElemZ Tryd.prog 93 (.int .i64 0) := .of (by kernel_rfl) (by kernel_rfl)
theorem z93 : zeroOf Tryd.prog 93 = some (.int .i64 0) := e93.zero
theorem c93 : Tryd.prog.cellsOf 93 = 1 := e93.cellsOf
theorem e94 : ElemZ Tryd.prog 94 (.int .u64 0) := .of (by kernel_rfl) (by kernel_rfl)
theorem z94 : zeroOf Tryd.prog 94 = some (.int .u64 0) := e94.zero
theorem c94 : Tryd.prog.cellsOf 94 = 1 := e94.cellsOf
theorem e96 : ElemZ Tryd.prog 96 (.nilFunc) := .of (by kernel_rfl) (by kernel_rfl)
theorem z96 : zeroOf Tryd.prog 96 = some (.nilFunc) := e96.zero
theorem c96 : Tryd.prog.cellsOf 96 = 1 := e96.cellsOf
theorem e97 : ElemZ Tryd.prog 97 (.pointer none) := .of (by kernel_rfl) (by kernel_rfl)
theorem z97 : zeroOf Tryd.prog 97 = some (.pointer none) := e97.zero
theorem c97 : Tryd.prog.cellsOf 97 = 1 := e97.cellsOf
theorem e98 : ElemZ Tryd.prog 98 (.nilFunc) := .of (by kernel_rfl) (by kernel_rfl)
theorem z98 : zeroOf Tryd.prog 98 = some (.nilFunc) := e98.zero
theorem c98 : Tryd.prog.cellsOf 98 = 1 := e98.cellsOf
theorem e99 : ElemZ Tryd.prog 99 (.nilFunc) := .of (by kernel_rfl) (by kernel_rfl)
theorem z99 : zeroOf Tryd.prog 99 = some (.nilFunc) := e99.zero
theorem c99 : Tryd.prog.cellsOf 99 = 1 := e99.cellsOf
theorem e100 : ElemZ Tryd.prog 100 (.agg #[.int .u8 0, .int .u8 0, .int .u8 0, .int .u8 0, .int .u8 0, .int .u8 0, .int .u8 0, .int .u8 0, .int .u8 0, .int .u8 0, .int .u8 0, .int .u8 0, .int .u8 0, .int .u8 0, .int .u8 0, .int .u8 0, .int .u8 0, .int .u8 0, .int .u8 0, .int .u8 0, .int .u8 0, .int .u8 0, .int .u8 0, .int .u8 0]) := .of (by kernel_rfl) (by kernel_rfl)
theorem z100 : zeroOf Tryd.prog 100 = some (.agg #[.int .u8 0, .int .u8 0, .int .u8 0, .int .u8 0, .int .u8 0, .int .u8 0, .int .u8 0, .int .u8 0, .int .u8 0, .int .u8 0, .int .u8 0, .int .u8 0, .int .u8 0, .int .u8 0, .int .u8 0, .int .u8 0, .int .u8 0, .int .u8 0, .int .u8 0, .int .u8 0, .int .u8 0, .int .u8 0, .int .u8 0, .int .u8 0]) := e100.zero
theorem c100 : Tryd.prog.cellsOf 100 = 24 := e100.cellsOf
theorem e101 : ElemZ Tryd.prog 101 (.nilFunc) := .of (by kernel_rfl) (by kernel_rfl)
theorem z101 : zeroOf Tryd.prog 101 = some (.nilFunc) := e101.zero
theorem c101 : Tryd.prog.cellsOf 101 = 1 := e101.cellsOf
theorem e102 : ElemZ Tryd.prog 102 (.nilFunc) := .of (by kernel_rfl) (by kernel_rfl)
theorem z102 : zeroOf Tryd.prog 102 = some (.nilFunc) := e102.zero
theorem c102 : Tryd.prog.cellsOf 102 = 1 := e102.cellsOf
theorem e104 : ElemZ Tryd.prog 104 (.nilFunc) := .of (by kernel_rfl) (by kernel_rfl)
theorem z104 : zeroOf Tryd.prog 104 = some (.nilFunc) := e104.zero
theorem c104 : Tryd.prog.cellsOf 104 = 1 := e104.cellsOf
theorem e105 : ElemZ Tryd.prog 105 (.int .u32 0) := .of (by kernel_rfl) (by kernel_rfl)
theorem z105 : zeroOf Tryd.prog 105 = some (.int .u32 0) := e105.zero
theorem c105 : Tryd.prog.cellsOf 105 = 1 := e105.cellsOf
theorem e107 : ElemZ Tryd.prog 107 (.nilFunc) := .of (by kernel_rfl) (by kernel_rfl)
theorem z107 : zeroOf Tryd.prog 107 = some (.nilFunc) := e107.zero
theorem c107 : Tryd.prog.cellsOf 107 = 1 := e107.cellsOf
theorem e109 : ElemZ Tryd.prog 109 (.nilFunc) := .of (by kernel_rfl) (by kernel_rfl)
theorem z109 : zeroOf Tryd.prog 109 = some (.nilFunc) := e109.zero
theorem c109 : Tryd.prog.cellsOf 109 = 1 := e109.cellsOf
theorem e110 : ElemZ Tryd.prog 110 (.pointer none) := .of (by kernel_rfl) (by kernel_rfl)
theorem z110 : zeroOf Tryd.prog 110 = some (.pointer none) := e110.zero
theorem c110 : Tryd.prog.cellsOf 110 = 1 := e110.cellsOf
theorem e111 : ElemZ Tryd.prog 111 (.nilFunc) := .of (by kernel_rfl) (by kernel_rfl)
theorem z111 : zeroOf Tryd.prog 111 = some (.nilFunc) := e111.zero
theorem c111 : Tryd.prog.cellsOf 111 = 1 := e111.cellsOf
theorem e112 : ElemZ Tryd.prog 112 (.nilFunc) := .of (by kernel_rfl) (by kernel_rfl)
theorem z112 : zeroOf Tryd.prog 112 = some (.nilFunc) := e112.zero
theorem c112 : Tryd.prog.cellsOf 112 = 1 := e112.cellsOf
theorem e113 : ElemZ Tryd.prog 113 (.nilFunc) := .of (by kernel_rfl) (by kernel_rfl)
theorem z113 : zeroOf Tryd.prog 113 = some (.nilFunc) := e113.zero
theorem c113 : Tryd.prog.cellsOf 113 = 1 := e113.cellsOf
theorem e114 : ElemZ Tryd.prog 114 (.agg #[.string ⟨#[]⟩, .string ⟨#[]⟩, .nilIface]) := .of (by kernel_rfl) (by kernel_rfl)
theorem z114 : zeroOf Tryd.prog 114 = some (.agg #[.string ⟨#[]⟩, .string ⟨#[]⟩, .nilIface]) := e114.zero
theorem c114 : Tryd.prog.cellsOf 114 = 3 := e114.cellsOf
theorem e115 : ElemZ Tryd.prog 115 (.agg #[.string ⟨#[]⟩, .string ⟨#[]⟩, .nilIface]) := .of (by kernel_rfl) (by kernel_rfl)
theorem z115 : zeroOf Tryd.prog 115 = some (.agg #[.string ⟨#[]⟩, .string ⟨#[]⟩, .nilIface]) := e115.zero
theorem c115 : Tryd.prog.cellsOf 115 = 3 := e115.cellsOf
theorem e116 : ElemZ Tryd.prog 116 (.nilFunc) := .of (by kernel_rfl) (by kernel_rfl)
theorem z116 : zeroOf Tryd.prog 116 = some (.nilFunc) := e116.zero
theorem c116 : Tryd.prog.cellsOf 116 = 1 := e116.cellsOf
theorem e117 : ElemZ Tryd.prog 117 (.nilFunc) := .of (by kernel_rfl) (by kernel_rfl)
theorem z117 : zeroOf Tryd.prog 117 = some (.nilFunc) := e117.zero
theorem c117 : Tryd.prog.cellsOf 117 = 1 := e117.cellsOf
theorem e118 : ElemZ Tryd.prog 118 (.nilFunc) := .of (by kernel_rfl) (by kernel_rfl)
theorem z118 : zeroOf Tryd.prog 118 = some (.nilFunc) := e118.zero
theorem c118 : Tryd.prog.cellsOf 118 = 1 := e118.cellsOf
theorem e119 : ElemZ Tryd.prog 119 (.agg #[.int .u64 0, .int .u64 0, .int .u64 0, .int .u64 0, .int .u64 0, .int .u64 0, .int .u64 0, .int .u64 0, .int .u64 0, .int .u64 0, .int .u64 0, .int .u64 0, .int .u64 0, .int .u64 0, .int .u64 0, .int .u64 0, .int .u64 0, .int .u64 0, .int .u64 0, .int .u64 0]) := .of (by kernel_rfl) (by kernel_rfl)
theorem z119 : zeroOf Tryd.prog 119 = some (.agg #[.int .u64 0, .int .u64 0, .int .u64 0, .int .u64 0, .int .u64 0, .int .u64 0, .int .u64 0, .int .u64 0, .int .u64 0, .int .u64 0, .int .u64 0, .int .u64 0, .int .u64 0, .int .u64 0, .int .u64 0, .int .u64 0, .int .u64 0, .int .u64 0, .int .u64 0, .int .u64 0]) := e119.zero
theorem c119 : Tryd.prog.cellsOf 119 = 20 := e119.cellsOf
theorem e121 : ElemZ Tryd.prog 121 (.nilFunc) := .of (by kernel_rfl) (by kernel_rfl)
theorem z121 : zeroOf Tryd.prog 121 = some (.nilFunc) := e121.zero
theorem c121 : Tryd.prog.cellsOf 121 = 1 := e121.cellsOf
theorem e122 : ElemZ Tryd.prog 122 (.nilFunc) := .of (by kernel_rfl) (by kernel_rfl)
theorem z122 : zeroOf Tryd.prog 122 = some (.nilFunc) := e122.zero
theorem c122 : Tryd.prog.cellsOf 122 = 1 := e122.cellsOf
theorem e123 : ElemZ Tryd.prog 123 (.pointer none) := .of (by kernel_rfl) (by kernel_rfl)
theorem z123 : zeroOf Tryd.prog 123 = some (.pointer none) := e123.zero
theorem c123 : Tryd.prog.cellsOf 123 = 1 := e123.cellsOf
theorem e124 : ElemZ Tryd.prog 124 (.nilFunc) := .of (by kernel_rfl) (by kernel_rfl)
theorem z124 : zeroOf Tryd.prog 124 = some (.nilFunc) := e124.zero
theorem c124 : Tryd.prog.cellsOf 124 = 1 := e124.cellsOf
theorem e125 : ElemZ Tryd.prog 125 (.nilFunc) := .of (by kernel_rfl) (by kernel_rfl)
theorem z125 : zeroOf Tryd.prog 125 = some (.nilFunc) := e125.zero
theorem c125 : Tryd.prog.cellsOf 125 = 1 := e125.cellsOf
theorem e127 : ElemZ Tryd.prog 127 (.agg #[.int .u8 0, .int .u8 0]) := .of (by kernel_rfl) (by kernel_rfl)
theorem z127 : zeroOf Tryd.prog 127 = some (.agg #[.int .u8 0, .int .u8 0]) := e127.zero
theorem c127 : Tryd.prog.cellsOf 127 = 2 := e127.cellsOf
theorem e128 : ElemZ Tryd.prog 128 (.agg #[.int .u8 0, .int .u8 0]) := .of (by kernel_rfl) (by kernel_rfl)
theorem z128 : zeroOf Tryd.prog 128 = some (.agg #[.int .u8 0, .int .u8 0]) := e128.zero
theorem c128 : Tryd.prog.cellsOf 128 = 2 := e128.cellsOf
theorem e129 : ElemZ Tryd.prog 129 (.agg #[.int .u8 0, .int .u8 0, .int .u8 0, .int .u8 0, .int .u8 0, .int .u8 0, .int .u8 0, .int .u8 0, .int .u8 0, .int .u8 0, .int .u8 0, .int .u8 0, .int .u8 0, .int .u8 0, .int .u8 0, .int .u8 0, .int .u8 0, .int .u8 0, .int .u8 0, .int .u8 0, .int .u8 0, .int .u8 0, .int .u8 0, .int .u8 0, .int .u8 0, .int .u8 0, .int .u8 0, .int .u8 0, .int .u8 0, .int .u8 0, .int .u8 0, .int .u8 0]) := .of (by kernel_rfl) (by kernel_rfl)
theorem z129 : zeroOf Tryd.prog 129 = some (.agg #[.int .u8 0, .int .u8 0, .int .u8 0, .int .u8 0, .int .u8 0, .int .u8 0, .int .u8 0, .int .u8 0, .int .u8 0, .int .u8 0, .int .u8 0, .int .u8 0, .int .u8 0, .int .u8 0, .int .u8 0, .int .u8 0, .int .u8 0, .int .u8 0, .int .u8 0, .int .u8 0, .int .u8 0, .int .u8 0, .int .u8 0, .int .u8 0, .int .u8 0, .int .u8 0, .int .u8 0, .int .u8 0, .int .u8 0, .int .u8 0, .int .u8 0, .int .u8 0]) := e129.zero
theorem c129 : Tryd.prog.cellsOf 129 = 32 := e129.cellsOf
theorem e130 : ElemZ Tryd.prog 130 (.nilFunc) := .of (by kernel_rfl) (by kernel_rfl)
theorem z130 : zeroOf Tryd.prog 130 = some (.nilFunc) := e130.zero
theorem c130 : Tryd.prog.cellsOf 130 = 1 := e130.cellsOf
theorem e131 : ElemZ Tryd.prog 131 (.nilFunc) := .of (by kernel_rfl) (by kernel_rfl)
theorem z131 : zeroOf Tryd.prog 131 = some (.nilFunc) := e131.zero
theorem c131 : Tryd.prog.cellsOf 131 = 1 := e131.cellsOf
theorem e132 : ElemZ Tryd.prog 132 (.nilFunc) := .of (by kernel_rfl) (by kernel_rfl)
theorem z132 : zeroOf Tryd.prog 132 = some (.nilFunc) := e132.zero
theorem c132 : Tryd.prog.cellsOf 132 = 1 := e132.cellsOf
theorem e133 : ElemZ Tryd.prog 133 (.pointer none) := .of (by kernel_rfl) (by kernel_rfl)
theorem z133 : zeroOf Tryd.prog 133 = some (.pointer none) := e133.zero
theorem c133 : Tryd.prog.cellsOf 133 = 1 := e133.cellsOf
theorem e134 : ElemZ Tryd.prog 134 (.agg #[.string ⟨#[]⟩]) := .of (by kernel_rfl) (by kernel_rfl)
theorem z134 : zeroOf Tryd.prog 134 = some (.agg #[.string ⟨#[]⟩]) := e134.zero
theorem c134 : Tryd.prog.cellsOf 134 = 1 := e134.cellsOf
theorem e135 : ElemZ Tryd.prog 135 (.agg #[.string ⟨#[]⟩]) := .of (by kernel_rfl) (by kernel_rfl)
theorem z135 : zeroOf Tryd.prog 135 = some (.agg #[.string ⟨#[]⟩]) := e135.zero
theorem c135 : Tryd.prog.cellsOf 135 = 1 := e135.cellsOf
theorem e136 : ElemZ Tryd.prog 136 (.nilFunc) := .of (by kernel_rfl) (by kernel_rfl)
theorem z136 : zeroOf Tryd.prog 136 = some (.nilFunc) := e136.zero
theorem c136 : Tryd.prog.cellsOf 136 = 1 := e136.cellsOf
theorem e137 : ElemZ Tryd.prog 137 (.agg #[.int .u8 0, .int .u8 0, .int .u8 0, .int .u8 0, .int .u8 0, .int .u8 0, .int .u8 0, .int .u8 0, .int .u8 0, .int .u8 0, .int .u8 0, .int .u8 0, .int .u8 0, .int .u8 0, .int .u8 0, .int .u8 0, .int .u8 0, .int .u8 0, .int .u8 0, .int .u8 0, .int .u8 0, .int .u8 0, .int .u8 0, .int .u8 0, .int .u8 0, .int .u8 0, .int .u8 0, .int .u8 0, .int .u8 0, .int .u8 0, .int .u8 0, .int .u8 0]) := .of (by kernel_rfl) (by kernel_rfl)
theorem z137 : zeroOf Tryd.prog 137 = some (.agg #[.int .u8 0, .int .u8 0, .int .u8 0, .int .u8 0, .int .u8 0, .int .u8 0, .int .u8 0, .int .u8 0, .int .u8 0, .int .u8 0, .int .u8 0, .int .u8 0, .int .u8 0, .int .u8 0, .int .u8 0, .int .u8 0, .int .u8 0, .int .u8 0, .int .u8 0, .int .u8 0, .int .u8 0, .int .u8 0, .int .u8 0, .int .u8 0, .int .u8 0, .int .u8 0, .int .u8 0, .int .u8 0, .int .u8 0, .int .u8 0, .int .u8 0, .int .u8 0]) := e137.zero
theorem c137 : Tryd.prog.cellsOf 137 = 32 := e137.cellsOf
theorem e139 : ElemZ Tryd.prog 139 (.agg #[.pointer none, .pointer none, .pointer none, .string ⟨#[]⟩]) := .of (by kernel_rfl) (by kernel_rfl)
theorem z139 : zeroOf Tryd.prog 139 = some (.agg #[.pointer none, .pointer none, .pointer none, .string ⟨#[]⟩]) := e139.zero
theorem c139 : Tryd.prog.cellsOf 139 = 4 := e139.cellsOf
theorem e140 : ElemZ Tryd.prog 140 (.agg #[.pointer none, .pointer none, .pointer none, .string ⟨#[]⟩]) := .of (by kernel_rfl) (by kernel_rfl)
theorem z140 : zeroOf Tryd.prog 140 = some (.agg #[.pointer none, .pointer none, .pointer none, .string ⟨#[]⟩]) := e140.zero
theorem c140 : Tryd.prog.cellsOf 140 = 4 := e140.cellsOf
theorem e144 : ElemZ Tryd.prog 144 (.int .u8 0) := .of (by kernel_rfl) (by kernel_rfl)
theorem z144 : zeroOf Tryd.prog 144 = some (.int .u8 0) := e144.zero
theorem c144 : Tryd.prog.cellsOf 144 = 1 := e144.cellsOf
theorem e145 : ElemZ Tryd.prog 145 (.int .u8 0) := .of (by kernel_rfl) (by kernel_rfl)
theorem z145 : zeroOf Tryd.prog 145 = some (.int .u8 0) := e145.zero
theorem c145 : Tryd.prog.cellsOf 145 = 1 := e145.cellsOf
theorem e146 : ElemZ Tryd.prog 146 (.nilFunc) := .of (by kernel_rfl) (by kernel_rfl)
theorem z146 : zeroOf Tryd.prog 146 = some (.nilFunc) := e146.zero
theorem c146 : Tryd.prog.cellsOf 146 = 1 := e146.cellsOf
theorem e147 : ElemZ Tryd.prog 147 (.int .i32 0) := .of (by kernel_rfl) (by kernel_rfl)
theorem z147 : zeroOf Tryd.prog 147 = some (.int .i32 0) := e147.zero
theorem c147 : Tryd.prog.cellsOf 147 = 1 := e147.cellsOf
theorem e148 : ElemZ Tryd.prog 148 (.int .i32 0) := .of (by kernel_rfl) (by kernel_rfl)
theorem z148 : zeroOf Tryd.prog 148 = some (.int .i32 0) := e148.zero
theorem c148 : Tryd.prog.cellsOf 148 = 1 := e148.cellsOf
theorem e149 : ElemZ Tryd.prog 149 (.agg #[.int .u64 0, .int .u64 0, .int .u32 0, .int .u8 0, .int .u8 0, .int .u8 0, .int .u8 0, .nilFunc, .pointer none, .int .i32 0, .int .i32 0]) := .of (by kernel_rfl) (by kernel_rfl)
theorem z149 : zeroOf Tryd.prog 149 = some (.agg #[.int .u64 0, .int .u64 0, .int .u32 0, .int .u8 0, .int .u8 0, .int .u8 0, .int .u8 0, .nilFunc, .pointer none, .int .i32 0, .int .i32 0]) := e149.zero
theorem c149 : Tryd.prog.cellsOf 149 = 11 := e149.cellsOf
theorem e150 : ElemZ Tryd.prog 150 (.agg #[.int .u64 0, .int .u64 0, .int .u32 0, .int .u8 0, .int .u8 0, .int .u8 0, .int .u8 0, .nilFunc, .pointer none, .int .i32 0, .int .i32 0]) := .of (by kernel_rfl) (by kernel_rfl)
theorem z150 : zeroOf Tryd.prog 150 = some (.agg #[.int .u64 0, .int .u64 0, .int .u32 0, .int .u8 0, .int .u8 0, .int .u8 0, .int .u8 0, .nilFunc, .pointer none, .int .i32 0, .int .i32 0]) := e150.zero
theorem c150 : Tryd.prog.cellsOf 150 = 11 := e150.cellsOf
theorem k1 {K : Prop} : Chk (ElemZ Tryd.prog 1 (.nilFunc)) K = K := Chk_of e1
theorem k2 {K : Prop} : Chk (ElemZ Tryd.prog 2 (.int .i64 0)) K = K := Chk_of e2
theorem k3 {K : Prop} : Chk (ElemZ Tryd.prog 3 (.int .i64 0)) K = K := Chk_of e3
theorem k4 {K : Prop} : Chk (ElemZ Tryd.prog 4 (.bool false)) K = K := Chk_of e4
theorem k5 {K : Prop} : Chk (ElemZ Tryd.prog 5 (.int .u8 0)) K = K := Chk_of e5
theorem k6 {K : Prop} : Chk (ElemZ Tryd.prog 6 (.int .u8 0)) K = K := Chk_of e6
theorem k7 {K : Prop} : Chk (ElemZ Tryd.prog 7 (.agg #[.int .i64 0, .int .i64 0, .bool false, .int .u8 0])) K = K := Chk_of e7
theorem k8 {K : Prop} : Chk (ElemZ Tryd.prog 8 (.agg #[.int .i64 0, .int .i64 0, .bool false, .int .u8 0])) K = K := Chk_of e8
theorem k9 {K : Prop} : Chk (ElemZ Tryd.prog 9 (.string ⟨#[]⟩)) K = K := Chk_of e9
theorem k10 {K : Prop} : Chk (ElemZ Tryd.prog 10 (.string ⟨#[]⟩)) K = K := Chk_of e10
theorem k11 {K : Prop} : Chk (ElemZ Tryd.prog 11 (.string ⟨#[]⟩)) K = K := Chk_of e11
theorem k12 {K : Prop} : Chk (ElemZ Tryd.prog 12 (.int .u64 0)) K = K := Chk_of e12
theorem k13 {K : Prop} : Chk (ElemZ Tryd.prog 13 (.agg #[.string ⟨#[]⟩, .int .u64 0])) K = K := Chk_of e13
theorem k14 {K : Prop} : Chk (ElemZ Tryd.prog 14 (.agg #[.string ⟨#[]⟩, .int .u64 0])) K = K := Chk_of e14
theorem k15 {K : Prop} : Chk (ElemZ Tryd.prog 15 (.pointer none)) K = K := Chk_of e15
theorem k16 {K : Prop} : Chk (ElemZ Tryd.prog 16 (.pointer none)) K = K := Chk_of e16
theorem k17 {K : Prop} : Chk (ElemZ Tryd.prog 17 (.pointer none)) K = K := Chk_of e17
theorem k18 {K : Prop} : Chk (ElemZ Tryd.prog 18 (.agg #[.pointer none])) K = K := Chk_of e18
theorem k19 {K : Prop} : Chk (ElemZ Tryd.prog 19 (.agg #[.pointer none])) K = K := Chk_of e19
theorem k20 {K : Prop} : Chk (ElemZ Tryd.prog 20 (.nilIface)) K = K := Chk_of e20
theorem k21 {K : Prop} : Chk (ElemZ Tryd.prog 21 (.int .i32 0)) K = K := Chk_of e21
theorem k22 {K : Prop} : Chk (ElemZ Tryd.prog 22 (.slice none 0 0)) K = K := Chk_of e22
theorem k23 {K : Prop} : Chk (ElemZ Tryd.prog 23 (.slice none 0 0)) K = K := Chk_of e23
theorem k24 {K : Prop} : Chk (ElemZ Tryd.prog 24 (.nilFunc)) K = K := Chk_of e24
theorem k25 {K : Prop} : Chk (ElemZ Tryd.prog 25 (.int .i64 0)) K = K := Chk_of e25
theorem k27 {K : Prop} : Chk (ElemZ Tryd.prog 27 (.nilFunc)) K = K := Chk_of e27
theorem k29 {K : Prop} : Chk (ElemZ Tryd.prog 29 (.nilFunc)) K = K := Chk_of e29
theorem k30 {K : Prop} : Chk (ElemZ Tryd.prog 30 (.nilFunc)) K = K := Chk_of e30
theorem k31 {K : Prop} : Chk (ElemZ Tryd.prog 31 (.nilFunc)) K = K := Chk_of e31
theorem k32 {K : Prop} : Chk (ElemZ Tryd.prog 32 (.nilFunc)) K = K := Chk_of e32
theorem k33 {K : Prop} : Chk (ElemZ Tryd.prog 33 (.nilFunc)) K = K := Chk_of e33
theorem k35 {K : Prop} : Chk (ElemZ Tryd.prog 35 (.nilFunc)) K = K := Chk_of e35
theorem k37 {K : Prop} : Chk (ElemZ Tryd.prog 37 (.nilFunc)) K = K := Chk_of e37
theorem k38 {K : Prop} : Chk (ElemZ Tryd.prog 38 (.nilFunc)) K = K := Chk_of e38
theorem k39 {K : Prop} : Chk (ElemZ Tryd.prog 39 (.nilFunc)) K = K := Chk_of e39
theorem k40 {K : Prop} : Chk (ElemZ Tryd.prog 40 (.nilFunc)) K = K := Chk_of e40
theorem k42 {K : Prop} : Chk (ElemZ Tryd.prog 42 (.nilFunc)) K = K := Chk_of e42
theorem k43 {K : Prop} : Chk (ElemZ Tryd.prog 43 (.nilFunc)) K = K := Chk_of e43
theorem k44 {K : Prop} : Chk (ElemZ Tryd.prog 44 (.nilFunc)) K = K := Chk_of e44
theorem k45 {K : Prop} : Chk (ElemZ Tryd.prog 45 (.nilFunc)) K = K := Chk_of e45
theorem k46 {K : Prop} : Chk (ElemZ Tryd.prog 46 (.nilFunc)) K = K := Chk_of e46
theorem k47 {K : Prop} : Chk (ElemZ Tryd.prog 47 (.nilIface)) K = K := Chk_of e47
theorem k48 {K : Prop} : Chk (ElemZ Tryd.prog 48 (.nilIface)) K = K := Chk_of e48
theorem k50 {K : Prop} : Chk (ElemZ Tryd.prog 50 (.nilFunc)) K = K := Chk_of e50
theorem k51 {K : Prop} : Chk (ElemZ Tryd.prog 51 (.nilFunc)) K = K := Chk_of e51
theorem k52 {K : Prop} : Chk (ElemZ Tryd.prog 52 (.nilFunc)) K = K := Chk_of e52
theorem k54 {K : Prop} : Chk (ElemZ Tryd.prog 54 (.nilFunc)) K = K := Chk_of e54
theorem k55 {K : Prop} : Chk (ElemZ Tryd.prog 55 (.nilFunc)) K = K := Chk_of e55
theorem k57 {K : Prop} : Chk (ElemZ Tryd.prog 57 (.nilFunc)) K = K := Chk_of e57
theorem k58 {K : Prop} : Chk (ElemZ Tryd.prog 58 (.slice none 0 0)) K = K := Chk_of e58
theorem k59 {K : Prop} : Chk (ElemZ Tryd.prog 59 (.nilFunc)) K = K := Chk_of e59
theorem k60 {K : Prop} : Chk (ElemZ Tryd.prog 60 (.nilFunc)) K = K := Chk_of e60
theorem k61 {K : Prop} : Chk (ElemZ Tryd.prog 61 (.nilFunc)) K = K := Chk_of e61
theorem k62 {K : Prop} : Chk (ElemZ Tryd.prog 62 (.nilFunc)) K = K := Chk_of e62
theorem k63 {K : Prop} : Chk (ElemZ Tryd.prog 63 (.nilFunc)) K = K := Chk_of e63
theorem k64 {K : Prop} : Chk (ElemZ Tryd.prog 64 (.nilFunc)) K = K := Chk_of e64
theorem k68 {K : Prop} : Chk (ElemZ Tryd.prog 68 (.nilFunc)) K = K := Chk_of e68
theorem k69 {K : Prop} : Chk (ElemZ Tryd.prog 69 (.nilFunc)) K = K := Chk_of e69
theorem k70 {K : Prop} : Chk (ElemZ Tryd.prog 70 (.pointer none)) K = K := Chk_of e70
theorem k71 {K : Prop} : Chk (ElemZ Tryd.prog 71 (.nilFunc)) K = K := Chk_of e71
theorem k72 {K : Prop} : Chk (ElemZ Tryd.prog 72 (.int .u64 0)) K = K := Chk_of e72
theorem k74 {K : Prop} : Chk (ElemZ Tryd.prog 74 (.nilFunc)) K = K := Chk_of e74
theorem k75 {K : Prop} : Chk (ElemZ Tryd.prog 75 (.pointer none)) K = K := Chk_of e75
theorem k76 {K : Prop} : Chk (ElemZ Tryd.prog 76 (.slice none 0 0)) K = K := Chk_of e76
theorem k77 {K : Prop} : Chk (ElemZ Tryd.prog 77 (.agg #[.pointer none, .slice none 0 0])) K = K := Chk_of e77
theorem k78 {K : Prop} : Chk (ElemZ Tryd.prog 78 (.agg #[.pointer none, .slice none 0 0])) K = K := Chk_of e78
theorem k79 {K : Prop} : Chk (ElemZ Tryd.prog 79 (.nilFunc)) K = K := Chk_of e79
theorem k81 {K : Prop} : Chk (ElemZ Tryd.prog 81 (.nilFunc)) K = K := Chk_of e81
theorem k82 {K : Prop} : Chk (ElemZ Tryd.prog 82 (.nilFunc)) K = K := Chk_of e82
theorem k83 {K : Prop} : Chk (ElemZ Tryd.prog 83 (.nilFunc)) K = K := Chk_of e83
theorem k84 {K : Prop} : Chk (ElemZ Tryd.prog 84 (.nilFunc)) K = K := Chk_of e84
theorem k85 {K : Prop} : Chk (ElemZ Tryd.prog 85 (.nilFunc)) K = K := Chk_of e85
theorem k86 {K : Prop} : Chk (ElemZ Tryd.prog 86 (.nilFunc)) K = K := Chk_of e86
theorem k88 {K : Prop} : Chk (ElemZ Tryd.prog 88 (.nilFunc)) K = K := Chk_of e88
theorem k89 {K : Prop} : Chk (ElemZ Tryd.prog 89 (.nilFunc)) K = K := Chk_of e89
theorem k91 {K : Prop} : Chk (ElemZ Tryd.prog 91 (.nilFunc)) K = K := Chk_of e91
theorem k92 {K : Prop} : Chk (ElemZ Tryd.prog 92 (.nilFunc)) K = K := Chk_of e92
theorem k93 {K : Prop} : Chk (ElemZ Tryd.prog 93 (.int .i64 0)) K = K := Chk_of e93
theorem k94 {K : Prop} : Chk (ElemZ Tryd.prog 94 (.int .u64 0)) K = K := Chk_of e94
theorem k96 {K : Prop} : Chk (ElemZ Tryd.prog 96 (.nilFunc)) K = K := Chk_of e96
theorem k97 {K : Prop} : Chk (ElemZ Tryd.prog 97 (.pointer none)) K = K := Chk_of e97
theorem k98 {K : Prop} : Chk (ElemZ Tryd.prog 98 (.nilFunc)) K = K := Chk_of e98
theorem k99 {K : Prop} : Chk (ElemZ Tryd.prog 99 (.nilFunc)) K = K := Chk_of e99
theorem k100 {K : Prop} : Chk (ElemZ Tryd.prog 100 (.agg #[.int .u8 0, .int .u8 0, .int .u8 0, .int .u8 0, .int .u8 0, .int .u8 0, .int .u8 0, .int .u8 0, .int .u8 0, .int .u8 0, .int .u8 0, .int .u8 0, .int .u8 0, .int .u8 0, .int .u8 0, .int .u8 0, .int .u8 0, .int .u8 0, .int .u8 0, .int .u8 0, .int .u8 0, .int .u8 0, .int .u8 0, .int .u8 0])) K = K := Chk_of e100
theorem k101 {K : Prop} : Chk (ElemZ Tryd.prog 101 (.nilFunc)) K = K := Chk_of e101
theorem k102 {K : Prop} : Chk (ElemZ Tryd.prog 102 (.nilFunc)) K = K := Chk_of e102
theorem k104 {K : Prop} : Chk (ElemZ Tryd.prog 104 (.nilFunc)) K = K := Chk_of e104
theorem k105 {K : Prop} : Chk (ElemZ Tryd.prog 105 (.int .u32 0)) K = K := Chk_of e105
theorem k107 {K : Prop} : Chk (ElemZ Tryd.prog 107 (.nilFunc)) K = K := Chk_of e107
theorem k109 {K : Prop} : Chk (ElemZ Tryd.prog 109 (.nilFunc)) K = K := Chk_of e109
theorem k110 {K : Prop} : Chk (ElemZ Tryd.prog 110 (.pointer none)) K = K := Chk_of e110
theorem k111 {K : Prop} : Chk (ElemZ Tryd.prog 111 (.nilFunc)) K = K := Chk_of e111
theorem k112 {K : Prop} : Chk (ElemZ Tryd.prog 112 (.nilFunc)) K = K := Chk_of e112
theorem k113 {K : Prop} : Chk (ElemZ Tryd.prog 113 (.nilFunc)) K = K := Chk_of e113
theorem k114 {K : Prop} : Chk (ElemZ Tryd.prog 114 (.agg #[.string ⟨#[]⟩, .string ⟨#[]⟩, .nilIface])) K = K := Chk_of e114
theorem k115 {K : Prop} : Chk (ElemZ Tryd.prog 115 (.agg #[.string ⟨#[]⟩, .string ⟨#[]⟩, .nilIface])) K = K := Chk_of e115
theorem k116 {K : Prop} : Chk (ElemZ Tryd.prog 116 (.nilFunc)) K = K := Chk_of e116
theorem k117 {K : Prop} : Chk (ElemZ Tryd.prog 117 (.nilFunc)) K = K := Chk_of e117
theorem k118 {K : Prop} : Chk (ElemZ Tryd.prog 118 (.nilFunc)) K = K := Chk_of e118
theorem k119 {K : Prop} : Chk (ElemZ Tryd.prog 119 (.agg #[.int .u64 0, .int .u64 0, .int .u64 0, .int .u64 0, .int .u64 0, .int .u64 0, .int .u64 0, .int .u64 0, .int .u64 0, .int .u64 0, .int .u64 0, .int .u64 0, .int .u64 0, .int .u64 0, .int .u64 0, .int .u64 0, .int .u64 0, .int .u64 0, .int .u64 0, .int .u64 0])) K = K := Chk_of e119
theorem k121 {K : Prop} : Chk (ElemZ Tryd.prog 121 (.nilFunc)) K = K := Chk_of e121
theorem k122 {K : Prop} : Chk (ElemZ Tryd.prog 122 (.nilFunc)) K = K := Chk_of e122
theorem k123 {K : Prop} : Chk (ElemZ Tryd.prog 123 (.pointer none)) K = K := Chk_of e123
theorem k124 {K : Prop} : Chk (ElemZ Tryd.prog 124 (.nilFunc)) K = K := Chk_of e124
theorem k125 {K : Prop} : Chk (ElemZ Tryd.prog 125 (.nilFunc)) K = K := Chk_of e125
theorem k127 {K : Prop} : Chk (ElemZ Tryd.prog 127 (.agg #[.int .u8 0, .int .u8 0])) K = K := Chk_of e127
theorem k128 {K : Prop} : Chk (ElemZ Tryd.prog 128 (.agg #[.int .u8 0, .int .u8 0])) K = K := Chk_of e128
theorem k129 {K : Prop} : Chk (ElemZ Tryd.prog 129 (.agg #[.int .u8 0, .int .u8 0, .int .u8 0, .int .u8 0, .int .u8 0, .int .u8 0, .int .u8 0, .int .u8 0, .int .u8 0, .int .u8 0, .int .u8 0, .int .u8 0, .int .u8 0, .int .u8 0, .int .u8 0, .int .u8 0, .int .u8 0, .int .u8 0, .int .u8 0, .int .u8 0, .int .u8 0, .int .u8 0, .int .u8 0, .int .u8 0, .int .u8 0, .int .u8 0, .int .u8 0, .int .u8 0, .int .u8 0, .int .u8 0, .int .u8 0, .int .u8 0])) K = K := Chk_of e129
theorem k130 {K : Prop} : Chk (ElemZ Tryd.prog 130 (.nilFunc)) K = K := Chk_of e130
theorem k131 {K : Prop} : Chk (ElemZ Tryd.prog 131 (.nilFunc)) K = K := Chk_of e131
theorem k132 {K : Prop} : Chk (ElemZ Tryd.prog 132 (.nilFunc)) K = K := Chk_of e132
theorem k133 {K : Prop} : Chk (ElemZ Tryd.prog 133 (.pointer none)) K = K := Chk_of e133
theorem k134 {K : Prop} : Chk (ElemZ Tryd.prog 134 (.agg #[.string ⟨#[]⟩])) K = K := Chk_of e134
theorem k135 {K : Prop} : Chk (ElemZ Tryd.prog 135 (.agg #[.string ⟨#[]⟩])) K = K := Chk_of e135
theorem k136 {K : Prop} : Chk (ElemZ Tryd.prog 136 (.nilFunc)) K = K := Chk_of e136
theorem k137 {K : Prop} : Chk (ElemZ Tryd.prog 137 (.agg #[.int .u8 0, .int .u8 0, .int .u8 0, .int .u8 0, .int .u8 0, .int .u8 0, .int .u8 0, .int .u8 0, .int .u8 0, .int .u8 0, .int .u8 0, .int .u8 0, .int .u8 0, .int .u8 0, .int .u8 0, .int .u8 0, .int .u8 0, .int .u8 0, .int .u8 0, .int .u8 0, .int .u8 0, .int .u8 0, .int .u8 0, .int .u8 0, .int .u8 0, .int .u8 0, .int .u8 0, .int .u8 0, .int .u8 0, .int .u8 0, .int .u8 0, .int .u8 0])) K = K := Chk_of e137
theorem k139 {K : Prop} : Chk (ElemZ Tryd.prog 139 (.agg #[.pointer none, .pointer none, .pointer none, .string ⟨#[]⟩])) K = K := Chk_of e139
theorem k140 {K : Prop} : Chk (ElemZ Tryd.prog 140 (.agg #[.pointer none, .pointer none, .pointer none, .string ⟨#[]⟩])) K = K := Chk_of e140
theorem k144 {K : Prop} : Chk (ElemZ Tryd.prog 144 (.int .u8 0)) K = K := Chk_of e144
theorem k145 {K : Prop} : Chk (ElemZ Tryd.prog 145 (.int .u8 0)) K = K := Chk_of e145
theorem k146 {K : Prop} : Chk (ElemZ Tryd.prog 146 (.nilFunc)) K = K := Chk_of e146
theorem k147 {K : Prop} : Chk (ElemZ Tryd.prog 147 (.int .i32 0)) K = K := Chk_of e147
theorem k148 {K : Prop} : Chk (ElemZ Tryd.prog 148 (.int .i32 0)) K = K := Chk_of e148
theorem k149 {K : Prop} : Chk (ElemZ Tryd.prog 149 (.agg #[.int .u64 0, .int .u64 0, .int .u32 0, .int .u8 0, .int .u8 0, .int .u8 0, .int .u8 0, .nilFunc, .pointer none, .int .i32 0, .int .i32 0])) K = K := Chk_of e149
theorem k150 {K : Prop} : Chk (ElemZ Tryd.prog 150 (.agg #[.int .u64 0, .int .u64 0, .int .u32 0, .int .u8 0, .int .u8 0, .int .u8 0, .int .u8 0, .nilFunc, .pointer none, .int .i32 0, .int .i32 0])) K = K := Chk_of e150
attribute [go_sem] Tryd.underlying0 Tryd.underlying1 Tryd.underlying2 Tryd.underlying3 Tryd.underlying4 Tryd.underlying5 Tryd.underlying6 Tryd.underlying7 Tryd.underlying8 Tryd.underlying9 Tryd.underlying10 Tryd.underlying11
attribute [go_sem] Tryd.underlying12 Tryd.underlying13 Tryd.underlying14 Tryd.underlying15 Tryd.underlying16 Tryd.underlying17 Tryd.underlying18 Tryd.underlying19 Tryd.underlying20 Tryd.underlying21 Tryd.underlying22 Tryd.underlying23
attribute [go_sem] Tryd.underlying24 Tryd.underlying25 Tryd.underlying26 Tryd.underlying27 Tryd.underlying28 Tryd.underlying29 Tryd.underlying30 Tryd.underlying31 Tryd.underlying32 Tryd.underlying33 Tryd.underlying34 Tryd.underlying35
attribute [go_sem] Tryd.underlying36 Tryd.underlying37 Tryd.underlying38 Tryd.underlying39 Tryd.underlying40 Tryd.underlying41 Tryd.underlying42 Tryd.underlying43 Tryd.underlying44 Tryd.underlying45 Tryd.underlying46 Tryd.underlying47
attribute [go_sem] Tryd.underlying48 Tryd.underlying49 Tryd.underlying50 Tryd.underlying51 Tryd.underlying52 Tryd.underlying53 Tryd.underlying54 Tryd.underlying55 Tryd.underlying56 Tryd.underlying57 Tryd.underlying58 Tryd.underlying59
attribute [go_sem] Tryd.underlying60 Tryd.underlying61 Tryd.underlying62 Tryd.underlying63 Tryd.underlying64 Tryd.underlying65 Tryd.underlying66 Tryd.underlying67 Tryd.underlying68 Tryd.underlying69 Tryd.underlying70 Tryd.underlying71
attribute [go_sem] Tryd.underlying72 Tryd.underlying73 Tryd.underlying74 Tryd.underlying75 Tryd.underlying76 Tryd.underlying77 Tryd.underlying78 Tryd.underlying79 Tryd.underlying80 Tryd.underlying81 Tryd.underlying82 Tryd.underlying83
attribute [go_sem] Tryd.underlying84 Tryd.underlying85 Tryd.underlying86 Tryd.underlying87 Tryd.underlying88 Tryd.underlying89 Tryd.underlying90 Tryd.underlying91 Tryd.underlying92 Tryd.underlying93 Tryd.underlying94 Tryd.underlying95
attribute [go_sem] Tryd.underlying96 Tryd.underlying97 Tryd.underlying98 Tryd.underlying99 Tryd.underlying100 Tryd.underlying101 Tryd.underlying102 Tryd.underlying103 Tryd.underlying104 Tryd.underlying105 Tryd.underlying106 Tryd.underlying107
attribute [go_sem] Tryd.underlying108 Tryd.underlying109 Tryd.underlying110 Tryd.underlying111 Tryd.underlying112 Tryd.underlying113 Tryd.underlying114 Tryd.underlying115 Tryd.underlying116 Tryd.underlying117 Tryd.underlying118 Tryd.underlying119
attribute [go_sem] Tryd.underlying120 Tryd.underlying121 Tryd.underlying122 Tryd.underlying123 Tryd.underlying124 Tryd.underlying125 Tryd.underlying126 Tryd.underlying127 Tryd.underlying128 Tryd.underlying129 Tryd.underlying130 Tryd.underlying131
attribute [go_sem] Tryd.underlying132 Tryd.underlying133 Tryd.underlying134 Tryd.underlying135 Tryd.underlying136 Tryd.underlying137 Tryd.underlying138 Tryd.underlying139 Tryd.underlying140 Tryd.underlying141 Tryd.underlying142 Tryd.underlying143
attribute [go_sem] Tryd.underlying144 Tryd.underlying145 Tryd.underlying146 Tryd.underlying147 Tryd.underlying148 Tryd.underlying149 Tryd.underlying150 k1 z1 c1 k2 z2
attribute [go_sem] c2 k3 z3 c3 k4 z4 c4 k5 z5 c5 k6 z6
attribute [go_sem] c6 k7 z7 c7 k8 z8 c8 k9 z9 c9 k10 z10
attribute [go_sem] c10 k11 z11 c11 k12 z12 c12 k13 z13 c13 k14 z14
attribute [go_sem] c14 k15 z15 c15 k16 z16 c16 k17 z17 c17 k18 z18
attribute [go_sem] c18 k19 z19 c19 k20 z20 c20 k21 z21 c21 k22 z22
attribute [go_sem] c22 k23 z23 c23 k24 z24 c24 k25 z25 c25 k27 z27
attribute [go_sem] c27 k29 z29 c29 k30 z30 c30 k31 z31 c31 k32 z32
attribute [go_sem] c32 k33 z33 c33 k35 z35 c35 k37 z37 c37 k38 z38
attribute [go_sem] c38 k39 z39 c39 k40 z40 c40 k42 z42 c42 k43 z43
attribute [go_sem] c43 k44 z44 c44 k45 z45 c45 k46 z46 c46 k47 z47
attribute [go_sem] c47 k48 z48 c48 k50 z50 c50 k51 z51 c51 k52 z52
attribute [go_sem] c52 k54 z54 c54 k55 z55 c55 k57 z57 c57 k58 z58
attribute [go_sem] c58 k59 z59 c59 k60 z60 c60 k61 z61 c61 k62 z62
attribute [go_sem] c62 k63 z63 c63 k64 z64 c64 k68 z68 c68 k69 z69
attribute [go_sem] c69 k70 z70 c70 k71 z71 c71 k72 z72 c72 k74 z74
attribute [go_sem] c74 k75 z75 c75 k76 z76 c76 k77 z77 c77 k78 z78
attribute [go_sem] c78 k79 z79 c79 k81 z81 c81 k82 z82 c82 k83 z83
attribute [go_sem] c83 k84 z84 c84 k85 z85 c85 k86 z86 c86 k88 z88
attribute [go_sem] c88 k89 z89 c89 k91 z91 c91 k92 z92 c92 k93 z93
attribute [go_sem] c93 k94 z94 c94 k96 z96 c96 k97 z97 c97 k98 z98
attribute [go_sem] c98 k99 z99 c99 k100 z100 c100 k101 z101 c101 k102 z102
attribute [go_sem] c102 k104 z104 c104 k105 z105 c105 k107 z107 c107 k109 z109
attribute [go_sem] c109 k110 z110 c110 k111 z111 c111 k112 z112 c112 k113 z113
attribute [go_sem] c113 k114 z114 c114 k115 z115 c115 k116 z116 c116 k117 z117
attribute [go_sem] c117 k118 z118 c118 k119 z119 c119 k121 z121 c121 k122 z122
attribute [go_sem] c122 k123 z123 c123 k124 z124 c124 k125 z125 c125 k127 z127
attribute [go_sem] c127 k128 z128 c128 k129 z129 c129 k130 z130 c130 k131 z131
attribute [go_sem] c131 k132 z132 c132 k133 z133 c133 k134 z134 c134 k135 z135
attribute [go_sem] c135 k136 z136 c136 k137 z137 c137 k139 z139 c139 k140 z140
attribute [go_sem] c140 k144 z144 c144 k145 z145 c145 k146 z146 c146 k147 z147
attribute [go_sem] c147 k148 z148 c148 k149 z149 c149 k150 z150 c150
end Go.Fv.D
