/-
  A part of the proof of the claim: walks over the program's functions and the plain laws that these need. No condition of its own.
-/
import Derived.Test.YtpbllkibobnifaaDoorFvPart11
import Derived.Test.YtpbllkibobnifaaDoorFvPart12
import Derived.Test.YtpbllkibobnifaaDoorProg
set_option linter.unusedSimpArgs false
set_option linter.unusedVariables false
set_option maxRecDepth 8000
set_option linter.unnecessarySimpa false
namespace Go.Fv.L
def sumTo (f:Nat→Int):Nat→Int
 | 0=>0
 | n+1=>sumTo f n+f n
def tab (v:Nat→Int) (w x y:Nat):Int:=sumTo (fun j=>sumTo (fun i=>v (j*w+i)) x) y
end Go.Fv.L
/- Facts about the program's types: each shown by reckoning it out. -/
namespace Go.Fv.L
open Go Go.Proofs
theorem e1:bH Tryd.prog 1 (.nilFunc):=.of (by kernel_rfl) (by kernel_rfl)
theorem z1:zeroOf Tryd.prog 1=some (.nilFunc):=e1.zero
theorem c1:Tryd.prog.cellsOf 1=1:=e1.cellsOf
theorem e2:bH Tryd.prog 2 (.int .i64 0):=.of (by kernel_rfl) (by kernel_rfl)
theorem z2:zeroOf Tryd.prog 2=some (.int .i64 0):=e2.zero
theorem c2:Tryd.prog.cellsOf 2=1:=e2.cellsOf
theorem e3:bH Tryd.prog 3 (.int .i64 0):=.of (by kernel_rfl) (by kernel_rfl)
theorem z3:zeroOf Tryd.prog 3=some (.int .i64 0):=e3.zero
theorem c3:Tryd.prog.cellsOf 3=1:=e3.cellsOf
theorem e4:bH Tryd.prog 4 (.bool false):=.of (by kernel_rfl) (by kernel_rfl)
theorem z4:zeroOf Tryd.prog 4=some (.bool false):=e4.zero
theorem c4:Tryd.prog.cellsOf 4=1:=e4.cellsOf
theorem e5:bH Tryd.prog 5 (.int .u8 0):=.of (by kernel_rfl) (by kernel_rfl)
theorem z5:zeroOf Tryd.prog 5=some (.int .u8 0):=e5.zero
theorem c5:Tryd.prog.cellsOf 5=1:=e5.cellsOf
theorem e6:bH Tryd.prog 6 (.int .u8 0):=.of (by kernel_rfl) (by kernel_rfl)
theorem z6:zeroOf Tryd.prog 6=some (.int .u8 0):=e6.zero
theorem e9:bH Tryd.prog 9 (.string ⟨#[]⟩):=.of (by kernel_rfl) (by kernel_rfl)
theorem e12:bH Tryd.prog 12 (.int .u64 0):=.of (by kernel_rfl) (by kernel_rfl)
theorem e17:bH Tryd.prog 17 (.pointer none):=.of (by kernel_rfl) (by kernel_rfl)
theorem e22:bH Tryd.prog 22 (.slice none 0 0):=.of (by kernel_rfl) (by kernel_rfl)
theorem Ym:Tryd.prog.cellsOf 22=1:=e22.cellsOf
theorem e24:bH Tryd.prog 24 (.agg #[.int .i64 0,.int .i64 0,.slice none 0 0]):=.of (by kernel_rfl) (by kernel_rfl)
theorem z24:zeroOf Tryd.prog 24=some (.agg #[.int .i64 0,.int .i64 0,.slice none 0 0]):=e24.zero
theorem c24:Tryd.prog.cellsOf 24=3:=e24.cellsOf
theorem e28:bH Tryd.prog 28 (.int .i64 0):=.of (by kernel_rfl) (by kernel_rfl)
theorem z28:zeroOf Tryd.prog 28=some (.int .i64 0):=e28.zero
theorem c28:Tryd.prog.cellsOf 28=1:=e28.cellsOf
theorem e33:bH Tryd.prog 33 (.agg #[.int .i64 0,.int .i64 0,.int .i64 0,.int .i64 0]):=.of (by kernel_rfl) (by kernel_rfl)
theorem z33:zeroOf Tryd.prog 33=some (.agg #[.int .i64 0,.int .i64 0,.int .i64 0,.int .i64 0]):=e33.zero
theorem Xt:Tryd.prog.cellsOf 33=4:=e33.cellsOf
theorem e35:bH Tryd.prog 35 (.agg #[.int .i64 0,.int .i64 0,.int .i64 0,.int .i64 0,.bool false]):=.of (by kernel_rfl) (by kernel_rfl)
theorem z35:zeroOf Tryd.prog 35=some (.agg #[.int .i64 0,.int .i64 0,.int .i64 0,.int .i64 0,.bool false]):=e35.zero
theorem Yn:Tryd.prog.cellsOf 35=5:=e35.cellsOf
theorem e48:bH Tryd.prog 48 (.nilFunc):=.of (by kernel_rfl) (by kernel_rfl)
theorem YA:Tryd.prog.cellsOf 48=1:=e48.cellsOf
theorem e50:bH Tryd.prog 50 (.slice none 0 0):=.of (by kernel_rfl) (by kernel_rfl)
theorem z50:zeroOf Tryd.prog 50=some (.slice none 0 0):=e50.zero
theorem YB:Tryd.prog.cellsOf 50=1:=e50.cellsOf
theorem e51:bH Tryd.prog 51 (.slice none 0 0):=.of (by kernel_rfl) (by kernel_rfl)
theorem z51:zeroOf Tryd.prog 51=some (.slice none 0 0):=e51.zero
theorem c51:Tryd.prog.cellsOf 51=1:=e51.cellsOf
theorem e55:bH Tryd.prog 55 (.agg #[.int .i64 0,.int .i64 0]):=.of (by kernel_rfl) (by kernel_rfl)
theorem z55:zeroOf Tryd.prog 55=some (.agg #[.int .i64 0,.int .i64 0]):=e55.zero
theorem YC:Tryd.prog.cellsOf 55=2:=e55.cellsOf
theorem e59:bH Tryd.prog 59 (.agg #[.int .i64 0,.int .i64 0,.int .i64 0,.int .i64 0,.bool false,.int .i64 0,.int .i64 0]):=.of (by kernel_rfl) (by kernel_rfl)
theorem z59:zeroOf Tryd.prog 59=some (.agg #[.int .i64 0,.int .i64 0,.int .i64 0,.int .i64 0,.bool false,.int .i64 0,.int .i64 0]):=e59.zero
theorem c59:Tryd.prog.cellsOf 59=7:=e59.cellsOf
theorem e64:bH Tryd.prog 64 (.nilFunc):=.of (by kernel_rfl) (by kernel_rfl)
theorem z64:zeroOf Tryd.prog 64=some (.nilFunc):=e64.zero
theorem c64:Tryd.prog.cellsOf 64=1:=e64.cellsOf
theorem Xw:bH Tryd.prog 72 (.agg #[.int .i64 0,.int .i64 0,.int .i64 0,.int .i64 0,.bool false,.int .i64 0,.int .i64 0]):=.of (by kernel_rfl) (by kernel_rfl)
theorem z72:zeroOf Tryd.prog 72=some (.agg #[.int .i64 0,.int .i64 0,.int .i64 0,.int .i64 0,.bool false,.int .i64 0,.int .i64 0]):=Xw.zero
theorem c72:Tryd.prog.cellsOf 72=7:=Xw.cellsOf
theorem Xx:bH Tryd.prog 81 (.agg #[.int .i64 0,.int .i64 0,.int .i64 0]):=.of (by kernel_rfl) (by kernel_rfl)
theorem YQ:zeroOf Tryd.prog 81=some (.agg #[.int .i64 0,.int .i64 0,.int .i64 0]):=Xx.zero
theorem YD:Tryd.prog.cellsOf 81=3:=Xx.cellsOf
theorem Yo:bH Tryd.prog 86 (.slice none 0 0):=.of (by kernel_rfl) (by kernel_rfl)
theorem z86:zeroOf Tryd.prog 86=some (.slice none 0 0):=Yo.zero
theorem YE:Tryd.prog.cellsOf 86=1:=Yo.cellsOf
theorem Yp:bH Tryd.prog 87 (.nilFunc):=.of (by kernel_rfl) (by kernel_rfl)
theorem z87:zeroOf Tryd.prog 87=some (.nilFunc):=Yp.zero
theorem c87:Tryd.prog.cellsOf 87=1:=Yp.cellsOf
theorem Xy:bH Tryd.prog 94 (.agg #[.int .i64 0,.int .i64 0]):=.of (by kernel_rfl) (by kernel_rfl)
theorem YR:zeroOf Tryd.prog 94=some (.agg #[.int .i64 0,.int .i64 0]):=Xy.zero
theorem YF:Tryd.prog.cellsOf 94=2:=Xy.cellsOf
theorem Xz:bH Tryd.prog 98 (.agg #[.int .i64 0,.int .i64 0,.int .i64 0]):=.of (by kernel_rfl) (by kernel_rfl)
theorem YS:zeroOf Tryd.prog 98=some (.agg #[.int .i64 0,.int .i64 0,.int .i64 0]):=Xz.zero
theorem YG:Tryd.prog.cellsOf 98=3:=Xz.cellsOf
theorem VF:bH Tryd.prog 102 (.agg #[.int .i64 0,.int .i64 0,.int .i64 0]):=.of (by kernel_rfl) (by kernel_rfl)
theorem Ye:zeroOf Tryd.prog 102=some (.agg #[.int .i64 0,.int .i64 0,.int .i64 0]):=VF.zero
theorem Xr:Tryd.prog.cellsOf 102=3:=VF.cellsOf
theorem f7:aX Tryd.prog 7:=by
 intro d hd;rw [Tryd.underlying7] at hd;cases hd
 intro f hf;simp only [List.mem_cons,List.not_mem_nil,or_false] at hf
 rcases hf with rfl|rfl|rfl|rfl
 ·obtain ⟨i,h,_⟩:=e2.ex;exact ⟨i,h⟩
 ·obtain ⟨i,h,_⟩:=e3.ex;exact ⟨i,h⟩
 ·obtain ⟨i,h,_⟩:=e4.ex;exact ⟨i,h⟩
 ·obtain ⟨i,h,_⟩:=e6.ex;exact ⟨i,h⟩
theorem f8:aX Tryd.prog 8:=by
 intro d hd;rw [Tryd.underlying8] at hd;cases hd
 intro f hf;simp only [List.mem_cons,List.not_mem_nil,or_false] at hf
 rcases hf with rfl|rfl|rfl|rfl
 ·obtain ⟨i,h,_⟩:=e2.ex;exact ⟨i,h⟩
 ·obtain ⟨i,h,_⟩:=e3.ex;exact ⟨i,h⟩
 ·obtain ⟨i,h,_⟩:=e4.ex;exact ⟨i,h⟩
 ·obtain ⟨i,h,_⟩:=e6.ex;exact ⟨i,h⟩
theorem f13:aX Tryd.prog 13:=by
 intro d hd;rw [Tryd.underlying13] at hd;cases hd
 intro f hf;simp only [List.mem_cons,List.not_mem_nil,or_false] at hf
 rcases hf with rfl|rfl
 ·obtain ⟨i,h,_⟩:=e9.ex;exact ⟨i,h⟩
 ·obtain ⟨i,h,_⟩:=e12.ex;exact ⟨i,h⟩
theorem f14:aX Tryd.prog 14:=by
 intro d hd;rw [Tryd.underlying14] at hd;cases hd
 intro f hf;simp only [List.mem_cons,List.not_mem_nil,or_false] at hf
 rcases hf with rfl|rfl
 ·obtain ⟨i,h,_⟩:=e9.ex;exact ⟨i,h⟩
 ·obtain ⟨i,h,_⟩:=e12.ex;exact ⟨i,h⟩
theorem f18:aX Tryd.prog 18:=by
 intro d hd;rw [Tryd.underlying18] at hd;cases hd
 intro f hf;simp only [List.mem_cons,List.not_mem_nil,or_false] at hf
 rcases hf with rfl
 ·obtain ⟨i,h,_⟩:=e17.ex;exact ⟨i,h⟩
theorem f19:aX Tryd.prog 19:=by
 intro d hd;rw [Tryd.underlying19] at hd;cases hd
 intro f hf;simp only [List.mem_cons,List.not_mem_nil,or_false] at hf
 rcases hf with rfl
 ·obtain ⟨i,h,_⟩:=e17.ex;exact ⟨i,h⟩
theorem f23:aX Tryd.prog 23:=by
 intro d hd;rw [Tryd.underlying23] at hd;cases hd
 intro f hf;simp only [List.mem_cons,List.not_mem_nil,or_false] at hf
 rcases hf with rfl|rfl|rfl
 ·obtain ⟨i,h,_⟩:=e3.ex;exact ⟨i,h⟩
 ·obtain ⟨i,h,_⟩:=e3.ex;exact ⟨i,h⟩
 ·obtain ⟨i,h,_⟩:=e22.ex;exact ⟨i,h⟩
theorem f24:aX Tryd.prog 24:=by
 intro d hd;rw [Tryd.underlying24] at hd;cases hd
 intro f hf;simp only [List.mem_cons,List.not_mem_nil,or_false] at hf
 rcases hf with rfl|rfl|rfl
 ·obtain ⟨i,h,_⟩:=e3.ex;exact ⟨i,h⟩
 ·obtain ⟨i,h,_⟩:=e3.ex;exact ⟨i,h⟩
 ·obtain ⟨i,h,_⟩:=e22.ex;exact ⟨i,h⟩
theorem f32:aX Tryd.prog 32:=by
 intro d hd;rw [Tryd.underlying32] at hd;cases hd
 intro f hf;simp only [List.mem_cons,List.not_mem_nil,or_false] at hf
 rcases hf with rfl|rfl|rfl|rfl
 ·obtain ⟨i,h,_⟩:=e3.ex;exact ⟨i,h⟩
 ·obtain ⟨i,h,_⟩:=e3.ex;exact ⟨i,h⟩
 ·obtain ⟨i,h,_⟩:=e3.ex;exact ⟨i,h⟩
 ·obtain ⟨i,h,_⟩:=e3.ex;exact ⟨i,h⟩
theorem f33:aX Tryd.prog 33:=by
 intro d hd;rw [Tryd.underlying33] at hd;cases hd
 intro f hf;simp only [List.mem_cons,List.not_mem_nil,or_false] at hf
 rcases hf with rfl|rfl|rfl|rfl
 ·obtain ⟨i,h,_⟩:=e3.ex;exact ⟨i,h⟩
 ·obtain ⟨i,h,_⟩:=e3.ex;exact ⟨i,h⟩
 ·obtain ⟨i,h,_⟩:=e3.ex;exact ⟨i,h⟩
 ·obtain ⟨i,h,_⟩:=e3.ex;exact ⟨i,h⟩
theorem f34:aX Tryd.prog 34:=by
 intro d hd;rw [Tryd.underlying34] at hd;cases hd
 intro f hf;simp only [List.mem_cons,List.not_mem_nil,or_false] at hf
 rcases hf with rfl|rfl
 ·obtain ⟨i,h,_⟩:=e33.ex;exact ⟨i,h⟩
 ·obtain ⟨i,h,_⟩:=e4.ex;exact ⟨i,h⟩
theorem f35:aX Tryd.prog 35:=by
 intro d hd;rw [Tryd.underlying35] at hd;cases hd
 intro f hf;simp only [List.mem_cons,List.not_mem_nil,or_false] at hf
 rcases hf with rfl|rfl
 ·obtain ⟨i,h,_⟩:=e33.ex;exact ⟨i,h⟩
 ·obtain ⟨i,h,_⟩:=e4.ex;exact ⟨i,h⟩
theorem f54:aX Tryd.prog 54:=by
 intro d hd;rw [Tryd.underlying54] at hd;cases hd
 intro f hf;simp only [List.mem_cons,List.not_mem_nil,or_false] at hf
 rcases hf with rfl|rfl
 ·obtain ⟨i,h,_⟩:=e3.ex;exact ⟨i,h⟩
 ·obtain ⟨i,h,_⟩:=e3.ex;exact ⟨i,h⟩
theorem f55:aX Tryd.prog 55:=by
 intro d hd;rw [Tryd.underlying55] at hd;cases hd
 intro f hf;simp only [List.mem_cons,List.not_mem_nil,or_false] at hf
 rcases hf with rfl|rfl
 ·obtain ⟨i,h,_⟩:=e3.ex;exact ⟨i,h⟩
 ·obtain ⟨i,h,_⟩:=e3.ex;exact ⟨i,h⟩
theorem f58:aX Tryd.prog 58:=by
 intro d hd;rw [Tryd.underlying58] at hd;cases hd
 intro f hf;simp only [List.mem_cons,List.not_mem_nil,or_false] at hf
 rcases hf with rfl|rfl
 ·obtain ⟨i,h,_⟩:=e35.ex;exact ⟨i,h⟩
 ·obtain ⟨i,h,_⟩:=e55.ex;exact ⟨i,h⟩
theorem f59:aX Tryd.prog 59:=by
 intro d hd;rw [Tryd.underlying59] at hd;cases hd
 intro f hf;simp only [List.mem_cons,List.not_mem_nil,or_false] at hf
 rcases hf with rfl|rfl
 ·obtain ⟨i,h,_⟩:=e35.ex;exact ⟨i,h⟩
 ·obtain ⟨i,h,_⟩:=e55.ex;exact ⟨i,h⟩
theorem f71:aX Tryd.prog 71:=by
 intro d hd;rw [Tryd.underlying71] at hd;cases hd
 intro f hf;simp only [List.mem_cons,List.not_mem_nil,or_false] at hf
 rcases hf with rfl|rfl
 ·obtain ⟨i,h,_⟩:=e35.ex;exact ⟨i,h⟩
 ·obtain ⟨i,h,_⟩:=e55.ex;exact ⟨i,h⟩
theorem f72:aX Tryd.prog 72:=by
 intro d hd;rw [Tryd.underlying72] at hd;cases hd
 intro f hf;simp only [List.mem_cons,List.not_mem_nil,or_false] at hf
 rcases hf with rfl|rfl
 ·obtain ⟨i,h,_⟩:=e35.ex;exact ⟨i,h⟩
 ·obtain ⟨i,h,_⟩:=e55.ex;exact ⟨i,h⟩
theorem f81:aX Tryd.prog 81:=by
 intro d hd;rw [Tryd.underlying81] at hd;cases hd
 intro f hf;simp only [List.mem_cons,List.not_mem_nil,or_false] at hf
 rcases hf with rfl|rfl|rfl
 ·obtain ⟨i,h,_⟩:=e3.ex;exact ⟨i,h⟩
 ·obtain ⟨i,h,_⟩:=e3.ex;exact ⟨i,h⟩
 ·obtain ⟨i,h,_⟩:=e3.ex;exact ⟨i,h⟩
theorem f94:aX Tryd.prog 94:=by
 intro d hd;rw [Tryd.underlying94] at hd;cases hd
 intro f hf;simp only [List.mem_cons,List.not_mem_nil,or_false] at hf
 rcases hf with rfl|rfl
 ·obtain ⟨i,h,_⟩:=e3.ex;exact ⟨i,h⟩
 ·obtain ⟨i,h,_⟩:=e3.ex;exact ⟨i,h⟩
theorem YL:aX Tryd.prog 98:=by
 intro d hd;rw [Tryd.underlying98] at hd;cases hd
 intro f hf;simp only [List.mem_cons,List.not_mem_nil,or_false] at hf
 rcases hf with rfl|rfl|rfl
 ·obtain ⟨i,h,_⟩:=e3.ex;exact ⟨i,h⟩
 ·obtain ⟨i,h,_⟩:=e3.ex;exact ⟨i,h⟩
 ·obtain ⟨i,h,_⟩:=e3.ex;exact ⟨i,h⟩
theorem f102:aX Tryd.prog 102:=by
 intro d hd;rw [Tryd.underlying102] at hd;cases hd
 intro f hf;simp only [List.mem_cons,List.not_mem_nil,or_false] at hf
 rcases hf with rfl|rfl|rfl
 ·obtain ⟨i,h,_⟩:=e3.ex;exact ⟨i,h⟩
 ·obtain ⟨i,h,_⟩:=e3.ex;exact ⟨i,h⟩
 ·obtain ⟨i,h,_⟩:=e3.ex;exact ⟨i,h⟩
theorem YP:Vo Tryd.prog 33 [.i .i64,.i .i64,.i .i64,.i .i64]:=⟨by kernel_rfl,by kernel_rfl⟩
theorem WY:(Vo Tryd.prog 33 [.i .i64,.i .i64,.i .i64,.i .i64])=True:=eq_true YP
theorem q35:Vo Tryd.prog 35 [.i .i64,.i .i64,.i .i64,.i .i64,.b]:=⟨by kernel_rfl,by kernel_rfl⟩
theorem WZ:(Vo Tryd.prog 35 [.i .i64,.i .i64,.i .i64,.i .i64,.b])=True:=eq_true q35
theorem k1 {K:Prop}:aZ (bH Tryd.prog 1 (.nilFunc)) K=K:=zN e1
theorem k2 {K:Prop}:aZ (bH Tryd.prog 2 (.int .i64 0)) K=K:=zN e2
theorem k3 {K:Prop}:aZ (bH Tryd.prog 3 (.int .i64 0)) K=K:=zN e3
theorem YM:(bH Tryd.prog 3 (.int .i64 0))=True:=eq_true e3
theorem k4 {K:Prop}:aZ (bH Tryd.prog 4 (.bool false)) K=K:=zN e4
theorem YN:(bH Tryd.prog 4 (.bool false))=True:=eq_true e4
theorem k5 {K:Prop}:aZ (bH Tryd.prog 5 (.int .u8 0)) K=K:=zN e5
theorem XH:(bH Tryd.prog 28 (.int .i64 0))=True:=eq_true e28
theorem XI:(bH Tryd.prog 33 (.agg #[.int .i64 0,.int .i64 0,.int .i64 0,.int .i64 0]))=True:=eq_true e33
theorem XJ:(bH Tryd.prog 35 (.agg #[.int .i64 0,.int .i64 0,.int .i64 0,.int .i64 0,.bool false]))=True:=eq_true e35
theorem XK:(bH Tryd.prog 51 (.slice none 0 0))=True:=eq_true e51
theorem XL:(bH Tryd.prog 55 (.agg #[.int .i64 0,.int .i64 0]))=True:=eq_true e55
theorem XM:(bH Tryd.prog 59 (.agg #[.int .i64 0,.int .i64 0,.int .i64 0,.int .i64 0,.bool false,.int .i64 0,.int .i64 0]))=True:=eq_true e59
theorem XO:(bH Tryd.prog 72 (.agg #[.int .i64 0,.int .i64 0,.int .i64 0,.int .i64 0,.bool false,.int .i64 0,.int .i64 0]))=True:=eq_true Xw
theorem XP:(bH Tryd.prog 81 (.agg #[.int .i64 0,.int .i64 0,.int .i64 0]))=True:=eq_true Xx
theorem XQ:(bH Tryd.prog 94 (.agg #[.int .i64 0,.int .i64 0]))=True:=eq_true Xy
theorem XR:(bH Tryd.prog 98 (.agg #[.int .i64 0,.int .i64 0,.int .i64 0]))=True:=eq_true Xz
theorem WX:(bH Tryd.prog 102 (.agg #[.int .i64 0,.int .i64 0,.int .i64 0]))=True:=eq_true VF
theorem XT:(aX Tryd.prog 24)=True:=eq_true f24
theorem XU:(aX Tryd.prog 33)=True:=eq_true f33
theorem XV:(aX Tryd.prog 35)=True:=eq_true f35
theorem XW:(aX Tryd.prog 55)=True:=eq_true f55
theorem XY:(aX Tryd.prog 59)=True:=eq_true f59
theorem XZ:(aX Tryd.prog 72)=True:=eq_true f72
theorem X0:(aX Tryd.prog 81)=True:=eq_true f81
theorem X3:(aX Tryd.prog 94)=True:=eq_true f94
theorem X4:(aX Tryd.prog 98)=True:=eq_true YL
theorem Xa:(aX Tryd.prog 102)=True:=eq_true f102
theorem YO:Maps.Keyed Tryd.prog 3=True:=eq_true (Maps.int_keyed Tryd.underlying3)
theorem X5 (n:Int):zT Tryd.prog 3 (.int .i64 n)=True:=eq_true (.int Tryd.underlying3 n)
attribute [go_sem] WY WZ
attribute [go_sem] Tryd.underlying0 Tryd.underlying1 Tryd.underlying2 Tryd.underlying3 Tryd.underlying4 Tryd.underlying5
attribute [go_sem] Tryd.underlying6 Tryd.underlying7 Tryd.underlying8 Tryd.underlying9 Tryd.underlying10 Tryd.underlying11 Tryd.underlying12 Tryd.underlying13 Tryd.underlying14 Tryd.underlying15 Tryd.underlying16 Tryd.underlying17
attribute [go_sem] Tryd.underlying18 Tryd.underlying19 Tryd.underlying20 Tryd.underlying21 Tryd.underlying22 Tryd.underlying23 Tryd.underlying24 Tryd.underlying25 Tryd.underlying26 Tryd.underlying27 Tryd.underlying28 Tryd.underlying29
attribute [go_sem] Tryd.underlying30 Tryd.underlying31 Tryd.underlying32 Tryd.underlying33 Tryd.underlying34 Tryd.underlying35 Tryd.underlying36 Tryd.underlying37 Tryd.underlying38 Tryd.underlying39 Tryd.underlying40 Tryd.underlying41
attribute [go_sem] Tryd.underlying42 Tryd.underlying43 Tryd.underlying44 Tryd.underlying45 Tryd.underlying46 Tryd.underlying47 Tryd.underlying48 Tryd.underlying49 Tryd.underlying50 Tryd.underlying51 Tryd.underlying52 Tryd.underlying53
attribute [go_sem] Tryd.underlying54 Tryd.underlying55 Tryd.underlying56 Tryd.underlying57 Tryd.underlying58 Tryd.underlying59 Tryd.underlying60 Tryd.underlying61 Tryd.underlying62 Tryd.underlying63 Tryd.underlying64 Tryd.underlying65
attribute [go_sem] Tryd.underlying66 Tryd.underlying67 Tryd.underlying68 Tryd.underlying69 Tryd.underlying70 Tryd.underlying71 Tryd.underlying72 Tryd.underlying73 Tryd.underlying74 Tryd.underlying75 Tryd.underlying76 Tryd.underlying77
attribute [go_sem] Tryd.underlying78 Tryd.underlying79 Tryd.underlying80 Tryd.underlying81 Tryd.underlying82 Tryd.underlying83 Tryd.underlying84 Tryd.underlying85 Tryd.underlying86 Tryd.underlying87 Tryd.underlying88 Tryd.underlying89
attribute [go_sem] Tryd.underlying90 Tryd.underlying91 Tryd.underlying92 Tryd.underlying93 Tryd.underlying94 Tryd.underlying95 Tryd.underlying96 Tryd.underlying97 Tryd.underlying98 Tryd.underlying99 Tryd.underlying100 Tryd.underlying101
attribute [go_sem] Tryd.underlying102 Tryd.underlying103 Tryd.underlying104 Tryd.underlying105 Tryd.underlying106 Tryd.underlying107 Tryd.underlying108 Tryd.underlying109 Tryd.underlying110 Tryd.underlying111 Tryd.underlying112 Tryd.underlying113
attribute [go_sem] Tryd.underlying114 Tryd.underlying115 Tryd.underlying116 Tryd.underlying117 Tryd.underlying118 Tryd.underlying119 Tryd.underlying120 Tryd.underlying121 Tryd.underlying122 Tryd.underlying123 Tryd.underlying124 Tryd.underlying125
attribute [go_sem] Tryd.underlying126 Tryd.underlying127 Tryd.underlying128 Tryd.underlying129 Tryd.underlying130 Tryd.underlying131 Tryd.underlying132 Tryd.underlying133 Tryd.underlying134 Tryd.underlying135 Tryd.underlying136 Tryd.underlying137
attribute [go_sem] Tryd.underlying138 Tryd.underlying139 Tryd.underlying140 Tryd.underlying141 Tryd.underlying142 Tryd.underlying143 Tryd.underlying144 Tryd.underlying145 k1 z1 c1
attribute [go_sem] k2 z2 c2 k3 YM z3 c3 k4 YN z4 c4
attribute [go_sem] k5 z5 c5 z6
attribute [go_sem] Ym
attribute [go_sem] z24 c24
attribute [go_sem] XH z28 c28
attribute [go_sem] XI z33 Xt XJ z35 Yn
attribute [go_sem] YA
attribute [go_sem] z50 YB XK z51 c51
attribute [go_sem] XL z55 YC
attribute [go_sem] XM z59 c59
attribute [go_sem] z64 c64
attribute [go_sem] XO z72 c72
attribute [go_sem] XP YQ YD
attribute [go_sem] z86 YE
attribute [go_sem] z87 c87
attribute [go_sem] XQ YR YF
attribute [go_sem] XR YS YG
attribute [go_sem] WX Ye Xr
attribute [go_sem] XT XU XV
attribute [go_sem] XW XY XZ
attribute [go_sem] X0 X3 X4
attribute [go_sem] Xa
attribute [go_sem] YO X5
theorem NY (b:Bool) (e:Int):aU Tryd.prog 11 [.bool b,.int .i64 e] (.int .i64 (if b=true then e else 0)) []:=by
 refine aU.aY Tryd.func11 rfl (by decide) (by simp [Tryd.f11]) [.tmp 4] rfl fun w0 T0 _=>?_
 simp only [Tryd.f11,aK]
 cases b<;>simp only [go_sem]<;>(refine eP.auto 0 ?_ rfl ?_<;>simp only [go_sem,Int.natCast_succ,Post])
def jy (w h:Int):Int:=if w<1∨4000<w∨h<1∨4000<h then 3 else if 1048576<w*h then 4 else 0
set_option maxHeartbeats 1000000 in
theorem EU (w h:Int):aU Tryd.prog 44 [.int .i64 w,.int .i64 h] (.int .i64 (jy w h)) []:=by
 refine aU.aY Tryd.func44 rfl (by decide) (by simp [Tryd.f44]) [.tmp 4] rfl fun w0 T0 _=>?_
 simp only [Tryd.f44,aK]
 simp only [go_sem]
 (repeat' first|(with_reducible refine qA.intro fun _=>?_)|((with_reducible refine aZ.intro ?_ ?_);(· first|omega|(with_reducible refine aZ.intro ?_ ?_<;>omega)|(simp;done)|(simp;omega)))|((with_reducible refine dh.i64 ?_ ?_ ?_);(· omega);(· omega))|((with_reducible refine Ite.decide (fun _=>?_) (fun _=>?_))<;>first|(exfalso;omega)|simp only [go_sem])|((with_reducible refine Ite.bool (fun _=>?_) (fun _=>?_))<;>simp only [go_sem])|(with_reducible refine And.intro ?_ ?_))
 ·rename_i h1
  refine eP.auto 0 ?_ rfl ?_<;>simp only [go_sem,Int.natCast_succ,Post,jy]
  rw [if_pos (by omega)]
 ·rename_i h1
  have hm1:0≤w*h:=Int.mul_nonneg (by omega) (by omega)
  have hm2:w*h≤4000*4000:=Int.mul_le_mul (by omega) (by omega) (by omega) (by omega)
  refine dh.i64 (by omega) (by omega) ?_
  (repeat' first|(with_reducible refine qA.intro fun _=>?_)|((with_reducible refine aZ.intro ?_ ?_);(· first|omega|(with_reducible refine aZ.intro ?_ ?_<;>omega)|(simp;done)|(simp;omega)))|((with_reducible refine dh.i64 ?_ ?_ ?_);(· omega);(· omega))|((with_reducible refine Ite.decide (fun _=>?_) (fun _=>?_))<;>first|(exfalso;omega)|simp only [go_sem])|((with_reducible refine Ite.bool (fun _=>?_) (fun _=>?_))<;>simp only [go_sem])|(with_reducible refine And.intro ?_ ?_))
  ·refine eP.auto 0 ?_ rfl ?_<;>simp only [go_sem,Int.natCast_succ,Post,jy]
   rw [if_neg (by omega),if_pos (by omega)]
  ·refine eP.auto 0 ?_ rfl ?_<;>simp only [go_sem,Int.natCast_succ,Post,jy]
   rw [if_neg (by omega),if_neg (by omega)]
def sH (w h:Int) (n:Nat):Int:=if jy w h=0 then (if (n:Int)=w*h then 0 else 2) else jy w h
theorem F8 {w h:Int} (e:jy w h=0):1≤w∧w≤4000∧1≤h∧h≤4000∧w*h≤1048576∧1≤w*h:=by
 unfold jy at e
 split at e
 ·omega
 ·split at e
  ·omega
  ·rename_i h1 h2
   have:1*1≤w*h:=Int.mul_le_mul (by omega) (by omega) (by omega) (by omega)
   omega
set_option maxHeartbeats 1000000 in
theorem lu (w h:Int) (p:List Bool):aU Tryd.prog 19 [.agg [.int .i64 w,.int .i64 h,.ro (.bools p)]] (.int .i64 (sH w h p.length)) []:=by
 refine aU.aY Tryd.func19 rfl (by decide) (by simp [Tryd.f19]) [.tmp 2] rfl fun w0 T0 _=>?_
 simp only [Tryd.f19,aK]
 simp only [go_sem]
 (repeat' first|(with_reducible refine qA.intro fun _=>?_)|((with_reducible refine aZ.intro ?_ ?_);(· first|omega|(with_reducible refine aZ.intro ?_ ?_<;>omega)|(simp;done)|(simp;omega)))|((with_reducible refine dh.i64 ?_ ?_ ?_);(· omega);(· omega))|((with_reducible refine Ite.decide (fun _=>?_) (fun _=>?_))<;>first|(exfalso;omega)|simp only [go_sem])|((with_reducible refine Ite.bool (fun _=>?_) (fun _=>?_))<;>simp only [go_sem])|(with_reducible refine And.intro ?_ ?_))
 refine aj.fr (args':=[.int .i64 w,.int .i64 h]) (dW.dP (EU w h) rfl rfl) (by simp [aV,bf,aH]) 0 rfl (by simp [bn]) ?_
 simp only [go_sem]
 (repeat' first|(with_reducible refine qA.intro fun _=>?_)|((with_reducible refine aZ.intro ?_ ?_);(· first|omega|(with_reducible refine aZ.intro ?_ ?_<;>omega)|(simp;done)|(simp;omega)))|((with_reducible refine dh.i64 ?_ ?_ ?_);(· omega);(· omega))|((with_reducible refine Ite.decide (fun _=>?_) (fun _=>?_))<;>first|(exfalso;omega)|simp only [go_sem])|((with_reducible refine Ite.bool (fun _=>?_) (fun _=>?_))<;>simp only [go_sem])|(with_reducible refine And.intro ?_ ?_))
 ·rename_i h1
  refine eP.auto 0 ?_ rfl ?_<;>simp only [go_sem,Int.natCast_succ,Post,sH,h1,reduceIte]
 ·have h1:jy w h=0:=by omega
  have hs:=F8 h1
  refine dh.i64 (by omega) (by omega) ?_
  (repeat' first|(with_reducible refine qA.intro fun _=>?_)|((with_reducible refine aZ.intro ?_ ?_);(· first|omega|(with_reducible refine aZ.intro ?_ ?_<;>omega)|(simp;done)|(simp;omega)))|((with_reducible refine dh.i64 ?_ ?_ ?_);(· omega);(· omega))|((with_reducible refine Ite.decide (fun _=>?_) (fun _=>?_))<;>first|(exfalso;omega)|simp only [go_sem])|((with_reducible refine Ite.bool (fun _=>?_) (fun _=>?_))<;>simp only [go_sem])|(with_reducible refine And.intro ?_ ?_))
  ·rename_i h2
   refine eP.auto 0 ?_ rfl ?_<;>simp only [go_sem,Int.natCast_succ,Post,sH,h1,h2,reduceIte]
  ·rename_i h2
   refine eP.auto 0 ?_ rfl ?_<;>simp only [go_sem,Int.natCast_succ,Post,sH,h1,reduceIte]
   rw [if_pos (by omega)]
def rowsOf {α:Type} (w:Nat) (p:Nat→Nat→α) (n:Nat):List α:=(List.range n).map fun k=>p (k%w) (k / w)
theorem uS {α:Type} (w:Nat) (p:Nat→Nat→α) (n:Nat):(rowsOf w p n).length=n:=by simp [rowsOf]
theorem Jd {α:Type} {w:Nat} (p:Nat→Nat→α) {x y:Nat} (hx:x<w):rowsOf w p (y*w+(x+1))=rowsOf w p (y*w+x)++[p x y]:=by
 unfold rowsOf
 rw [←Nat.add_assoc,List.range_succ,List.map_append]
 have e1:(y*w+x)%w=x:=by rw [Nat.mul_comm,Nat.mul_add_mod,Nat.mod_eq_of_lt hx]
 have e2:(y*w+x) / w=y:=by rw [Nat.mul_comm,Nat.mul_add_div (by omega),Nat.div_eq_of_lt hx,Nat.add_zero]
 simp [e1,e2]
set_option maxHeartbeats 1000000 in
theorem Np (w h:Nat) (hw:w≤4000) (hh:h≤4000) (f:Nat) (caps:List AV) [qC caps] (p:Nat→Nat→Bool) (hp:∀ x y:Nat,x<w→y<h→dW Tryd.prog f ([.int .i64 x,.int .i64 y]++caps) (.bool (p x y)) []) :
  aU Tryd.prog 17 [.int .i64 w,.int .i64 h,.fn f caps] (.agg [.int .i64 w,.int .i64 h,.own 0]) [(0,.row 4 (.bools (rowsOf w p (h*w))))]:=by
 refine aU.aY Tryd.func17 rfl (by decide) (by simp [Tryd.f17]) [.cell 6 24] rfl fun w0 T0 _=>?_
 simp only [Tryd.f17,aK]
 simp only [go_sem]
 (repeat' first|(with_reducible refine qA.intro fun _=>?_)|((with_reducible refine aZ.intro ?_ ?_);(· first|omega|(with_reducible refine aZ.intro ?_ ?_<;>omega)|(simp;done)|(simp;omega)))|((with_reducible refine dh.i64 ?_ ?_ ?_);(· omega);(· omega))|((with_reducible refine Ite.decide (fun _=>?_) (fun _=>?_))<;>first|(exfalso;omega)|simp only [go_sem])|((with_reducible refine Ite.bool (fun _=>?_) (fun _=>?_))<;>simp only [go_sem])|(with_reducible refine And.intro ?_ ?_))
 refine aJ.intro (fun y:Nat=>⟨33,[(14,.int .i64 y),(13,.int .i64 h),(7,.ptr 1 0),(6,.ptr 0 0),(0,.int .i64 w),(2,.fn f caps)],[(1,.box 24 [.int .i64 w,.int .i64 h,.own 2]),(0,.box 24 [.int .i64 0,.int .i64 0,.nilS]),(2,.row 4 (.bools (rowsOf w p (y*w))))],3⟩) (fun y=>y≤h) (fun y=>h - y) 0 ?_ (Nat.zero_le _) fun y hy=>?_
 ·refine aS.trans (aS.Ri (P:=Tryd.prog) 1 2 4 e4 rfl rfl) (aS.aB rfl ?_ ?_)<;>simp only [go_sem,Int.natCast_succ,rowsOf,put,Nat.zero_mul,List.range_zero,List.map_nil]
 simp only [go_sem]
 (repeat' first|(with_reducible refine qA.intro fun _=>?_)|((with_reducible refine aZ.intro ?_ ?_);(· first|omega|(with_reducible refine aZ.intro ?_ ?_<;>omega)|(simp;done)|(simp;omega)))|((with_reducible refine dh.i64 ?_ ?_ ?_);(· omega);(· omega))|((with_reducible refine Ite.decide (fun _=>?_) (fun _=>?_))<;>first|(exfalso;omega)|simp only [go_sem])|((with_reducible refine Ite.bool (fun _=>?_) (fun _=>?_))<;>simp only [go_sem])|(with_reducible refine And.intro ?_ ?_))
 ·refine aJ.intro (fun x:Nat=>⟨33,[(18,.int .i64 x),(17,.int .i64 w),(8,.int .i64 y),(14,.int .i64 y),(13,.int .i64 h),(7,.ptr 1 0),(6,.ptr 0 0),(0,.int .i64 w),(2,.fn f caps)],[(1,.box 24 [.int .i64 w,.int .i64 h,.own 2]),(0,.box 24 [.int .i64 0,.int .i64 0,.nilS]),(2,.row 4 (.bools (rowsOf w p (y*w+x))))],3⟩) (fun x=>x≤w) (fun x=>w - x) 0 ?_ (Nat.zero_le _) fun x hx=>?_
  ·refine aS.aB rfl ?_ ?_<;>simp only [go_sem,Int.natCast_succ]
  simp only [go_sem]
  (repeat' first|(with_reducible refine qA.intro fun _=>?_)|((with_reducible refine aZ.intro ?_ ?_);(· first|omega|(with_reducible refine aZ.intro ?_ ?_<;>omega)|(simp;done)|(simp;omega)))|((with_reducible refine dh.i64 ?_ ?_ ?_);(· omega);(· omega))|((with_reducible refine Ite.decide (fun _=>?_) (fun _=>?_))<;>first|(exfalso;omega)|simp only [go_sem])|((with_reducible refine Ite.bool (fun _=>?_) (fun _=>?_))<;>simp only [go_sem])|(with_reducible refine And.intro ?_ ?_))
  ·refine aP.lex [6,7,9] [(0,[1]),(1,[1])] (by kernel_rfl) (by kernel_rfl) ?_
   simp only [go_sem]
   (repeat' first|(with_reducible refine qA.intro fun _=>?_)|((with_reducible refine aZ.intro ?_ ?_);(· first|omega|(with_reducible refine aZ.intro ?_ ?_<;>omega)|(simp;done)|(simp;omega)))|((with_reducible refine dh.i64 ?_ ?_ ?_);(· omega);(· omega))|((with_reducible refine Ite.decide (fun _=>?_) (fun _=>?_))<;>first|(exfalso;omega)|simp only [go_sem])|((with_reducible refine Ite.bool (fun _=>?_) (fun _=>?_))<;>simp only [go_sem])|(with_reducible refine And.intro ?_ ?_))
   refine QV.intro (.bool (p x y)) ?_ ?_
   ·simp only [go_sem]
    refine aj.fr (args':=[.int .i64 x,.int .i64 y]++caps) (hp x y (by omega) (by omega)) (by simp [aV,bf,aH,iO]) 0 rfl (by simp [bn]) ?_
    simp only [go_sem]
   ·simp only [go_sem]
    have hb:y*w+x≤4000*4000+4000:=Nat.add_le_add (Nat.mul_le_mul (by omega) hw) (by omega)
    have hr:=uS w p (y*w+x)
    have hs:=Jd p (x:=x) (y:=y) (w:=w) (by omega)
    (repeat' first|(with_reducible refine qA.intro fun _=>?_)|((with_reducible refine aZ.intro ?_ ?_);(· first|omega|(with_reducible refine aZ.intro ?_ ?_<;>omega)|(simp;done)|(simp;omega)))|((with_reducible refine dh.i64 ?_ ?_ ?_);(· omega);(· omega))|((with_reducible refine Ite.decide (fun _=>?_) (fun _=>?_))<;>first|(exfalso;omega)|simp only [go_sem])|((with_reducible refine Ite.bool (fun _=>?_) (fun _=>?_))<;>simp only [go_sem])|(with_reducible refine And.intro ?_ ?_))
    refine ⟨x+1,aS.aB rfl ?_ ?_,by omega,by omega⟩<;>simp only [go_sem,Int.natCast_succ,hs]
    all_goals rfl
  ·refine ⟨y+1,aS.aB rfl ?_ ?_,by omega,by omega⟩<;>simp only [go_sem,Int.natCast_succ]
   have e:x=w:=by omega
   all_goals first|rfl|rw [e,Nat.succ_mul]
 ·have e:y=h:=by omega
  subst e
  refine eP.auto 1 ?_ rfl ?_<;>simp only [go_sem,Int.natCast_succ,Post]
  all_goals simp only [go_sem]
def X9 (v:Nat→Int) (w y l n:Nat):List Int:=(List.range n).map fun i=>v (y*w+(l+i))
def WO (v:Nat→Int) (w t l n:Nat):Nat→List Int
 | 0=>[]
 | m+1=>WO v w t l n m++X9 v w (t+m) l n
def XF (p:List Bool) (i:Nat):Int:=if p.getD i false=true then 1 else 0
theorem oM (n lo hi:Int):aU Tryd.prog 35 [.int .i64 n,.int .i64 lo,.int .i64 hi] (.bool (decide (lo≤n∧n≤hi))) []:=by
 refine aU.aY Tryd.func35 rfl (by decide) (by simp [Tryd.f35]) [.tmp 6] rfl fun w0 T0 _=>?_
 simp only [Tryd.f35,aK]
 (repeat' with_reducible first|intro _|exact dn|refine rn ?_|refine ra ?_ ?_)
 refine eP.auto 0 ?_ rfl ?_<;>simp only [go_sem,Int.natCast_succ,Post]
def WM (p:List Bool) (w h:Nat) (i j:Int):Bool:=decide (0≤i∧i<w∧0≤j∧j<h) && p.getD (j*w+i).toNat false
theorem qH (p:List Bool) {w h i j:Nat} (hi:i<w) (hj:j<h):WM p w h i j=p.getD (j*w+i) false:=by
 unfold WM
 rw [decide_eq_true (show 0≤(i:Int)∧(i:Int)<w∧0≤(j:Int)∧(j:Int)<h by omega),Bool.true_and,up_mul,up_add,Int.toNat_natCast]
theorem Tn (p:List Bool) {w h:Nat} {i j:Int} (h':¬(0≤i∧i<w∧0≤j∧j<h)):WM p w h i j=false:=by
 unfold WM;rw [decide_eq_false h',Bool.false_and]
set_option maxHeartbeats 2000000 in
theorem mJ (w h:Nat) (hw:w≤4000) (hh:h≤4000) (p:List Bool) (hp:p.length=w*h) (i j:Int):aU Tryd.prog 42 [.agg [.int .i64 w,.int .i64 h,.ro (.bools p)],.int .i64 i,.int .i64 j] (.bool (WM p w h i j)) []:=by
 refine aU.aY Tryd.func42 rfl (by decide) (by simp [Tryd.f42]) [.tmp 6] rfl fun w0 T0 _=>?_
 simp only [Tryd.f42,aK]
 by_cases hin:0≤i∧i<w∧0≤j∧j<h
 ·obtain ⟨i,rfl⟩:∃ k:Nat,i=k:=⟨i.toNat,by omega⟩
  obtain ⟨j,rfl⟩:∃ k:Nat,j=k:=⟨j.toNat,by omega⟩
  rw [qH p (by omega) (by omega)]
  have b1:j*w+w≤h*w:=by rw [←Nat.succ_mul];exact Nat.mul_le_mul_right _ (by omega)
  have b2:h*w≤4000*4000:=Nat.mul_le_mul hh hw
  have b3:w*h=h*w:=Nat.mul_comm _ _
  (repeat' with_reducible first|intro _|exact dn|refine rn ?_|refine ra ?_ ?_)
  refine aj.k (oM i 0 (w - 1)) ?_
  rw [decide_eq_true (show 0≤(i:Int)∧(i:Int)≤w - 1 by omega)]
  (repeat' with_reducible first|intro _|exact dn|refine rn ?_|refine ra ?_ ?_)
  refine aj.k (oM j 0 (h - 1)) ?_
  rw [decide_eq_true (show 0≤(j:Int)∧(j:Int)≤h - 1 by omega)]
  (repeat' with_reducible first|intro _|refine rz ?_|refine ra ?_ ?_|omega|simp only [go_sem,up_mul,up_add,Int.toNat_natCast])
  refine eP.auto 0 ?_ rfl ?_<;>simp only [go_sem,Int.natCast_succ,Post]
 ·rw [Tn p hin]
  (repeat' with_reducible first|intro _|exact dn|refine rn ?_|refine ra ?_ ?_)
  refine aj.k (oM i 0 (w - 1)) ?_
  (repeat' with_reducible first|intro _|exact dn|refine rn ?_|refine ra ?_ ?_)
  ·refine aj.k (oM j 0 (h - 1)) ?_
   rw [decide_eq_false (show ¬(0≤(j:Int)∧(j:Int)≤h - 1) by omega)]
   (repeat' with_reducible first|intro _|exact dn|refine rn ?_|refine ra ?_ ?_)
   refine eP.auto 0 ?_ rfl ?_<;>simp only [go_sem,Int.natCast_succ,Post]
  ·refine eP.auto 0 ?_ rfl ?_<;>simp only [go_sem,Int.natCast_succ,Post]
def XE (p:List Bool) (w X Y W H:Nat):Nat:=(WO (XF p) w Y X W H).sum.toNat
end Go.Fv.L
/-! Boxes of a page that are cut where there is no ink: plain law. -/
namespace Go.Fv.L
open Go
structure Nb where
 (x y w h:Nat)
def Nb.av (b:Nb):List AV:=[.int .i64 b.x,.int .i64 b.y,.int .i64 b.w,.int .i64 b.h]
def Nb.zero:Nb:=⟨0,0,0,0⟩
section
variable (p:List Bool) (w:Nat)
def Fe (b:Nb):Nat:=XE p w b.x b.y b.w b.h
def PartOf (a b:Nb):Prop:=b.x≤a.x∧a.x+a.w≤b.x+b.w∧b.y≤a.y∧a.y+a.h≤b.y+b.h
theorem PartOf.refl (b:Nb):PartOf b b:=by unfold PartOf;omega
theorem PartOf.trans {a b c:Nb} (h:PartOf a b) (h':PartOf b c):PartOf a c:=by unfold PartOf at *;omega
end
/-! ### Stretches -/
def fU (is:Nat→Bool):Nat→Nat→Nat
 | 0,k=>k
 | n+1,k=>if is k=true then fU is n (k+1) else k
theorem pR (is:Nat→Bool):∀ n k,k≤fU is n k∧fU is n k≤k+n
 | 0,k=>by simp [fU]
 | n+1,k=>by
  have:=pR is n (k+1)
  unfold fU;split<;>omega
theorem NG (is:Nat→Bool):∀ n k i,k≤i→i<fU is n k→is i=true
 | 0,k,i,h1,h2=>by simp [fU] at h2;omega
 | n+1,k,i,h1,h2=>by
  unfold fU at h2
  split at h2
  ·rename_i hk
   by_cases e:i=k
   ·rw [e];exact hk
   ·exact NG is n (k+1) i (by omega) h2
  ·omega
def strs (is:Nat→Bool):Nat→Nat→List (Nat × Nat)
 | 0,_=>[]
 | n+1,i=>if is i=true then (i,fU is (n+1) i - i)::strs is (n - (fU is (n+1) i - i)) (fU is (n+1) i+1) else strs is n (i+1)
termination_by n=>n
decreasing_by all_goals omega
theorem rM (is:Nat→Bool):∀ (n i:Nat) (s:Nat × Nat),s∈strs is n i→i≤s.1∧s.1+s.2≤i+n∧0<s.2∧∀ j,s.1≤j→j<s.1+s.2→is j=true
 | 0,i,s,h=>by unfold strs at h;simp at h
 | n+1,i,s,h=>by
  unfold strs at h
  have hb:=pR is (n+1) i
  have hin:=NG is (n+1) i
  split at h
  ·rename_i hi
   have hp:i+1≤fU is (n+1) i:=by
    have:fU is (n+1) i=fU is n (i+1):=by rw [fU,if_pos hi]
    rw [this];exact (pR is n (i+1)).1
   rcases List.mem_cons.1 h with rfl|h
   ·dsimp only
    refine ⟨Nat.le_refl _,by omega,by omega,fun j h1 h2=>hin j h1 (by omega)⟩
   ·obtain ⟨a1,a2,a3,a4⟩:=rM is _ _ s h
    exact ⟨by omega,by omega,a3,a4⟩
  ·obtain ⟨a1,a2,a3,a4⟩:=rM is n (i+1) s h
   exact ⟨by omega,by omega,a3,a4⟩
termination_by n=>n
decreasing_by all_goals omega
end Go.Fv.L
/- Runs of ink, line by line: what runsOf gives, in plain words. -/
namespace Go.Fv.L
open Go Go.Proofs
structure Rn where
 (y f t:Nat)
deriving DecidableEq
def Rn.av (r:Rn):List AV:=[.int .i64 r.y,.int .i64 r.f,.int .i64 r.t]
def Rn.zero:Rn:=⟨0,0,0⟩
instance:pY Rn.av:=⟨fun _=>rfl⟩
abbrev uQ (l:List Rn):aF:=.objs 3 (l.map Rn.av)
theorem pO (l:List Rn) {i:Nat} (h:i<l.length):(l.map Rn.av).getD i []=[.int .i64 (l.getD i Rn.zero).y,.int .i64 (l.getD i Rn.zero).f,.int .i64 (l.getD i Rn.zero).t]:=by
 rw [getD_lt (by simpa using h),getD_lt h,List.getElem_map];rfl
def Em (least y:Nat) (l:List (Nat × Nat)):List Rn:=(l.filter fun s=>decide (least≤s.2)).map fun s=>⟨y,s.1,s.1+s.2⟩
theorem RJ (least y:Nat) (l:List (Nat × Nat)) (s:Nat × Nat):Em least y (l++[s])=Em least y l++if least≤s.2 then [⟨y,s.1,s.1+s.2⟩] else []:=by
 unfold Em
 rw [List.filter_append,List.map_append]
 congr 1
 by_cases h:least≤s.2<;>simp [h]
theorem RN (least y:Nat) (l:List (Nat × Nat)) {i:Nat} (h:i<l.length):Em least y (l.take (i+1))=Em least y (l.take i)++if least≤(l.getD i (0,0)).2 then [⟨y,(l.getD i (0,0)).1,(l.getD i (0,0)).1+(l.getD i (0,0)).2⟩] else []:=by
 rw [List.take_succ_eq_append_getElem h,RJ,getD_lt h]
def SQ (is:Nat→Nat→Bool) (long least y:Nat):List Rn:=Em least y (strs (is y) long 0)
def runs (is:Nat→Nat→Bool) (n long least:Nat):List Rn:=(List.range n).flatMap (SQ is long least)
theorem iF (is:Nat→Nat→Bool) (n long least:Nat):runs is (n+1) long least=runs is n long least++SQ is long least n:=by
 unfold runs
 rw [List.range_succ,List.flatMap_append];simp
theorem ND {is:Nat→Nat→Bool} {long least y:Nat} {r:Rn} (h:r∈SQ is long least y):r.y=y∧r.f+least≤r.t∧r.f<r.t∧r.t≤long∧∀ j,r.f≤j→j<r.t→is y j=true:=by
 unfold SQ Em at h
 obtain ⟨s,hs,rfl⟩:=List.mem_map.1 h
 obtain ⟨hs,hl⟩:=List.mem_filter.1 hs
 obtain ⟨h1,h2,h3,h4⟩:=rM _ _ _ _ hs
 have hl:least≤s.2:=by simpa using hl
 exact ⟨rfl,by dsimp only;omega,by dsimp only;omega,by dsimp only;omega,h4⟩
theorem kE {is:Nat→Nat→Bool} {n long least:Nat} {r:Rn} (h:r∈runs is n long least):r.y<n∧r.f+least≤r.t∧r.f<r.t∧r.t≤long∧∀ j,r.f≤j→j<r.t→is r.y j=true:=by
 obtain ⟨y,hy,h⟩:=List.mem_flatMap.1 h
 obtain ⟨h1,h2,h3,h4,h5⟩:=ND h
 exact ⟨by rw [h1];exact List.mem_range.1 hy,h2,h3,h4,by rw [h1];exact h5⟩
theorem UC (is:Nat→Nat→Bool) (long least y:Nat):(SQ is long least y).length≤long:=by
 unfold SQ Em
 rw [List.length_map]
 have h1:=List.length_filter_le (fun s:Nat × Nat=>decide (least≤s.2)) (strs (is y) long 0)
 have h2:∀ (is:Nat→Bool) n i,(strs is n i).length≤n:=by
  intro is n
  induction n using Nat.strongRecOn with
  | ind n ih=>
   intro i
   match n,ih with
   | 0,_=>unfold strs;simp
   | n+1,ih=>
    unfold strs
    split
    ·have:=ih (n - (fU is (n+1) i - i)) (by omega) (fU is (n+1) i+1)
     simp only [List.length_cons];omega
    ·have:=ih n (by omega) (i+1)
     omega
 have:=h2 (is y) long 0
 omega
theorem fM (is:Nat→Nat→Bool) (long least:Nat):∀ n,(runs is n long least).length≤n*long
 | 0=>by simp [runs]
 | n+1=>by
  rw [iF,List.length_append,Nat.succ_mul]
  have:=fM is long least n
  have:=UC is long least n
  omega
def Pv (a b:Rn):Prop:=a.y<b.y∨(a.y=b.y∧a.t<b.f)
theorem Lp (is:Nat→Bool):∀ (n i:Nat),(strs is n i).Pairwise fun a b=>a.1+a.2<b.1:=by
 intro n
 induction n using Nat.strongRecOn with
 | ind n ih=>
  intro i
  match n,ih with
  | 0,_=>unfold strs;exact .nil
  | n+1,ih=>
   unfold strs
   split
   ·refine List.pairwise_cons.2 ⟨fun b hb=>?_,ih _ (by omega) _⟩
    have h1:=(rM is _ _ b hb).1
    have h2:=(pR is (n+1) i).1
    dsimp only;omega
   ·exact ih n (by omega) _
theorem O7 (is:Nat→Nat→Bool) (long least y:Nat):(SQ is long least y).Pairwise Pv:=by
 unfold SQ Em
 rw [List.pairwise_map]
 exact (List.Pairwise.sublist List.filter_sublist (Lp (is y) long 0)).imp fun h=>.inr ⟨rfl,h⟩
theorem mM (is:Nat→Nat→Bool) (long least:Nat):∀ n,(runs is n long least).Pairwise Pv
 | 0=>by simp [runs]
 | n+1=>by
  rw [iF]
  refine List.pairwise_append.2 ⟨mM is long least n,O7 is long least n,fun a ha b hb=>.inl ?_⟩
  have:=(kE ha).1
  rw [(ND hb).1];exact this
end Go.Fv.L
/- Boxes, and the boxes of pixels, in plain words. -/
namespace Go.Fv.L
open Go
structure Bx where
 x:Int
 y:Int
 w:Int
 h:Int
def Bx.av (b:Bx):List AV:=[.int .i64 b.x,.int .i64 b.y,.int .i64 b.w,.int .i64 b.h]
def Bx.zero:Bx:=⟨0,0,0,0⟩
abbrev SI (l:List Bx):aF:=.objs 4 (l.map Bx.av)
instance:pY Bx.av:=⟨fun _=>rfl⟩
theorem Mc (l:List Bx) {i:Nat} (h:i<l.length):(l.map Bx.av).getD i []=[.int .i64 (l.getD i Bx.zero).x,.int .i64 (l.getD i Bx.zero).y,.int .i64 (l.getD i Bx.zero).w,.int .i64 (l.getD i Bx.zero).h]:=by
 simp [List.getD_eq_getElem?_getD,h,Bx.av]
def cu (a b:Bx):Bx:=⟨min a.x b.x,min a.y b.y,max (a.x+a.w) (b.x+b.w) - min a.x b.x,max (a.y+a.h) (b.y+b.h) - min a.y b.y⟩
def kT (l:List Bx):Bx:=l.foldl cu (l.getD 0 Bx.zero)
theorem U5 {a b:Int} (h:∀ m,m≤a↔m≤b):a=b:=by
 have h1:=(h a).1 (Int.le_refl _)
 have h2:=(h b).2 (Int.le_refl _)
 omega
theorem U4 {a b:Int} (h:∀ m,a≤m↔b≤m):a=b:=by
 have h1:=(h a).1 (Int.le_refl _)
 have h2:=(h b).2 (Int.le_refl _)
 omega
structure Vp (r a:Bx) (l:List Bx):Prop where
 x:∀ m,m≤r.x↔m≤a.x∧∀ b,b∈l→m≤b.x
 y:∀ m,m≤r.y↔m≤a.y∧∀ b,b∈l→m≤b.y
 w:∀ m,r.x+r.w≤m↔a.x+a.w≤m∧∀ b,b∈l→b.x+b.w≤m
 h:∀ m,r.y+r.h≤m↔a.y+a.h≤m∧∀ b,b∈l→b.y+b.h≤m
theorem zA:∀ (l:List Bx) (a:Bx),Vp (l.foldl cu a) a l
 | [],a=>⟨fun m=>by simp,fun m=>by simp,fun m=>by simp,fun m=>by simp⟩
 | c::l,a=>by
  obtain ⟨h1,h2,h3,h4⟩:=zA l (cu a c)
  refine ⟨fun m=>?_,fun m=>?_,fun m=>?_,fun m=>?_⟩
  ·rw [List.foldl_cons,h1 m]
   show m≤min a.x c.x∧_↔_
   simp only [List.mem_cons,forall_eq_or_imp]
   rw [(show m≤min a.x c.x↔m≤a.x∧m≤c.x by omega),and_assoc]
  ·rw [List.foldl_cons,h2 m]
   show m≤min a.y c.y∧_↔_
   simp only [List.mem_cons,forall_eq_or_imp]
   rw [(show m≤min a.y c.y↔m≤a.y∧m≤c.y by omega),and_assoc]
  ·rw [List.foldl_cons,h3 m]
   show min a.x c.x+(max (a.x+a.w) (c.x+c.w) - min a.x c.x)≤m∧_↔_
   simp only [List.mem_cons,forall_eq_or_imp]
   rw [(show min a.x c.x+(max (a.x+a.w) (c.x+c.w) - min a.x c.x)≤m↔a.x+a.w≤m∧c.x+c.w≤m by omega),and_assoc]
  ·rw [List.foldl_cons,h4 m]
   show min a.y c.y+(max (a.y+a.h) (c.y+c.h) - min a.y c.y)≤m∧_↔_
   simp only [List.mem_cons,forall_eq_or_imp]
   rw [(show min a.y c.y+(max (a.y+a.h) (c.y+c.h) - min a.y c.y)≤m↔a.y+a.h≤m∧c.y+c.h≤m by omega),and_assoc]
end Go.Fv.L
/- The rail of a line: its box, and its first pixel. -/
namespace Go.Fv.L
open Go Go.Proofs
def kL (d:Bool) (r:Rn):Bx:=if d=true then ⟨r.y,r.f,1,(r.t:Int) - r.f⟩ else ⟨r.f,r.y,(r.t:Int) - r.f,1⟩
structure Pt where
 x:Int
 y:Int
deriving DecidableEq
def CU (d:Bool) (r:Rn):Pt:=if d=true then ⟨r.y,r.f⟩ else ⟨r.f,r.y⟩
def Pt.lt (p q:Pt):Prop:=p.y<q.y∨(p.y=q.y∧p.x<q.x)
instance (p q:Pt):Decidable (p.lt q):=by unfold Pt.lt;infer_instance
def jX (q p:Pt):Pt:=if p.lt q then p else q
theorem Aq {p q:Pt} (h:p.y<q.y∨(p.y=q.y∧p.x<q.x)):jX q p=p:=if_pos h
theorem Ap {p q:Pt} (h:¬(p.y<q.y∨(p.y=q.y∧p.x<q.x))):jX q p=q:=if_neg h
def vV:List Bx→Bx
 | []=>Bx.zero
 | b::l=>l.foldl cu b
def EY:List Pt→Pt
 | []=>⟨0,0⟩
 | p::l=>l.foldl jX p
theorem Ky {l:List Bx} (h:l≠[]) (b:Bx):vV (l++[b])=cu (vV l) b:=by
 cases l with
 | nil=>exact absurd rfl h
 | cons a l=>simp [vV]
theorem Ov {l:List Pt} (h:l≠[]) (b:Pt):EY (l++[b])=jX (EY l) b:=by
 cases l with
 | nil=>exact absurd rfl h
 | cons a l=>simp [EY]
def iE (d:Bool) (g:List Rn):Bx:=vV (g.map (kL d))
def nX (d:Bool) (g:List Rn):Pt:=EY (g.map (CU d))
theorem UA (d:Bool) (g:List Rn) {i:Nat} (h:i<g.length):iE d (g.take (i+1))=(if i=0 then kL d (g.getD i Rn.zero) else cu (iE d (g.take i)) (kL d (g.getD i Rn.zero)))∧nX d (g.take (i+1))=if i=0 then CU d (g.getD i Rn.zero) else jX (nX d (g.take i)) (CU d (g.getD i Rn.zero)):=by
 unfold iE nX
 rw [List.take_succ_eq_append_getElem h,getD_lt h,List.map_append,List.map_append]
 by_cases h0:i=0
 ·subst h0
  simp [vV,EY]
 ·rw [if_neg h0,if_neg h0]
  have hne:g.take i≠[]:=by
   intro e
   have h2:(g.take i).length=i:=by rw [List.length_take];omega
   rw [e] at h2
   simp at h2;omega
  exact ⟨Ky (by simpa using hne) _,Ov (by simpa using hne) _⟩
def JQ (b:Bx):Prop:=0≤b.x∧b.x≤1000∧0≤b.y∧b.y≤1000∧0≤b.w∧b.w≤2000∧0≤b.h∧b.h≤2000∧b.x+b.w≤1001∧b.y+b.h≤1001
def zi (r:Rn):Prop:=r.y≤1000∧r.f≤r.t∧r.t≤1000
theorem Qd (d:Bool) {r:Rn} (h:zi r):JQ (kL d r):=by
 unfold zi at h
 unfold kL JQ
 cases d<;>simp<;>omega
theorem Ud {a b:Bx} (ha:JQ a) (hb:JQ b):JQ (cu a b):=by
 unfold JQ cu at *
 dsimp only
 omega
theorem Xd (d:Bool) {g:List Rn} (h:∀ r,r∈g→zi r):JQ (iE d g):=by
 have key:∀ (l:List Rn) (a:Bx),JQ a→(∀ r,r∈l→zi r)→JQ ((l.map (kL d)).foldl cu a):=by
  intro l
  induction l with
  | nil=>intro a ha _;exact ha
  | cons r l ih=>intro a ha hl;exact ih _ (Ud ha (Qd d (hl r (.head _)))) fun q hq=>hl q (.tail _ hq)
 unfold iE
 cases g with
 | nil=>unfold vV JQ Bx.zero;simp
 | cons r g=>exact key g _ (Qd d (h r (.head _))) fun q hq=>h q (.tail _ hq)
end Go.Fv.L
/- A hull, and a first pixel, go by what is there alone. -/
namespace Go.Fv.L
open Go Go.Proofs
theorem QI {A B:List Bx} {a b:Bx} (ha:a∈A) (hb:b∈B) (h:∀ c,c∈A↔c∈B):A.foldl cu a=B.foldl cu b:=by
 have k1:=zA A a
 have k2:=zA B b
 have ha':=(h a).1 ha
 have hb':=(h b).2 hb
 have ex:(A.foldl cu a).x=(B.foldl cu b).x:=U5 fun m=>by
  rw [k1.x,k2.x]
  exact ⟨fun ⟨p,q⟩=>⟨q b hb',fun c hc=>q c ((h c).2 hc)⟩,fun ⟨p,q⟩=>⟨q a ha',fun c hc=>q c ((h c).1 hc)⟩⟩
 have ey:(A.foldl cu a).y=(B.foldl cu b).y:=U5 fun m=>by
  rw [k1.y,k2.y]
  exact ⟨fun ⟨p,q⟩=>⟨q b hb',fun c hc=>q c ((h c).2 hc)⟩,fun ⟨p,q⟩=>⟨q a ha',fun c hc=>q c ((h c).1 hc)⟩⟩
 have ew:(A.foldl cu a).x+(A.foldl cu a).w=(B.foldl cu b).x+(B.foldl cu b).w:=U4 fun m=>by
  rw [k1.w,k2.w]
  exact ⟨fun ⟨p,q⟩=>⟨q b hb',fun c hc=>q c ((h c).2 hc)⟩,fun ⟨p,q⟩=>⟨q a ha',fun c hc=>q c ((h c).1 hc)⟩⟩
 have eh:(A.foldl cu a).y+(A.foldl cu a).h=(B.foldl cu b).y+(B.foldl cu b).h:=U4 fun m=>by
  rw [k1.h,k2.h]
  exact ⟨fun ⟨p,q⟩=>⟨q b hb',fun c hc=>q c ((h c).2 hc)⟩,fun ⟨p,q⟩=>⟨q a ha',fun c hc=>q c ((h c).1 hc)⟩⟩
 have e1:(A.foldl cu a).w=(B.foldl cu b).w:=by omega
 have e2:(A.foldl cu a).h=(B.foldl cu b).h:=by omega
 cases hA:A.foldl cu a with
 | mk ax ay aw ah=>
  cases hB:B.foldl cu b with
  | mk bx by' bw bh=>
   rw [hA,hB] at ex ey e1 e2
   dsimp only at ex ey e1 e2
   subst ex ey e1 e2
   rfl
theorem Kw (a:Bx):cu a a=a:=by
 cases a with
 | mk x y w h=>
  unfold cu
  dsimp only
  have e1:min x x=x:=by omega
  have e2:min y y=y:=by omega
  have e3:max (x+w) (x+w) - x=w:=by omega
  have e4:max (y+h) (y+h) - y=h:=by omega
  rw [e1,e2,e3,e4]
theorem Ar {a:Bx} {l:List Bx}:vV (a::l)=(a::l).foldl cu a:=by
 unfold vV
 rw [List.foldl_cons,Kw]
theorem MW {g u:List Rn} (d:Bool) (hne:u≠[]) (h:∀ r,r∈g↔r∈u):kT (g.map (kL d))=iE d u:=by
 unfold iE
 cases u with
 | nil=>exact absurd rfl hne
 | cons r u=>
  have hg:r∈g:=(h r).2 (.head _)
  cases g with
  | nil=>cases hg
  | cons q g=>
   rw [List.map_cons,List.map_cons,Ar]
   exact QI (.head _) (.head _) fun c=>by
    rw [←List.map_cons,←List.map_cons,List.mem_map,List.mem_map]
    exact ⟨fun ⟨x,hx,e⟩=>⟨x,(h x).1 hx,e⟩,fun ⟨x,hx,e⟩=>⟨x,(h x).2 hx,e⟩⟩
end Go.Fv.L
/- A hull turned over. -/
namespace Go.Fv.L
open Go Go.Proofs
def Bx.turn (b:Bx):Bx:=⟨b.y,b.x,b.h,b.w⟩
theorem Ez:∀ (l:List Bx) (a:Bx),(l.foldl cu a).turn=(l.map Bx.turn).foldl cu a.turn
 | [],a=>rfl
 | b::l,a=>Ez l (cu a b)
theorem Sz (r:Rn):(kL false r).turn=kL true r:=rfl
theorem SA (g:List Rn):(iE false g).turn=iE true g:=by
 unfold iE
 cases g with
 | nil=>rfl
 | cons r g=>
  show ((g.map (kL false)).foldl cu (kL false r)).turn=(g.map (kL true)).foldl cu (kL true r)
  rw [Ez,Sz,List.map_map]
  rfl
end Go.Fv.L
/- A hull's sides are reached by what is in it. -/
namespace Go.Fv.L
open Go Go.Proofs
theorem P6 {α:Type} {f:α→Int} {A:List α} {v:Int} (h:∀ m,m≤v↔∀ b,b∈A→m≤f b):∃ b,b∈A∧f b=v:=by
 apply Classical.byContradiction
 intro hn
 have h1:=(h v).1 (Int.le_refl v)
 have:=(h (v+1)).2 fun b hb=>by
  have h2:=h1 b hb
  have h3:f b≠v:=fun e=>hn ⟨b,hb,e⟩
  omega
 omega
theorem P5 {α:Type} {f:α→Int} {A:List α} {v:Int} (h:∀ m,v≤m↔∀ b,b∈A→f b≤m):∃ b,b∈A∧f b=v:=by
 apply Classical.byContradiction
 intro hn
 have h1:=(h v).1 (Int.le_refl v)
 have:=(h (v - 1)).2 fun b hb=>by
  have h2:=h1 b hb
  have h3:f b≠v:=fun e=>hn ⟨b,hb,e⟩
  omega
 omega
theorem RH (d:Bool) {g:List Rn} (hne:g≠[]):(∀ m,m≤(iE d g).x↔∀ b,b∈g.map (kL d)→m≤b.x)∧(∀ m,m≤(iE d g).y↔∀ b,b∈g.map (kL d)→m≤b.y)∧(∀ m,(iE d g).x+(iE d g).w≤m↔∀ b,b∈g.map (kL d)→b.x+b.w≤m)∧∀ m,(iE d g).y+(iE d g).h≤m↔∀ b,b∈g.map (kL d)→b.y+b.h≤m:=by
 cases g with
 | nil=>exact absurd rfl hne
 | cons r g=>
  unfold iE
  rw [List.map_cons,Ar]
  have k:=zA (kL d r::g.map (kL d)) (kL d r)
  exact ⟨fun m=>(k.x m).trans ⟨fun h=>h.2,fun h=>⟨h _ (.head _),h⟩⟩,fun m=>(k.y m).trans ⟨fun h=>h.2,fun h=>⟨h _ (.head _),h⟩⟩,fun m=>(k.w m).trans ⟨fun h=>h.2,fun h=>⟨h _ (.head _),h⟩⟩,fun m=>(k.h m).trans ⟨fun h=>h.2,fun h=>⟨h _ (.head _),h⟩⟩⟩
end Go.Fv.L
/- Classes by a list of parents (union-find), in plain words. -/
namespace Go.Fv.L
open Go
inductive mY (E:Nat→Nat→Prop) (x:Nat):Nat→Prop
 | refl:mY E x x
 | step {y z:Nat} (h:mY E x y) (e:E y z∨E z y):mY E x z
theorem mY.one {E:Nat→Nat→Prop} {x y:Nat} (e:E x y∨E y x):mY E x y:=.step .refl e
theorem mY.trans {E:Nat→Nat→Prop} {x y z:Nat} (h:mY E x y) (k:mY E y z):mY E x z:=by
 induction k with
 | refl=>exact h
 | step _ e ih=>exact .step ih e
theorem mY.symm {E:Nat→Nat→Prop} {x y:Nat} (h:mY E x y):mY E y x:=by
 induction h with
 | refl=>exact .refl
 | step _ e ih=>exact mY.trans (.one e.symm) ih
theorem mY.mono {E F:Nat→Nat→Prop} (hEF:∀ x y,E x y→F x y) {x y:Nat} (h:mY E x y):mY F x y:=by
 induction h with
 | refl=>exact .refl
 | step _ e ih=>exact .step ih (e.elim (fun e=>.inl (hEF _ _ e)) fun e=>.inr (hEF _ _ e))
structure fG (n:Nat) (E:Nat→Nat→Prop) (c:Nat→Nat):Prop where
 le:∀ x,x<n→c x≤x
 idem:∀ x,x<n→c (c x)=c x
 eq:∀ x y,x<n→y<n→(c x=c y↔mY E x y)
theorem fG.least {n:Nat} {E:Nat→Nat→Prop} {c:Nat→Nat} (h:fG n E c) {x y:Nat} (hx:x<n) (hy:y<n) (e:mY E x y):c x≤y:=by
 rw [(h.eq x y hx hy).2 e];exact h.le y hy
theorem fG.uniq {n:Nat} {E:Nat→Nat→Prop} {c c':Nat→Nat} (h:fG n E c) (h':fG n E c') {x:Nat} (hx:x<n):c x=c' x:=by
 have a1:=h.le x hx
 have a2:=h'.le x hx
 have b1:mY E x (c x):=(h.eq x (c x) hx (by omega)).1 (h.idem x hx).symm
 have b2:mY E x (c' x):=(h'.eq x (c' x) hx (by omega)).1 (h'.idem x hx).symm
 exact Nat.le_antisymm (h.least hx (by omega) b2) (h'.least hx (by omega) b1)
theorem fG.ex (n:Nat) (E:Nat→Nat→Prop) (hE:∀ x y,E x y→x<n∧y<n):∃ c,fG n E c:=by
 have key:∀ x,∃ m,mY E x m∧∀ y,mY E x y→m≤y:=fun x=>by
  have:∀ k,∀ y,y≤k→mY E x y→∃ m,mY E x m∧∀ y,mY E x y→m≤y:=by
   intro k
   induction k with
   | zero=>intro y hy h;exact ⟨y,h,fun z _=>by omega⟩
   | succ k ih=>
    intro y hy h
    by_cases hz:∃ z,z≤k∧mY E x z
    ·obtain ⟨z,hz,he⟩:=hz;exact ih z hz he
    ·refine ⟨y,h,fun z hez=>?_⟩
     by_cases hzk:z≤k
     ·exact absurd ⟨z,hzk,hez⟩ hz
     ·omega
  exact this x x (Nat.le_refl _) .refl
 refine ⟨fun x=>(key x).choose,?_,?_,?_⟩
 ·intro x _;exact (key x).choose_spec.2 x .refl
 ·intro x _
  have h1:=(key x).choose_spec
  have h2:=(key (key x).choose).choose_spec
  exact Nat.le_antisymm (h2.2 _ .refl) (h1.2 _ (h1.1.trans h2.1))
 ·intro x y _ _
  have h1:=(key x).choose_spec
  have h2:=(key y).choose_spec
  constructor
  ·intro e
   have h3:mY E y (key x).choose:=by have:=h2.1;rw [←e] at this;exact this
   exact h1.1.trans h3.symm
  ·intro e
   exact Nat.le_antisymm (h1.2 _ (e.trans h2.1)) (h2.2 _ (e.symm.trans h1.1))
structure UF (l:List Int) (c:Nat→Nat):Prop where
 par:∀ x,x<l.length→∃ p:Nat,l.getD x 0=(p:Int)∧p≤x∧c p=c x∧(p=x↔c x=x)
 le:∀ x,x<l.length→c x≤x
 idem:∀ x,x<l.length→c (c x)=c x
theorem xH {l:List Int} {i j:Nat} {v:Int} (hi:i<l.length):(l.set i v).getD j 0=if i=j then v else l.getD j 0:=by
 simp only [List.getD_eq_getElem?_getD,List.getElem?_set]
 by_cases h:i=j
 ·subst h;simp [hi]
 ·simp [h]
theorem UF.near {l:List Int} {c:Nat→Nat} (h:UF l c) {i:Nat} (hi:i<l.length) (hn:c i≠i):UF (l.set i (c i:Nat)) c:=by
 refine ⟨fun x hx=>?_,fun x hx=>h.le x (by simpa using hx),fun x hx=>h.idem x (by simpa using hx)⟩
 rw [List.length_set] at hx
 rw [xH hi]
 by_cases e:i=x
 ·subst e
  rw [if_pos rfl]
  exact ⟨c i,rfl,h.le i hi,h.idem i hi,Iff.rfl⟩
 ·rw [if_neg e];exact h.par x hx
def iU (c:Nat→Nat) (a b:Nat) (x:Nat):Nat:=if c x=max a b then min a b else c x
theorem UF.join {l:List Int} {c:Nat→Nat} (h:UF l c) {x0 y0:Nat} (hx0:x0<l.length) (hy0:y0<l.length):UF (l.set (max (c x0) (c y0)) ((min (c x0) (c y0):Nat):Int)) (iU c (c x0) (c y0)):=by
 have ha:=h.le x0 hx0
 have hb:=h.le y0 hy0
 have ia:=h.idem x0 hx0
 have ib:=h.idem y0 hy0
 generalize c x0=a at *
 generalize c y0=b at *
 have hM:max a b<l.length:=by omega
 have cM:c (max a b)=max a b:=by rcases Nat.le_total a b with e|e<;>simp [Nat.max_eq_right,Nat.max_eq_left,e,ia,ib]
 have cm:c (min a b)=min a b:=by rcases Nat.le_total a b with e|e<;>simp [Nat.min_eq_right,Nat.min_eq_left,e,ia,ib]
 have hmM:min a b≤max a b:=by omega
 refine ⟨fun x hx=>?_,fun x hx=>?_,fun x hx=>?_⟩
 ·rw [List.length_set] at hx
  rw [xH hM]
  obtain ⟨p,p1,p2,p3,p4⟩:=h.par x hx
  by_cases e:max a b=x
  ·subst e
   rw [if_pos rfl]
   refine ⟨min a b,rfl,hmM,?_,?_⟩
   ·unfold iU;rw [cm,cM,if_pos rfl];split<;>rfl
   ·unfold iU;rw [cM,if_pos rfl]
  ·rw [if_neg e]
   refine ⟨p,p1,p2,?_,?_⟩
   ·unfold iU;rw [p3]
   ·unfold iU
    by_cases hq:c x=max a b
    ·rw [if_pos hq]
     constructor
     ·intro hp;have:=p4.1 hp;omega
     ·intro hm
      have:=h.le x hx
      omega
    ·rw [if_neg hq];exact p4
 ·rw [List.length_set] at hx
  have:=h.le x hx
  unfold iU;split<;>omega
 ·rw [List.length_set] at hx
  unfold iU
  by_cases hq:c x=max a b
  ·rw [if_pos hq,cm]
   split<;>rfl
  ·rw [if_neg hq,h.idem x hx,if_neg hq]
theorem QM {n:Nat} {c:Nat→Nat} {E F:Nat→Nat→Prop} (hc:∀ x y,x<n→y<n→(c x=c y↔mY E x y)) {x0 y0:Nat} (hx0:x0<n) (hy0:y0<n) (hF:∀ x y,F x y↔E x y∨(x=x0∧y=y0)) (hE:∀ x y,E x y→x<n∧y<n) :
  ∀ x y,x<n→y<n→(iU c (c x0) (c y0) x=iU c (c x0) (c y0) y↔mY F x y):=by
 have hEF:∀ x y,E x y→F x y:=fun x y e=>(hF x y).2 (.inl e)
 have ab:mY F x0 y0:=.one (.inl ((hF _ _).2 (.inr ⟨rfl,rfl⟩)))
 have up:∀ x y,x<n→y<n→c x=c y→mY F x y:=fun x y hx hy e=>mY.mono hEF ((hc x y hx hy).1 e)
 intro x y hx hy
 constructor
 ·intro h
  unfold iU at h
  by_cases h1:c x=max (c x0) (c y0)
  ·rw [if_pos h1] at h
   by_cases h2:c y=max (c x0) (c y0)
   ·exact up x y hx hy (by omega)
   ·rw [if_neg h2] at h
    rcases Nat.le_total (c x0) (c y0) with e|e
    ·rw [Nat.max_eq_right e] at h1
     rw [Nat.min_eq_left e] at h
     exact ((up x y0 hx hy0 h1).trans ab.symm).trans (up x0 y hx0 hy h)
    ·rw [Nat.max_eq_left e] at h1
     rw [Nat.min_eq_right e] at h
     exact ((up x x0 hx hx0 h1).trans ab).trans (up y0 y hy0 hy h)
  ·rw [if_neg h1] at h
   by_cases h2:c y=max (c x0) (c y0)
   ·rw [if_pos h2] at h
    rcases Nat.le_total (c x0) (c y0) with e|e
    ·rw [Nat.max_eq_right e] at h2
     rw [Nat.min_eq_left e] at h
     exact ((up x x0 hx hx0 h).trans ab).trans (up y0 y hy0 hy h2.symm)
    ·rw [Nat.max_eq_left e] at h2
     rw [Nat.min_eq_right e] at h
     exact ((up x y0 hx hy0 h).trans ab.symm).trans (up x0 y hx0 hy h2.symm)
   ·rw [if_neg h2] at h
    exact up x y hx hy h
 ·intro h
  have same:∀ u v,u<n→v<n→c u=c v→iU c (c x0) (c y0) u=iU c (c x0) (c y0) v:=fun u v _ _ e=>by unfold iU;rw [e]
  have tie:iU c (c x0) (c y0) x0=iU c (c x0) (c y0) y0:=by
   unfold iU;split<;>split<;>omega
  have key:y<n→iU c (c x0) (c y0) x=iU c (c x0) (c y0) y:=by
   induction h with
   | refl=>intro _;rfl
   | @step u v hu e ih=>
    intro hv
    have huv:(u<n)∧iU c (c x0) (c y0) u=iU c (c x0) (c y0) v:=by
     rcases e with e|e
     ·rcases (hF _ _).1 e with e|⟨rfl,rfl⟩
      ·have hh:=hE _ _ e
       exact ⟨hh.1,same u v hh.1 hh.2 ((hc u v hh.1 hh.2).2 (.one (.inl e)))⟩
      ·exact ⟨hx0,tie⟩
     ·rcases (hF _ _).1 e with e|⟨rfl,rfl⟩
      ·have hh:=hE _ _ e
       exact ⟨hh.2,same u v hh.2 hh.1 ((hc u v hh.2 hh.1).2 (.one (.inr e)))⟩
      ·exact ⟨hy0,tie.symm⟩
    exact (ih huv.1 huv.1).trans huv.2
  exact key hy
end Go.Fv.L
