/-
  A part of the proof of the claim: walks over the program's functions and the plain laws that these need. No condition of its own.
-/
import Derived.Test.YtodlgmmbfbiilaaGreatDoorFvPart11
import Derived.Test.YtodlgmmbfbiilaaGreatDoorProg
import Derived.Test.YtodlgmmbfbiilaaGreatDoorFvPart10
set_option linter.unusedSimpArgs false
set_option linter.unusedVariables false
set_option maxRecDepth 8000
set_option linter.unnecessarySimpa false
/- Facts about the program's types: each shown by reckoning it out. -/
namespace Go.Fv.H
open Go Go.Proofs
theorem e1:bM Tryz.prog 1 (.nilFunc):=.of (by kernel_rfl) (by kernel_rfl)
theorem z1:zeroOf Tryz.prog 1=some (.nilFunc):=e1.zero
theorem c1:Tryz.prog.cellsOf 1=1:=e1.cellsOf
theorem e2:bM Tryz.prog 2 (.int .i64 0):=.of (by kernel_rfl) (by kernel_rfl)
theorem z2:zeroOf Tryz.prog 2=some (.int .i64 0):=e2.zero
theorem c2:Tryz.prog.cellsOf 2=1:=e2.cellsOf
theorem e3:bM Tryz.prog 3 (.int .i64 0):=.of (by kernel_rfl) (by kernel_rfl)
theorem z3:zeroOf Tryz.prog 3=some (.int .i64 0):=e3.zero
theorem c3:Tryz.prog.cellsOf 3=1:=e3.cellsOf
theorem e4:bM Tryz.prog 4 (.bool false):=.of (by kernel_rfl) (by kernel_rfl)
theorem z4:zeroOf Tryz.prog 4=some (.bool false):=e4.zero
theorem c4:Tryz.prog.cellsOf 4=1:=e4.cellsOf
theorem e5:bM Tryz.prog 5 (.int .u8 0):=.of (by kernel_rfl) (by kernel_rfl)
theorem z5:zeroOf Tryz.prog 5=some (.int .u8 0):=e5.zero
theorem c5:Tryz.prog.cellsOf 5=1:=e5.cellsOf
theorem e6:bM Tryz.prog 6 (.int .u8 0):=.of (by kernel_rfl) (by kernel_rfl)
theorem z6:zeroOf Tryz.prog 6=some (.int .u8 0):=e6.zero
theorem e7:bM Tryz.prog 7 (.agg #[.int .i64 0,.int .i64 0,.bool false,.int .u8 0]):=.of (by kernel_rfl) (by kernel_rfl)
theorem z7:zeroOf Tryz.prog 7=some (.agg #[.int .i64 0,.int .i64 0,.bool false,.int .u8 0]):=e7.zero
theorem e8:bM Tryz.prog 8 (.agg #[.int .i64 0,.int .i64 0,.bool false,.int .u8 0]):=.of (by kernel_rfl) (by kernel_rfl)
theorem e9:bM Tryz.prog 9 (.string ⟨#[]⟩):=.of (by kernel_rfl) (by kernel_rfl)
theorem z9:zeroOf Tryz.prog 9=some (.string ⟨#[]⟩):=e9.zero
theorem c9:Tryz.prog.cellsOf 9=1:=e9.cellsOf
theorem e12:bM Tryz.prog 12 (.int .u64 0):=.of (by kernel_rfl) (by kernel_rfl)
theorem e17:bM Tryz.prog 17 (.pointer none):=.of (by kernel_rfl) (by kernel_rfl)
theorem e22:bM Tryz.prog 22 (.slice none 0 0):=.of (by kernel_rfl) (by kernel_rfl)
theorem z22:zeroOf Tryz.prog 22=some (.slice none 0 0):=e22.zero
theorem Yo:Tryz.prog.cellsOf 22=1:=e22.cellsOf
theorem e24:bM Tryz.prog 24 (.agg #[.int .i64 0,.int .i64 0,.slice none 0 0]):=.of (by kernel_rfl) (by kernel_rfl)
theorem z24:zeroOf Tryz.prog 24=some (.agg #[.int .i64 0,.int .i64 0,.slice none 0 0]):=e24.zero
theorem c24:Tryz.prog.cellsOf 24=3:=e24.cellsOf
theorem e25:bM Tryz.prog 25 (.nilFunc):=.of (by kernel_rfl) (by kernel_rfl)
theorem z25:zeroOf Tryz.prog 25=some (.nilFunc):=e25.zero
theorem e27:bM Tryz.prog 27 (.slice none 0 0):=.of (by kernel_rfl) (by kernel_rfl)
theorem z27:zeroOf Tryz.prog 27=some (.slice none 0 0):=e27.zero
theorem YS:Tryz.prog.cellsOf 27=1:=e27.cellsOf
theorem e30:bM Tryz.prog 30 (.int .i64 0):=.of (by kernel_rfl) (by kernel_rfl)
theorem z30:zeroOf Tryz.prog 30=some (.int .i64 0):=e30.zero
theorem YA:Tryz.prog.cellsOf 30=1:=e30.cellsOf
theorem e53:bM Tryz.prog 53 (.nilFunc):=.of (by kernel_rfl) (by kernel_rfl)
theorem z53:zeroOf Tryz.prog 53=some (.nilFunc):=e53.zero
theorem e54:bM Tryz.prog 54 (.nilFunc):=.of (by kernel_rfl) (by kernel_rfl)
theorem z54:zeroOf Tryz.prog 54=some (.nilFunc):=e54.zero
theorem e58:bM Tryz.prog 58 (.agg #[.int .i64 0,.int .i64 0,.int .i64 0,.int .i64 0]):=.of (by kernel_rfl) (by kernel_rfl)
theorem z58:zeroOf Tryz.prog 58=some (.agg #[.int .i64 0,.int .i64 0,.int .i64 0,.int .i64 0]):=e58.zero
theorem YI:Tryz.prog.cellsOf 58=4:=e58.cellsOf
theorem YU:bM Tryz.prog 72 (.nilFunc):=.of (by kernel_rfl) (by kernel_rfl)
theorem z72:zeroOf Tryz.prog 72=some (.nilFunc):=YU.zero
theorem YB:bM Tryz.prog 89 (.agg #[.pointer none,.slice none 0 0]):=.of (by kernel_rfl) (by kernel_rfl)
theorem z89:zeroOf Tryz.prog 89=some (.agg #[.pointer none,.slice none 0 0]):=YB.zero
theorem Yy:bM Tryz.prog 91 (.nilIface):=.of (by kernel_rfl) (by kernel_rfl)
theorem VX:bM Tryz.prog 111 (.agg #[.int .i64 0,.int .i64 0]):=.of (by kernel_rfl) (by kernel_rfl)
theorem XV:zeroOf Tryz.prog 111=some (.agg #[.int .i64 0,.int .i64 0]):=VX.zero
theorem Yb:Tryz.prog.cellsOf 111=2:=VX.cellsOf
theorem X8:bM Tryz.prog 112 (.agg #[.int .i64 0,.int .i64 0,.int .i64 0,.int .i64 0,.int .i64 0,.int .i64 0,.int .i64 0,.int .i64 0,.int .i64 0,.int .i64 0,.int .i64 0,.int .i64 0,.int .i64 0,.int .i64 0,.int .i64 0,.int .i64 0,.int .i64 0,.int .i64 0,.int .i64 0,.int .i64 0]):=.of (by kernel_rfl) (by kernel_rfl)
theorem Yj:zeroOf Tryz.prog 112=some (.agg #[.int .i64 0,.int .i64 0,.int .i64 0,.int .i64 0,.int .i64 0,.int .i64 0,.int .i64 0,.int .i64 0,.int .i64 0,.int .i64 0,.int .i64 0,.int .i64 0,.int .i64 0,.int .i64 0,.int .i64 0,.int .i64 0,.int .i64 0,.int .i64 0,.int .i64 0,.int .i64 0]):=X8.zero
theorem X9:bM Tryz.prog 146 (.nilFunc):=.of (by kernel_rfl) (by kernel_rfl)
theorem z146:zeroOf Tryz.prog 146=some (.nilFunc):=X9.zero
theorem Yh:bM Tryz.prog 148 (.nilFunc):=.of (by kernel_rfl) (by kernel_rfl)
theorem z148:zeroOf Tryz.prog 148=some (.nilFunc):=Yh.zero
theorem Wp:bM Tryz.prog 172 (.int .u32 0):=.of (by kernel_rfl) (by kernel_rfl)
theorem X7:zeroOf Tryz.prog 172=some (.int .u32 0):=Wp.zero
theorem XY:Tryz.prog.cellsOf 172=1:=Wp.cellsOf
theorem f7:bP Tryz.prog 7:=by
 intro d hd;rw [Tryz.underlying7] at hd;cases hd
 intro f hf;simp only [List.mem_cons,List.not_mem_nil,or_false] at hf
 rcases hf with rfl|rfl|rfl|rfl
 ·obtain ⟨i,h,_⟩:=e2.ex;exact ⟨i,h⟩
 ·obtain ⟨i,h,_⟩:=e3.ex;exact ⟨i,h⟩
 ·obtain ⟨i,h,_⟩:=e4.ex;exact ⟨i,h⟩
 ·obtain ⟨i,h,_⟩:=e6.ex;exact ⟨i,h⟩
theorem f8:bP Tryz.prog 8:=by
 intro d hd;rw [Tryz.underlying8] at hd;cases hd
 intro f hf;simp only [List.mem_cons,List.not_mem_nil,or_false] at hf
 rcases hf with rfl|rfl|rfl|rfl
 ·obtain ⟨i,h,_⟩:=e2.ex;exact ⟨i,h⟩
 ·obtain ⟨i,h,_⟩:=e3.ex;exact ⟨i,h⟩
 ·obtain ⟨i,h,_⟩:=e4.ex;exact ⟨i,h⟩
 ·obtain ⟨i,h,_⟩:=e6.ex;exact ⟨i,h⟩
theorem f13:bP Tryz.prog 13:=by
 intro d hd;rw [Tryz.underlying13] at hd;cases hd
 intro f hf;simp only [List.mem_cons,List.not_mem_nil,or_false] at hf
 rcases hf with rfl|rfl
 ·obtain ⟨i,h,_⟩:=e9.ex;exact ⟨i,h⟩
 ·obtain ⟨i,h,_⟩:=e12.ex;exact ⟨i,h⟩
theorem f14:bP Tryz.prog 14:=by
 intro d hd;rw [Tryz.underlying14] at hd;cases hd
 intro f hf;simp only [List.mem_cons,List.not_mem_nil,or_false] at hf
 rcases hf with rfl|rfl
 ·obtain ⟨i,h,_⟩:=e9.ex;exact ⟨i,h⟩
 ·obtain ⟨i,h,_⟩:=e12.ex;exact ⟨i,h⟩
theorem f18:bP Tryz.prog 18:=by
 intro d hd;rw [Tryz.underlying18] at hd;cases hd
 intro f hf;simp only [List.mem_cons,List.not_mem_nil,or_false] at hf
 rcases hf with rfl
 ·obtain ⟨i,h,_⟩:=e17.ex;exact ⟨i,h⟩
theorem f19:bP Tryz.prog 19:=by
 intro d hd;rw [Tryz.underlying19] at hd;cases hd
 intro f hf;simp only [List.mem_cons,List.not_mem_nil,or_false] at hf
 rcases hf with rfl
 ·obtain ⟨i,h,_⟩:=e17.ex;exact ⟨i,h⟩
theorem f23:bP Tryz.prog 23:=by
 intro d hd;rw [Tryz.underlying23] at hd;cases hd
 intro f hf;simp only [List.mem_cons,List.not_mem_nil,or_false] at hf
 rcases hf with rfl|rfl|rfl
 ·obtain ⟨i,h,_⟩:=e3.ex;exact ⟨i,h⟩
 ·obtain ⟨i,h,_⟩:=e3.ex;exact ⟨i,h⟩
 ·obtain ⟨i,h,_⟩:=e22.ex;exact ⟨i,h⟩
theorem f24:bP Tryz.prog 24:=by
 intro d hd;rw [Tryz.underlying24] at hd;cases hd
 intro f hf;simp only [List.mem_cons,List.not_mem_nil,or_false] at hf
 rcases hf with rfl|rfl|rfl
 ·obtain ⟨i,h,_⟩:=e3.ex;exact ⟨i,h⟩
 ·obtain ⟨i,h,_⟩:=e3.ex;exact ⟨i,h⟩
 ·obtain ⟨i,h,_⟩:=e22.ex;exact ⟨i,h⟩
theorem f57:bP Tryz.prog 57:=by
 intro d hd;rw [Tryz.underlying57] at hd;cases hd
 intro f hf;simp only [List.mem_cons,List.not_mem_nil,or_false] at hf
 rcases hf with rfl|rfl|rfl|rfl
 ·obtain ⟨i,h,_⟩:=e3.ex;exact ⟨i,h⟩
 ·obtain ⟨i,h,_⟩:=e3.ex;exact ⟨i,h⟩
 ·obtain ⟨i,h,_⟩:=e3.ex;exact ⟨i,h⟩
 ·obtain ⟨i,h,_⟩:=e3.ex;exact ⟨i,h⟩
theorem f58:bP Tryz.prog 58:=by
 intro d hd;rw [Tryz.underlying58] at hd;cases hd
 intro f hf;simp only [List.mem_cons,List.not_mem_nil,or_false] at hf
 rcases hf with rfl|rfl|rfl|rfl
 ·obtain ⟨i,h,_⟩:=e3.ex;exact ⟨i,h⟩
 ·obtain ⟨i,h,_⟩:=e3.ex;exact ⟨i,h⟩
 ·obtain ⟨i,h,_⟩:=e3.ex;exact ⟨i,h⟩
 ·obtain ⟨i,h,_⟩:=e3.ex;exact ⟨i,h⟩
theorem f62:bP Tryz.prog 62:=by
 intro d hd;rw [Tryz.underlying62] at hd;cases hd
 intro f hf;simp only [List.mem_cons,List.not_mem_nil,or_false] at hf
 rcases hf with rfl|rfl
 ·obtain ⟨i,h,_⟩:=e9.ex;exact ⟨i,h⟩
 ·obtain ⟨i,h,_⟩:=e24.ex;exact ⟨i,h⟩
theorem f63:bP Tryz.prog 63:=by
 intro d hd;rw [Tryz.underlying63] at hd;cases hd
 intro f hf;simp only [List.mem_cons,List.not_mem_nil,or_false] at hf
 rcases hf with rfl|rfl
 ·obtain ⟨i,h,_⟩:=e9.ex;exact ⟨i,h⟩
 ·obtain ⟨i,h,_⟩:=e24.ex;exact ⟨i,h⟩
theorem f74:bP Tryz.prog 74:=by
 intro d hd;rw [Tryz.underlying74] at hd;cases hd
 intro f hf;simp only [List.mem_cons,List.not_mem_nil,or_false] at hf
 rcases hf with rfl|rfl|rfl
 ·obtain ⟨i,h,_⟩:=e9.ex;exact ⟨i,h⟩
 ·obtain ⟨i,h,_⟩:=e3.ex;exact ⟨i,h⟩
 ·obtain ⟨i,h,_⟩:=e3.ex;exact ⟨i,h⟩
theorem f75:bP Tryz.prog 75:=by
 intro d hd;rw [Tryz.underlying75] at hd;cases hd
 intro f hf;simp only [List.mem_cons,List.not_mem_nil,or_false] at hf
 rcases hf with rfl|rfl|rfl
 ·obtain ⟨i,h,_⟩:=e9.ex;exact ⟨i,h⟩
 ·obtain ⟨i,h,_⟩:=e3.ex;exact ⟨i,h⟩
 ·obtain ⟨i,h,_⟩:=e3.ex;exact ⟨i,h⟩
theorem f111:bP Tryz.prog 111:=by
 intro d hd;rw [Tryz.underlying111] at hd;cases hd
 obtain ⟨i,h,_⟩:=e3.ex;exact ⟨i,h⟩
theorem f112:bP Tryz.prog 112:=by
 intro d hd;rw [Tryz.underlying112] at hd;cases hd
 obtain ⟨i,h,_⟩:=VX.ex;exact ⟨i,h⟩
theorem f212:bP Tryz.prog 212:=by
 intro d hd;rw [Tryz.underlying212] at hd;cases hd
 intro f hf;simp only [List.mem_cons,List.not_mem_nil,or_false] at hf
 rcases hf with rfl|rfl|rfl
 ·obtain ⟨i,h,_⟩:=e9.ex;exact ⟨i,h⟩
 ·obtain ⟨i,h,_⟩:=e9.ex;exact ⟨i,h⟩
 ·obtain ⟨i,h,_⟩:=Yy.ex;exact ⟨i,h⟩
theorem k1 {K:Prop}:bn (bM Tryz.prog 1 (.nilFunc)) K=K:=y8 e1
theorem k2 {K:Prop}:bn (bM Tryz.prog 2 (.int .i64 0)) K=K:=y8 e2
theorem k3 {K:Prop}:bn (bM Tryz.prog 3 (.int .i64 0)) K=K:=y8 e3
theorem YV:(bM Tryz.prog 3 (.int .i64 0))=True:=eq_true e3
theorem k4 {K:Prop}:bn (bM Tryz.prog 4 (.bool false)) K=K:=y8 e4
theorem YM:(bM Tryz.prog 4 (.bool false))=True:=eq_true e4
theorem k5 {K:Prop}:bn (bM Tryz.prog 5 (.int .u8 0)) K=K:=y8 e5
theorem YR:(bM Tryz.prog 5 (.int .u8 0))=True:=eq_true e5
theorem k6 {K:Prop}:bn (bM Tryz.prog 6 (.int .u8 0)) K=K:=y8 e6
theorem YF:(bM Tryz.prog 9 (.string ⟨#[]⟩))=True:=eq_true e9
theorem X3:(bM Tryz.prog 30 (.int .i64 0))=True:=eq_true e30
theorem Xl:(bM Tryz.prog 172 (.int .u32 0))=True:=eq_true Wp
theorem Ye:(bP Tryz.prog 24)=True:=eq_true f24
theorem Yc:(bP Tryz.prog 58)=True:=eq_true f58
theorem Xx:(bP Tryz.prog 111)=True:=eq_true f111
theorem XG:(bP Tryz.prog 112)=True:=eq_true f112
attribute [go_sem] Tryz.underlying0 Tryz.underlying1 Tryz.underlying2 Tryz.underlying3 Tryz.underlying4 Tryz.underlying5
attribute [go_sem] Tryz.underlying6 Tryz.underlying7 Tryz.underlying8 Tryz.underlying9 Tryz.underlying10 Tryz.underlying11 Tryz.underlying12 Tryz.underlying13 Tryz.underlying14 Tryz.underlying15 Tryz.underlying16 Tryz.underlying17
attribute [go_sem] Tryz.underlying18 Tryz.underlying19 Tryz.underlying20 Tryz.underlying21 Tryz.underlying22 Tryz.underlying23 Tryz.underlying24 Tryz.underlying25 Tryz.underlying26 Tryz.underlying27 Tryz.underlying28 Tryz.underlying29
attribute [go_sem] Tryz.underlying30 Tryz.underlying31 Tryz.underlying32 Tryz.underlying33 Tryz.underlying34 Tryz.underlying35 Tryz.underlying36 Tryz.underlying37 Tryz.underlying38 Tryz.underlying39 Tryz.underlying40 Tryz.underlying41
attribute [go_sem] Tryz.underlying42 Tryz.underlying43 Tryz.underlying44 Tryz.underlying45 Tryz.underlying46 Tryz.underlying47 Tryz.underlying48 Tryz.underlying49 Tryz.underlying50 Tryz.underlying51 Tryz.underlying52 Tryz.underlying53
attribute [go_sem] Tryz.underlying54 Tryz.underlying55 Tryz.underlying56 Tryz.underlying57 Tryz.underlying58 Tryz.underlying59 Tryz.underlying60 Tryz.underlying61 Tryz.underlying62 Tryz.underlying63 Tryz.underlying64 Tryz.underlying65
attribute [go_sem] Tryz.underlying66 Tryz.underlying67 Tryz.underlying68 Tryz.underlying69 Tryz.underlying70 Tryz.underlying71 Tryz.underlying72 Tryz.underlying73 Tryz.underlying74 Tryz.underlying75 Tryz.underlying76 Tryz.underlying77
attribute [go_sem] Tryz.underlying78 Tryz.underlying79 Tryz.underlying80 Tryz.underlying81 Tryz.underlying82 Tryz.underlying83 Tryz.underlying84 Tryz.underlying85 Tryz.underlying86 Tryz.underlying87 Tryz.underlying88 Tryz.underlying89
attribute [go_sem] Tryz.underlying90 Tryz.underlying91 Tryz.underlying92 Tryz.underlying93 Tryz.underlying94 Tryz.underlying95 Tryz.underlying96 Tryz.underlying97 Tryz.underlying98 Tryz.underlying99 Tryz.underlying100 Tryz.underlying101
attribute [go_sem] Tryz.underlying102 Tryz.underlying103 Tryz.underlying104 Tryz.underlying105 Tryz.underlying106 Tryz.underlying107 Tryz.underlying108 Tryz.underlying109 Tryz.underlying110 Tryz.underlying111 Tryz.underlying112 Tryz.underlying113
attribute [go_sem] Tryz.underlying114 Tryz.underlying115 Tryz.underlying116 Tryz.underlying117 Tryz.underlying118 Tryz.underlying119 Tryz.underlying120 Tryz.underlying121 Tryz.underlying122 Tryz.underlying123 Tryz.underlying124 Tryz.underlying125
attribute [go_sem] Tryz.underlying126 Tryz.underlying127 Tryz.underlying128 Tryz.underlying129 Tryz.underlying130 Tryz.underlying131 Tryz.underlying132 Tryz.underlying133 Tryz.underlying134 Tryz.underlying135 Tryz.underlying136 Tryz.underlying137
attribute [go_sem] Tryz.underlying138 Tryz.underlying139 Tryz.underlying140 Tryz.underlying141 Tryz.underlying142 Tryz.underlying143 Tryz.underlying144 Tryz.underlying145 Tryz.underlying146 Tryz.underlying147 Tryz.underlying148 Tryz.underlying149
attribute [go_sem] Tryz.underlying150 Tryz.underlying151 Tryz.underlying152 Tryz.underlying153 Tryz.underlying154 Tryz.underlying155 Tryz.underlying156 Tryz.underlying157 Tryz.underlying158 Tryz.underlying159 Tryz.underlying160 Tryz.underlying161
attribute [go_sem] Tryz.underlying162 Tryz.underlying163 Tryz.underlying164 Tryz.underlying165 Tryz.underlying166 Tryz.underlying167 Tryz.underlying168 Tryz.underlying169 Tryz.underlying170 Tryz.underlying171 Tryz.underlying172 Tryz.underlying173
attribute [go_sem] Tryz.underlying174 Tryz.underlying175 Tryz.underlying176 Tryz.underlying177 Tryz.underlying178 Tryz.underlying179 Tryz.underlying180 Tryz.underlying181 Tryz.underlying182 Tryz.underlying183 Tryz.underlying184 Tryz.underlying185
attribute [go_sem] Tryz.underlying186 Tryz.underlying187 Tryz.underlying188 Tryz.underlying189 Tryz.underlying190 Tryz.underlying191 Tryz.underlying192 Tryz.underlying193 Tryz.underlying194 Tryz.underlying195 Tryz.underlying196 Tryz.underlying197
attribute [go_sem] Tryz.underlying198 Tryz.underlying199 Tryz.underlying200 Tryz.underlying201 Tryz.underlying202 Tryz.underlying203 Tryz.underlying204 Tryz.underlying205 Tryz.underlying206 Tryz.underlying207 Tryz.underlying208 Tryz.underlying209
attribute [go_sem] Tryz.underlying210 Tryz.underlying211 Tryz.underlying212 Tryz.underlying213 Tryz.underlying214 Tryz.underlying215 Tryz.underlying216 Tryz.underlying217 Tryz.underlying218 Tryz.underlying219 Tryz.underlying220 Tryz.underlying221
attribute [go_sem] Tryz.underlying222 Tryz.underlying223 Tryz.underlying224 Tryz.underlying225 Tryz.underlying226 Tryz.underlying227 Tryz.underlying228 Tryz.underlying229 Tryz.underlying230 Tryz.underlying231 Tryz.underlying232 Tryz.underlying233
attribute [go_sem] Tryz.underlying234 Tryz.underlying235 Tryz.underlying236 k1 z1 c1 k2 z2 c2 k3
attribute [go_sem] YV z3 c3 k4 YM z4 c4 k5 YR z5 c5 k6
attribute [go_sem] z6 z7
attribute [go_sem] YF z9 c9
attribute [go_sem] z22 Yo
attribute [go_sem] z24 c24 z25
attribute [go_sem] z27 YS
attribute [go_sem] X3 z30 YA
attribute [go_sem] z53
attribute [go_sem] z54
attribute [go_sem] z58 YI
attribute [go_sem] z72
attribute [go_sem] z89
attribute [go_sem] XV Yb
attribute [go_sem] Yj
attribute [go_sem] z146
attribute [go_sem] z148
attribute [go_sem] Xl X7 XY
attribute [go_sem] Ye
attribute [go_sem] Yc
attribute [go_sem] Xx XG
theorem dP (b:Bool) (e:Int):aA Tryz.prog 29 [.bool b,.int .i64 e] (.int .i64 (if b=true then e else 0)) []:=by
 refine aA.aG Tryz.func29 rfl (by decide) (by simp [Tryz.f29]) [.tmp 4] rfl fun w0 T0 _=>?_
 simp only [Tryz.f29,au]
 cases b<;>simp only [go_sem]<;>(refine aV.auto 0 ?_ rfl ?_<;>simp only [go_sem,Int.natCast_succ,Post])
def aS (w h:Int):Int:=if w<1∨4000<w∨h<1∨4000<h then 3 else if 1048576<w*h then 4 else 0
set_option maxHeartbeats 1000000 in
theorem jg (w h:Int):aA Tryz.prog 67 [.int .i64 w,.int .i64 h] (.int .i64 (aS w h)) []:=by
 refine aA.aG Tryz.func67 rfl (by decide) (by simp [Tryz.f67]) [.tmp 4] rfl fun w0 T0 _=>?_
 simp only [Tryz.f67,au]
 simp only [go_sem]
 (repeat' first|(with_reducible refine qg.intro fun _=>?_)|((with_reducible refine bn.intro ?_ ?_);(· first|omega|(with_reducible refine bn.intro ?_ ?_<;>omega)|(simp;done)|(simp;omega)))|((with_reducible refine bW.i64 ?_ ?_ ?_);(· omega);(· omega))|((with_reducible refine Ite.decide (fun _=>?_) (fun _=>?_))<;>first|(exfalso;omega)|simp only [go_sem])|((with_reducible refine Ite.bool (fun _=>?_) (fun _=>?_))<;>simp only [go_sem])|(with_reducible refine And.intro ?_ ?_))
 ·rename_i h1
  refine aV.auto 0 ?_ rfl ?_<;>simp only [go_sem,Int.natCast_succ,Post,aS]
  rw [if_pos (by omega)]
 ·rename_i h1
  have hm1:0≤w*h:=Int.mul_nonneg (by omega) (by omega)
  have hm2:w*h≤4000*4000:=Int.mul_le_mul (by omega) (by omega) (by omega) (by omega)
  refine bW.i64 (by omega) (by omega) ?_
  (repeat' first|(with_reducible refine qg.intro fun _=>?_)|((with_reducible refine bn.intro ?_ ?_);(· first|omega|(with_reducible refine bn.intro ?_ ?_<;>omega)|(simp;done)|(simp;omega)))|((with_reducible refine bW.i64 ?_ ?_ ?_);(· omega);(· omega))|((with_reducible refine Ite.decide (fun _=>?_) (fun _=>?_))<;>first|(exfalso;omega)|simp only [go_sem])|((with_reducible refine Ite.bool (fun _=>?_) (fun _=>?_))<;>simp only [go_sem])|(with_reducible refine And.intro ?_ ?_))
  ·refine aV.auto 0 ?_ rfl ?_<;>simp only [go_sem,Int.natCast_succ,Post,aS]
   rw [if_neg (by omega),if_pos (by omega)]
  ·refine aV.auto 0 ?_ rfl ?_<;>simp only [go_sem,Int.natCast_succ,Post,aS]
   rw [if_neg (by omega),if_neg (by omega)]
def tY (w h:Int) (n:Nat):Int:=if aS w h=0 then (if (n:Int)=w*h then 0 else 2) else aS w h
theorem fA {w h:Int} (e:aS w h=0):1≤w∧w≤4000∧1≤h∧h≤4000∧w*h≤1048576∧1≤w*h:=by
 unfold aS at e
 split at e
 ·omega
 ·split at e
  ·omega
  ·rename_i h1 h2
   have:1*1≤w*h:=Int.mul_le_mul (by omega) (by omega) (by omega) (by omega)
   omega
theorem vW {w h:Int} (h1:1≤w) (h2:w≤4000) (h3:1≤h) (h4:h≤4000) (hm2:w*h≤1048576):aS w h=0:=by
 unfold aS
 rw [if_neg (by omega),if_neg (by omega)]
set_option maxHeartbeats 1000000 in
theorem wZ (w h:Int) (p:List Bool):aA Tryz.prog 74 [.agg [.int .i64 w,.int .i64 h,.ro (.bools p)]] (.int .i64 (tY w h p.length)) []:=by
 refine aA.aG Tryz.func74 rfl (by decide) (by simp [Tryz.f74]) [.tmp 2] rfl fun w0 T0 _=>?_
 simp only [Tryz.f74,au]
 simp only [go_sem]
 (repeat' first|(with_reducible refine qg.intro fun _=>?_)|((with_reducible refine bn.intro ?_ ?_);(· first|omega|(with_reducible refine bn.intro ?_ ?_<;>omega)|(simp;done)|(simp;omega)))|((with_reducible refine bW.i64 ?_ ?_ ?_);(· omega);(· omega))|((with_reducible refine Ite.decide (fun _=>?_) (fun _=>?_))<;>first|(exfalso;omega)|simp only [go_sem])|((with_reducible refine Ite.bool (fun _=>?_) (fun _=>?_))<;>simp only [go_sem])|(with_reducible refine And.intro ?_ ?_))
 refine ah.fr (args':=[.int .i64 w,.int .i64 h]) (dh.eG (jg w h) rfl rfl) (by simp [aP,aU,aF]) 0 rfl (by simp [iL]) ?_
 simp only [go_sem]
 (repeat' first|(with_reducible refine qg.intro fun _=>?_)|((with_reducible refine bn.intro ?_ ?_);(· first|omega|(with_reducible refine bn.intro ?_ ?_<;>omega)|(simp;done)|(simp;omega)))|((with_reducible refine bW.i64 ?_ ?_ ?_);(· omega);(· omega))|((with_reducible refine Ite.decide (fun _=>?_) (fun _=>?_))<;>first|(exfalso;omega)|simp only [go_sem])|((with_reducible refine Ite.bool (fun _=>?_) (fun _=>?_))<;>simp only [go_sem])|(with_reducible refine And.intro ?_ ?_))
 ·rename_i h1
  refine aV.auto 0 ?_ rfl ?_<;>simp only [go_sem,Int.natCast_succ,Post,tY,h1,reduceIte]
 ·have h1:aS w h=0:=by omega
  have hs:=fA h1
  refine bW.i64 (by omega) (by omega) ?_
  (repeat' first|(with_reducible refine qg.intro fun _=>?_)|((with_reducible refine bn.intro ?_ ?_);(· first|omega|(with_reducible refine bn.intro ?_ ?_<;>omega)|(simp;done)|(simp;omega)))|((with_reducible refine bW.i64 ?_ ?_ ?_);(· omega);(· omega))|((with_reducible refine Ite.decide (fun _=>?_) (fun _=>?_))<;>first|(exfalso;omega)|simp only [go_sem])|((with_reducible refine Ite.bool (fun _=>?_) (fun _=>?_))<;>simp only [go_sem])|(with_reducible refine And.intro ?_ ?_))
  ·rename_i h2
   refine aV.auto 0 ?_ rfl ?_<;>simp only [go_sem,Int.natCast_succ,Post,tY,h1,h2,reduceIte]
  ·rename_i h2
   refine aV.auto 0 ?_ rfl ?_<;>simp only [go_sem,Int.natCast_succ,Post,tY,h1,reduceIte]
   rw [if_pos (by omega)]
def rowsOf {α:Type} (w:Nat) (p:Nat→Nat→α) (n:Nat):List α:=(List.range n).map fun k=>p (k%w) (k / w)
theorem Em {α:Type} (w:Nat) (p:Nat→Nat→α) (n:Nat):(rowsOf w p n).length=n:=by simp [rowsOf]
theorem JF {α:Type} {w:Nat} (p:Nat→Nat→α) {x y:Nat} (hx:x<w):rowsOf w p (y*w+(x+1))=rowsOf w p (y*w+x)++[p x y]:=by
 unfold rowsOf
 rw [←Nat.add_assoc,List.range_succ,List.map_append]
 have e1:(y*w+x)%w=x:=by rw [Nat.mul_comm,Nat.mul_add_mod,Nat.mod_eq_of_lt hx]
 have e2:(y*w+x) / w=y:=by rw [Nat.mul_comm,Nat.mul_add_div (by omega),Nat.div_eq_of_lt hx,Nat.add_zero]
 simp [e1,e2]
set_option maxHeartbeats 1000000 in
theorem Ol (w h:Nat) (hw:w≤4000) (hh:h≤4000) (f:Nat) (caps:List AV) [CW caps] (p:Nat→Nat→Bool) (hp:∀ x y:Nat,x<w→y<h→dh Tryz.prog f ([.int .i64 x,.int .i64 y]++caps) (.bool (p x y)) []) :
  aA Tryz.prog 52 [.int .i64 w,.int .i64 h,.fn f caps] (.agg [.int .i64 w,.int .i64 h,.own 0]) [(0,.row 4 (.bools (rowsOf w p (h*w))))]:=by
 refine aA.aG Tryz.func52 rfl (by decide) (by simp [Tryz.f52]) [.cell 6 24] rfl fun w0 T0 _=>?_
 simp only [Tryz.f52,au]
 simp only [go_sem]
 (repeat' first|(with_reducible refine qg.intro fun _=>?_)|((with_reducible refine bn.intro ?_ ?_);(· first|omega|(with_reducible refine bn.intro ?_ ?_<;>omega)|(simp;done)|(simp;omega)))|((with_reducible refine bW.i64 ?_ ?_ ?_);(· omega);(· omega))|((with_reducible refine Ite.decide (fun _=>?_) (fun _=>?_))<;>first|(exfalso;omega)|simp only [go_sem])|((with_reducible refine Ite.bool (fun _=>?_) (fun _=>?_))<;>simp only [go_sem])|(with_reducible refine And.intro ?_ ?_))
 refine aI.intro (fun y:Nat=>⟨33,[(14,.int .i64 y),(13,.int .i64 h),(7,.ptr 1 0),(6,.ptr 0 0),(0,.int .i64 w),(2,.fn f caps)],[(1,.box 24 [.int .i64 w,.int .i64 h,.own 2]),(0,.box 24 [.int .i64 0,.int .i64 0,.nilS]),(2,.row 4 (.bools (rowsOf w p (y*w))))],3⟩) (fun y=>y≤h) (fun y=>h - y) 0 ?_ (Nat.zero_le _) fun y hy=>?_
 ·refine aO.trans (aO.iM (P:=Tryz.prog) 1 2 4 e4 rfl rfl) (aO.ak rfl ?_ ?_)<;>simp only [go_sem,Int.natCast_succ,rowsOf,put,Nat.zero_mul,List.range_zero,List.map_nil]
 simp only [go_sem]
 (repeat' first|(with_reducible refine qg.intro fun _=>?_)|((with_reducible refine bn.intro ?_ ?_);(· first|omega|(with_reducible refine bn.intro ?_ ?_<;>omega)|(simp;done)|(simp;omega)))|((with_reducible refine bW.i64 ?_ ?_ ?_);(· omega);(· omega))|((with_reducible refine Ite.decide (fun _=>?_) (fun _=>?_))<;>first|(exfalso;omega)|simp only [go_sem])|((with_reducible refine Ite.bool (fun _=>?_) (fun _=>?_))<;>simp only [go_sem])|(with_reducible refine And.intro ?_ ?_))
 ·refine aI.intro (fun x:Nat=>⟨33,[(18,.int .i64 x),(17,.int .i64 w),(8,.int .i64 y),(14,.int .i64 y),(13,.int .i64 h),(7,.ptr 1 0),(6,.ptr 0 0),(0,.int .i64 w),(2,.fn f caps)],[(1,.box 24 [.int .i64 w,.int .i64 h,.own 2]),(0,.box 24 [.int .i64 0,.int .i64 0,.nilS]),(2,.row 4 (.bools (rowsOf w p (y*w+x))))],3⟩) (fun x=>x≤w) (fun x=>w - x) 0 ?_ (Nat.zero_le _) fun x hx=>?_
  ·refine aO.ak rfl ?_ ?_<;>simp only [go_sem,Int.natCast_succ]
  simp only [go_sem]
  (repeat' first|(with_reducible refine qg.intro fun _=>?_)|((with_reducible refine bn.intro ?_ ?_);(· first|omega|(with_reducible refine bn.intro ?_ ?_<;>omega)|(simp;done)|(simp;omega)))|((with_reducible refine bW.i64 ?_ ?_ ?_);(· omega);(· omega))|((with_reducible refine Ite.decide (fun _=>?_) (fun _=>?_))<;>first|(exfalso;omega)|simp only [go_sem])|((with_reducible refine Ite.bool (fun _=>?_) (fun _=>?_))<;>simp only [go_sem])|(with_reducible refine And.intro ?_ ?_))
  ·refine aQ.lex [6,7,9] [(0,[1]),(1,[1])] (by kernel_rfl) (by kernel_rfl) ?_
   simp only [go_sem]
   (repeat' first|(with_reducible refine qg.intro fun _=>?_)|((with_reducible refine bn.intro ?_ ?_);(· first|omega|(with_reducible refine bn.intro ?_ ?_<;>omega)|(simp;done)|(simp;omega)))|((with_reducible refine bW.i64 ?_ ?_ ?_);(· omega);(· omega))|((with_reducible refine Ite.decide (fun _=>?_) (fun _=>?_))<;>first|(exfalso;omega)|simp only [go_sem])|((with_reducible refine Ite.bool (fun _=>?_) (fun _=>?_))<;>simp only [go_sem])|(with_reducible refine And.intro ?_ ?_))
   refine QV.intro (.bool (p x y)) ?_ ?_
   ·simp only [go_sem]
    refine ah.fr (args':=[.int .i64 x,.int .i64 y]++caps) (hp x y (by omega) (by omega)) (by simp [aP,aU,aF,LQ]) 0 rfl (by simp [iL]) ?_
    simp only [go_sem]
   ·simp only [go_sem]
    have hb:y*w+x≤4000*4000+4000:=Nat.add_le_add (Nat.mul_le_mul (by omega) hw) (by omega)
    have hr:=Em w p (y*w+x)
    have hs:=JF p (x:=x) (y:=y) (w:=w) (by omega)
    (repeat' first|(with_reducible refine qg.intro fun _=>?_)|((with_reducible refine bn.intro ?_ ?_);(· first|omega|(with_reducible refine bn.intro ?_ ?_<;>omega)|(simp;done)|(simp;omega)))|((with_reducible refine bW.i64 ?_ ?_ ?_);(· omega);(· omega))|((with_reducible refine Ite.decide (fun _=>?_) (fun _=>?_))<;>first|(exfalso;omega)|simp only [go_sem])|((with_reducible refine Ite.bool (fun _=>?_) (fun _=>?_))<;>simp only [go_sem])|(with_reducible refine And.intro ?_ ?_))
    refine ⟨x+1,aO.ak rfl ?_ ?_,by omega,by omega⟩<;>simp only [go_sem,Int.natCast_succ,hs]
    all_goals rfl
  ·refine ⟨y+1,aO.ak rfl ?_ ?_,by omega,by omega⟩<;>simp only [go_sem,Int.natCast_succ]
   have e:x=w:=by omega
   all_goals first|rfl|rw [e,Nat.succ_mul]
 ·have e:y=h:=by omega
  subst e
  refine aV.auto 1 ?_ rfl ?_<;>simp only [go_sem,Int.natCast_succ,Post]
  all_goals simp only [go_sem]
theorem WO (a:Int) (m:Nat) (hm:m<2 ^ 63):0≤fU .and .i64 a m∧fU .and .i64 a m≤m:=by
 unfold fU
 dsimp only
 have h1:(BitVec.ofInt 64 a &&& BitVec.ofInt 64 (m:Int)).toNat≤m:=by
  rw [BitVec.toNat_and]
  refine Nat.le_trans Nat.and_le_right ?_
  rw [BitVec.ofInt_natCast,BitVec.toNat_ofNat]
  exact Nat.mod_le _ _
 rw [show IntKind.i64.bits=64 from rfl]
 rw [kS (lq.2 ⟨by omega,by omega⟩)]
 omega
def jq (a:Int) (m:Nat):Nat:=(1+fU .and .i64 a m).toNat
theorem Bf (a:Int) (m:Nat) (hm:m<2 ^ 63):1≤jq a m∧jq a m≤m+1∧1+fU .and .i64 a m=((jq a m:Nat):Int):=by
 have:=WO a m hm
 unfold jq;omega
def Ns (p:List Bool) (w x y:Nat):Bool:=decide (0<p.length) && p.getD ((y*w+x)%p.length) false
set_option maxHeartbeats 2000000 in
theorem Vq (W H:Int) (p:List Bool) (w x y:Nat) (hw:w≤32) (hx:x<w) (hy:y<32) :
  aA Tryz.prog 53 [.int .i64 x,.int .i64 y,.cell [.int .i64 W,.int .i64 H,.ro (.bools p)],.cell [.int .i64 w]] (.bool (Ns p w x y)) []:=by
 have b1:y*w≤32*32:=Nat.mul_le_mul (by omega) hw
 have hm:=Nat.mod_lt (y*w+x) (y:=p.length)
 refine aA.aG Tryz.func53 rfl (by decide) (by simp [Tryz.f53]) [.tmp 6] rfl fun w0 T0 _=>?_
 simp only [Tryz.f53,au]
 (repeat' with_reducible first|intro _|exact dn|refine rn ?_|refine ra ?_ ?_)
 refine aQ.lex [] [] (by kernel_rfl) (by kernel_rfl) ?_
 (repeat' with_reducible first|intro _|refine rz ?_|refine ra ?_ ?_|omega|simp only [go_sem,up_mul,up_add,up_tmod,Int.toNat_natCast])
 refine aV.auto 0 ?_ rfl ?_<;>simp only [go_sem,Int.natCast_succ,Post,Ns]
 simp
set_option maxHeartbeats 2000000 in
theorem WJ (W H:Int) (p:List Bool) :
  aA Tryz.prog 12 [.agg [.int .i64 W,.int .i64 H,.ro (.bools p)]] (.agg [.int .i64 (jq W 31),.int .i64 (jq H 31),.own 0]) [(0,.row 4 (.bools (rowsOf (jq W 31) (Ns p (jq W 31)) (jq H 31*jq W 31))))]:=by
 obtain ⟨w1,w2,w3⟩:=Bf W 31 (by decide)
 obtain ⟨h1,h2,h3⟩:=Bf H 31 (by decide)
 replace w3:1+fU .and .i64 W 31=((jq W 31:Nat):Int):=w3
 replace h3:1+fU .and .i64 H 31=((jq H 31:Nat):Int):=h3
 generalize jq W 31=w at *
 generalize jq H 31=h at *
 haveI c1:CW [.cell [.int .i64 W,.int .i64 H,.ro (.bools p)],.cell [.int .i64 w]]:=⟨rfl⟩
 have k1:=Ol w h (by omega) (by omega) 53 [.cell [.int .i64 W,.int .i64 H,.ro (.bools p)],.cell [.int .i64 w]] (Ns p w)
  (fun x y hx hy=>dh.eG (Vq W H p w x y (by omega) hx (by omega)) rfl rfl)
 generalize rowsOf w (Ns p w) (h*w)=out at *
 refine aA.aG Tryz.func12 rfl (by decide) (by simp [Tryz.f12]) [.cell 2 24] rfl fun w0 T0 _=>?_
 simp only [Tryz.f12,au]
 (repeat' with_reducible first|intro _|exact dn|refine rn ?_|refine ra ?_ ?_)
 refine aQ.lex [8,9] [(0,[1]),(1,[1]),(2,[1]),(3,[1]),(4,[1,2]),(5,[1,2]),(6,[1,2]),(7,[1,2])] (by kernel_rfl) (by kernel_rfl) ?_
 (repeat' with_reducible first|intro _|refine rz ?_|refine ra ?_ ?_|omega|simp only [go_sem,w3,h3])
 refine ah.o k1 1 ?_
 (repeat' with_reducible first|intro _|exact dn|refine rn ?_|refine ra ?_ ?_)
 refine aV.auto 1 ?_ rfl ?_<;>simp only [go_sem,Int.natCast_succ,Post]
 all_goals simp only [go_sem]
end Go.Fv.H
/- Tokens of a text: what Split and its reference compute, in plain words. -/
namespace Go.Fv.H
open Go
abbrev Bytes:=List UInt8
end Go.Fv.H
/- Numbers in bits, in plain words. -/
namespace Go.Fv.H
open Go
def qA (n:Nat):UInt8:=if n%2=1 then 49 else 48
def iW (n:Nat):Bytes:=if h:n<2 then [qA n] else iW (n / 2)++[qA n]
termination_by n
decreasing_by omega
def dR (n:Nat):Bytes:=List.replicate ((iW n).length - 1) 48++iW n
def ig (l:Bytes):Nat:=l.foldl (fun a c=>2*a+(c.toNat - 48)) 0
def fK (c:UInt8):Bool:=decide (c=48∨c=49)
def RV (c:UInt8):Bool:=decide (c=48)
def aH (s:Bytes):Nat:=(s.takeWhile RV).length
def oq (s:Bytes):Option (Nat × Nat):=
 if aH s≤20∧2*aH s+1≤s.length∧((s.drop (aH s)).take (aH s+1)).all fK=true∧ig ((s.drop (aH s)).take (aH s+1))≤1048576 then
  some (ig ((s.drop (aH s)).take (aH s+1)),2*aH s+1) else none
theorem oD {n:Nat} (h:n<2):iW n=[qA n]:=by rw [iW,dif_pos h]
theorem qy {n:Nat} (h:¬n<2):iW n=iW (n / 2)++[qA n]:=by rw [iW,dif_neg h]
theorem Jq (n:Nat):(qA n).toNat - 48=n%2:=by
 unfold qA
 split
 ·rename_i h;rw [h];rfl
 ·have:n%2=0:=by omega
  rw [this];rfl
theorem Ou (n:Nat):fK (qA n)=true:=by unfold qA;split<;>decide
theorem FI (l:Bytes) (c:UInt8):ig (l++[c])=2*ig l+(c.toNat - 48):=by unfold ig;rw [List.foldl_append];rfl
theorem JU:∀ n:Nat,ig (iW n)=n
 | n=>by
  by_cases h:n<2
  ·rw [oD h]
   show 2*0+((qA n).toNat - 48)=n
   rw [Jq];omega
  ·rw [qy h,FI,Jq,JU (n / 2)];omega
termination_by n=>n
theorem MQ:∀ n:Nat,(iW n).all fK=true
 | n=>by
  by_cases h:n<2
  ·rw [oD h];simp [Ou]
  ·rw [qy h,List.all_append,MQ (n / 2)];simp [Ou]
termination_by n=>n
theorem J7:∀ n:Nat,1≤n→∃ l,iW n=49::l
 | n,h1=>by
  by_cases h:n<2
  ·have:n=1:=by omega
   subst this
   exact ⟨[],by rw [oD h];rfl⟩
  ·obtain ⟨l,hl⟩:=J7 (n / 2) (by omega)
   exact ⟨l++[qA n],by rw [qy h,hl];rfl⟩
termination_by n=>n
theorem uJ:∀ (k n:Nat),n<2 ^ (k+1)→(iW n).length≤k+1
 | 0,n,h=>by rw [oD (by simpa using h)];exact Nat.le_refl _
 | k+1,n,h=>by
  by_cases h2:n<2
  ·rw [oD h2];simp
  ·rw [qy h2,List.length_append]
   have:=uJ k (n / 2) (by rw [Nat.pow_succ] at h;omega)
   simp only [List.length_singleton];omega
theorem tZ (n:Nat):1≤(iW n).length:=by
 by_cases h:n<2
 ·rw [oD h];exact Nat.le_refl _
 ·rw [qy h,List.length_append];simp
theorem RI (m:Nat) (l:Bytes):aH (List.replicate m 48++49::l)=m:=by
 unfold aH
 induction m with
 | zero=>simp [List.takeWhile_cons,RV]
 | succ m ih=>rw [List.replicate_succ,List.cons_append,List.takeWhile_cons,if_pos (by decide),List.length_cons,ih]
theorem Bz (n:Nat):(dR n).length=2*(iW n).length - 1:=by
 have:=tZ n
 unfold dR
 rw [List.length_append,List.length_replicate];omega
theorem IU {n:Nat} (h1:1≤n) (h2:n≤1048576) (r:Bytes):oq (dR n++r)=some (n,(dR n).length):=by
 obtain ⟨l,hl⟩:=J7 n h1
 have hlen:=uJ 20 n (by rw [show (2:Nat) ^ (20+1)=2097152 from rfl];omega)
 have hp:=tZ n
 have e:dR n++r=List.replicate ((iW n).length - 1) 48++49::(l++r):=by
  unfold dR;rw [List.append_assoc,hl];rfl
 have hlead:aH (dR n++r)=(iW n).length - 1:=by rw [e];exact RI _ _
 have hb:((dR n++r).drop ((iW n).length - 1)).take ((iW n).length - 1+1)=iW n:=by
  unfold dR
  rw [List.append_assoc,List.drop_left' (by simp),Nat.sub_add_cancel hp,List.take_left]
 have hgl:=Bz n
 unfold oq
 rw [hlead,hb,MQ,JU,if_pos ⟨by omega,by rw [List.length_append,hgl];omega,rfl,h2⟩,hgl]
 congr 2
 omega
end Go.Fv.H
/- Bits packed in bytes, in plain words. -/
namespace Go.Fv.H
open Go
def bt (s:Bytes) (k:Nat):Nat:=if s.getD k 0=49 then 1 else 0
def pk (s:Bytes) (j:Nat):Nat:=bt s (8*j)*128+bt s (8*j+1)*64+bt s (8*j+2)*32+bt s (8*j+3)*16+bt s (8*j+4)*8+bt s (8*j+5)*4+bt s (8*j+6)*2+bt s (8*j+7)
def AL (n:Nat) (s:Bytes):Bytes:=(List.range n).map fun j=>UInt8.ofNat (pk s j)
def jr (s:Bytes):Bytes:=AL ((s.length+7) / 8) s
def gJ (d:Bytes):Bytes:=(List.range (8*d.length)).map fun i=>UInt8.ofNat (48+(d.getD (i / 8) 0).toNat / 2 ^ (7 - i%8)%2)
theorem bt_le (s:Bytes) (k:Nat):bt s k≤1:=by unfold bt;split<;>omega
theorem Jg (s:Bytes) (j:Nat):pk s j<256:=by
 have h0:=bt_le s (8*j)
 have h1:=bt_le s (8*j+1)
 have h2:=bt_le s (8*j+2)
 have h3:=bt_le s (8*j+3)
 have h4:=bt_le s (8*j+4)
 have h5:=bt_le s (8*j+5)
 have h6:=bt_le s (8*j+6)
 have h7:=bt_le s (8*j+7)
 unfold pk;omega
theorem WW {s:Bytes} {k:Nat} (h:s.getD k 0=49):bt s k=1:=if_pos h
theorem lK {s:Bytes} {i k:Nat} (h:k≠i):bt (s.take (i+1)) k=bt (s.take i) k:=by
 unfold bt
 have e:(s.take (i+1)).getD k 0=(s.take i).getD k 0:=by
  rw [List.getD_eq_getElem?_getD,List.getD_eq_getElem?_getD,List.getElem?_take,List.getElem?_take]
  by_cases h1:k<i
  ·rw [if_pos h1,if_pos (by omega)]
  ·rw [if_neg h1,if_neg (by omega)]
 rw [e]
theorem Tn (s:Bytes) (i:Nat):bt (s.take i) i=0:=by
 unfold bt
 have e:(s.take i).getD i 0=0:=by rw [List.getD_eq_getElem?_getD,List.getElem?_take,if_neg (by omega)];rfl
 rw [e];rfl
theorem TA {s:Bytes} {i:Nat} (hi:i<s.length):bt (s.take (i+1)) i=bt s i:=by
 unfold bt
 have e:(s.take (i+1)).getD i 0=s.getD i 0:=by rw [List.getD_eq_getElem?_getD,List.getElem?_take,if_pos (by omega),List.getD_eq_getElem?_getD]
 rw [e]
theorem U5 {s:Bytes} {i j:Nat} (h:j≠i / 8):pk (s.take (i+1)) j=pk (s.take i) j:=by
 unfold pk
 rw [lK (k:=8*j) (by omega),lK (k:=8*j+1) (by omega),lK (k:=8*j+2) (by omega),lK (k:=8*j+3) (by omega),lK (k:=8*j+4) (by omega),lK (k:=8*j+5) (by omega),lK (k:=8*j+6) (by omega),lK (k:=8*j+7) (by omega)]
theorem UO {s:Bytes} {i:Nat} (hi:i<s.length) (h:s.getD i 0≠49) (j:Nat):pk (s.take (i+1)) j=pk (s.take i) j:=by
 have key:∀ k,bt (s.take (i+1)) k=bt (s.take i) k:=fun k=>by
  by_cases hk:k=i
  ·subst hk;rw [Tn,TA hi];exact if_neg h
  ·exact lK hk
 unfold pk
 simp only [key]
theorem OU {s:Bytes} {i:Nat} (hi:i<s.length) (h49:s.getD i 0=49):pk (s.take (i+1)) (i / 8)=pk (s.take i) (i / 8)+2 ^ (7 - i%8)∧pk (s.take i) (i / 8)%2 ^ (8 - i%8)=0:=by
 obtain ⟨j,hj⟩:∃ j,i / 8=j:=⟨_,rfl⟩
 obtain ⟨t,ht⟩:∃ t,i%8=t:=⟨_,rfl⟩
 have e:i=8*j+t:=by omega
 rw [hj,ht]
 subst e
 have htl:t<8:=by omega
 clear hj ht
 have hz:∀ u,t≤u→bt (s.take (8*j+t)) (8*j+u)=0:=fun u hu=>by
  unfold bt
  have e:(s.take (8*j+t)).getD (8*j+u) 0=0:=by rw [List.getD_eq_getElem?_getD,List.getElem?_take,if_neg (by omega)];rfl
  rw [e];rfl
 have hz0:t=0→bt (s.take (8*j+t)) (8*j)=0:=fun h=>hz 0 (by omega)
 have hc:t=0∨t=1∨t=2∨t=3∨t=4∨t=5∨t=6∨t=7:=by omega
 have n1:=@lK s (8*j+t) (8*j)
 have n2:=@lK s (8*j+t) (8*j+1)
 have n3:=@lK s (8*j+t) (8*j+2)
 have n4:=@lK s (8*j+t) (8*j+3)
 have n5:=@lK s (8*j+t) (8*j+4)
 have n6:=@lK s (8*j+t) (8*j+5)
 have n7:=@lK s (8*j+t) (8*j+6)
 have n8:=@lK s (8*j+t) (8*j+7)
 have a0:=Tn s (8*j+t)
 have a1:=TA hi
 rw [WW h49] at a1
 have z1:=hz 1
 have z2:=hz 2
 have z3:=hz 3
 have z4:=hz 4
 have z5:=hz 5
 have z6:=hz 6
 have z7:=hz 7
 clear hz
 unfold pk
 rcases hc with rfl|rfl|rfl|rfl|rfl|rfl|rfl|rfl
 all_goals simp only [Nat.add_zero,Nat.reduceSub,Nat.reducePow] at *
 all_goals omega
theorem xu (n:Nat) (s:Bytes):(AL n s).length=n:=by unfold AL;simp
theorem Rl {n j:Nat} (s:Bytes) (h:j<n):((AL n s).getD j 0).toNat=pk s j:=by
 unfold AL
 rw [List.getD_eq_getElem?_getD,List.getElem?_map,List.getElem?_range h]
 have:=Jg s j
 simp
 omega
theorem TV {n:Nat} {s:Bytes} {i:Nat} (hi:i<s.length) (h:s.getD i 0≠49):AL n (s.take (i+1))=AL n (s.take i):=by
 unfold AL;simp only [UO hi h]
theorem TM {n:Nat} {s:Bytes} {i:Nat} (hi:i<s.length) (h:s.getD i 0=49):(aj (AL n (s.take i))).set (i / 8) ((pk (s.take i) (i / 8)+2 ^ (7 - i%8):Nat):Int)=aj (AL n (s.take (i+1))):=by
 unfold aj AL
 apply List.ext_getElem?
 intro j
 rw [List.getElem?_set]
 simp only [List.length_map,List.length_range,List.getElem?_map]
 by_cases hj:i / 8=j
 ·subst hj
  rw [if_pos rfl]
  by_cases hn:i / 8<n
  ·rw [if_pos hn,List.getElem?_range hn,←(OU hi h).1]
   have:=Jg (s.take (i+1)) (i / 8)
   simp
   omega
  ·rw [if_neg hn,List.getElem?_eq_none (by simp;omega)];rfl
 ·rw [if_neg hj]
  by_cases hn:j<n
  ·rw [List.getElem?_range hn]
   simp only [Option.map_some,U5 (s:=s) (i:=i) (j:=j) (fun e=>hj e.symm)]
  ·rw [List.getElem?_eq_none (by simp;omega)];rfl
end Go.Fv.H
/- Pixels by adaptive bits, in plain words. -/
namespace Go.Fv.H
open Go
def lM (W H:Nat) (P:List Bool) (x y:Int):Bool:=decide (0≤x∧x<W∧0≤y∧y<H) && P.getD (y*W+x).toNat false
def Qq:List (Int × Int):=[(-1,-2),(0,-2),(1,-2),(-2,-1),(-1,-1),(0,-1),(1,-1),(2,-1),(-2,0),(-1,0)]
def kF (b:Bool):Nat:=if b=true then 1 else 0
def jQ (W H:Nat) (P:List Bool) (x y:Int):Nat:=Qq.foldl (fun n d=>2*n+kF (lM W H P (x+d.1) (y+d.2))) 0
theorem O9 (b:Bool):kF b≤1:=by unfold kF;split<;>omega
theorem lu (W H:Nat) (P:List Bool) (x y:Int):jQ W H P x y<1024:=by
 have key:∀ (l:List (Int × Int)) (n k:Nat),n<2 ^ k→l.foldl (fun n d=>2*n+kF (lM W H P (x+d.1) (y+d.2))) n<2 ^ (k+l.length):=by
  intro l
  induction l with
  | nil=>intro n k h;exact h
  | cons d l ih=>
   intro n k h
   have:=O9 (lM W H P (x+d.1) (y+d.2))
   have h2:=ih (2*n+kF (lM W H P (x+d.1) (y+d.2))) (k+1) (by rw [Nat.pow_succ];omega)
   rw [List.foldl_cons,List.length_cons,Nat.add_comm l.length 1,←Nat.add_assoc];exact h2
 exact key Qq 0 0 (by decide)
theorem oP {W H:Nat} {P Q:List Bool} {x y:Nat} (hx:x<W) (h:P.take (y*W+x)=Q.take (y*W+x)) {d e:Int} (hd:e<0∨(e=0∧d<0)):lM W H P (x+d) (y+e)=lM W H Q (x+d) (y+e):=by
 unfold lM
 by_cases hc:0≤(x:Int)+d∧(x:Int)+d<W∧0≤(y:Int)+e∧(y:Int)+e<H
 ·rw [decide_eq_true hc,Bool.true_and,Bool.true_and]
  have hlt:(((y:Int)+e)*W+((x:Int)+d)).toNat<y*W+x:=by
   rcases hd with hd|⟨rfl,hd⟩
   ·have h1:((y:Int)+e)*W≤((y:Int) - 1)*W:=Int.mul_le_mul_of_nonneg_right (by omega) (by omega)
    have h2:((y:Int) - 1)*W=(y:Int)*W - W:=by rw [Int.sub_mul,Int.one_mul]
    have h3:((y*W:Nat):Int)=(y:Int)*W:=by simp
    have h4:0≤((y:Int)+e)*W:=Int.mul_nonneg (by omega) (by omega)
    omega
   ·have h3:((y*W:Nat):Int)=(y:Int)*W:=by simp
    rw [Int.add_zero]
    omega
  generalize (((y:Int)+e)*W+((x:Int)+d)).toNat=j at hlt
  have hj:(P.take (y*W+x))[j]?=(Q.take (y*W+x))[j]?:=by rw [h]
  rw [List.getElem?_take,List.getElem?_take,if_pos hlt,if_pos hlt] at hj
  rw [List.getD_eq_getElem?_getD,List.getD_eq_getElem?_getD,hj]
 ·rw [decide_eq_false hc,Bool.false_and,Bool.false_and]
theorem OV {W H:Nat} {P Q:List Bool} {x y:Nat} (hx:x<W) (h:P.take (y*W+x)=Q.take (y*W+x)):jQ W H P x y=jQ W H Q x y:=by
 unfold jQ Qq
 simp only [List.foldl_cons,List.foldl_nil]
 rw [oP hx h (by omega:(-2:Int)<0∨_),oP hx h (by omega:(-2:Int)<0∨_),oP hx h (by omega:(-2:Int)<0∨_),
  oP hx h (by omega:(-1:Int)<0∨_),oP hx h (by omega:(-1:Int)<0∨_),oP hx h (by omega:(-1:Int)<0∨_),oP hx h (by omega:(-1:Int)<0∨_),oP hx h (by omega:(-1:Int)<0∨_),
  oP hx h (by omega:(0:Int)<0∨_),oP hx h (by omega:(0:Int)<0∨_)]
def y9 (p:Nat) (k:Bool):Nat:=if k=true then p - p / 32 else p+(4096 - p) / 32
structure AE where
 big:Nat
 span:Nat
 sh:Nat
 tab:List Nat
def AE.init:AE:=⟨0,4294967295,0,List.replicate 1024 2048⟩
def AE.m (s:AE) (c:Nat):Nat:=s.span / 4096*s.tab.getD c 0
def AE.mid (s:AE) (c:Nat) (k:Bool):AE:=⟨if k=true then s.big+s.m c else s.big,if k=true then s.span - s.m c else s.m c,s.sh,s.tab.set c (y9 (s.tab.getD c 0) k)⟩
def AE.norm (s:AE):AE:=if s.span<16777216 then ⟨s.big*256,s.span*256,s.sh+1,s.tab⟩ else s
def AE.step (s:AE) (c:Nat) (k:Bool):AE:=(s.mid c k).norm
structure AE.Ok (s:AE):Prop where
 lo:16777216≤s.span
 hi:s.span≤4294967295
 len:s.tab.length=1024
 tab:∀ p,p∈s.tab→31≤p∧p≤4065
 top:s.big+s.span≤4294967296*256 ^ s.sh
theorem AE.Bl:AE.init.Ok:=⟨by decide,by decide,List.length_replicate,fun p hp=>by rw [List.eq_of_mem_replicate hp];omega,by decide⟩
theorem yQ {p:Nat} (h:31≤p∧p≤4065) (k:Bool):31≤y9 p k∧y9 p k≤4065:=by unfold y9;split<;>omega
theorem AE.G7 {s:AE} (h:s.Ok) {c:Nat} (hc:c<1024):31≤s.tab.getD c 0∧s.tab.getD c 0≤4065:=by
 have hl:c<s.tab.length:=by rw [h.len];exact hc
 rw [getD_lt hl]
 exact h.tab _ (List.getElem_mem hl)
theorem AE.MC {s:AE} (h:s.Ok) {c:Nat} (hc:c<1024):65536≤s.m c∧s.m c+65536≤s.span:=by
 obtain ⟨h1,h2⟩:=AE.G7 h hc
 have h3:=h.lo
 unfold AE.m
 have h4:4096≤s.span / 4096:=by omega
 have h5:s.span / 4096*31≤s.span / 4096*s.tab.getD c 0:=Nat.mul_le_mul_left _ h1
 have h6:s.span / 4096*s.tab.getD c 0≤s.span / 4096*4065:=Nat.mul_le_mul_left _ h2
 omega
theorem AE.qo {s:AE} (h:s.Ok) {c:Nat} (hc:c<1024) (k:Bool):(s.mid c k).tab.length=1024∧(∀ p,p∈(s.mid c k).tab→31≤p∧p≤4065)∧65536≤(s.mid c k).span∧(s.mid c k).span≤4294967295∧s.big≤(s.mid c k).big∧(s.mid c k).big+(s.mid c k).span≤s.big+s.span:=by
 obtain ⟨h1,h2⟩:=AE.MC h hc
 have h3:=h.hi
 refine ⟨by show (s.tab.set _ _).length=_;rw [List.length_set,h.len],fun p hp=>?_,?_⟩
 ·rcases List.mem_or_eq_of_mem_set hp with hp|rfl
  ·exact h.tab p hp
  ·exact yQ (AE.G7 h hc) k
 ·unfold AE.mid
  dsimp only
  cases k
  ·simp only [Bool.false_eq_true,if_false];omega
  ·simp only [if_true];omega
theorem AE.step_ok {s:AE} (h:s.Ok) {c:Nat} (hc:c<1024) (k:Bool):(s.step c k).Ok:=by
 obtain ⟨h1,h2,h3,h4,h5,h6⟩:=AE.qo h hc k
 have h7:=h.top
 have h8:(s.mid c k).sh=s.sh:=rfl
 unfold AE.step AE.norm
 split
 ·refine ⟨by dsimp only;omega,by dsimp only;omega,h1,h2,?_⟩
  show (s.mid c k).big*256+(s.mid c k).span*256≤4294967296*256 ^ ((s.mid c k).sh+1)
  rw [h8,Nat.pow_succ,←Nat.add_mul,←Nat.mul_assoc]
  exact Nat.mul_le_mul_right _ (by omega)
 ·exact ⟨by omega,h4,h1,h2,by rw [h8];omega⟩
def bg (W H:Nat) (P:List Bool):Nat→AE
 | 0=>AE.init
 | i+1=>(bg W H P i).step (jQ W H P ((i%W:Nat):Int) ((i / W:Nat):Int)) (P.getD i false)
theorem oC (W H:Nat) (P:List Bool):∀ i,(bg W H P i).Ok
 | 0=>AE.Bl
 | i+1=>AE.step_ok (oC W H P i) (lu _ _ _ _ _) _
theorem Oe {s:AE} (h:s.Ok) {c:Nat} (hc:c<1024) (k:Bool):∃ r,(s.step c k).sh=s.sh+r∧r≤1∧s.big*256 ^ r≤(s.step c k).big∧(s.step c k).big+(s.step c k).span≤(s.big+s.span)*256 ^ r:=by
 obtain ⟨h1,h2,h3,h4,h5,h6⟩:=AE.qo h hc k
 have h8:(s.mid c k).sh=s.sh:=rfl
 unfold AE.step AE.norm
 split
 ·refine ⟨1,by rw [h8],Nat.le_refl _,?_,?_⟩
  ·show s.big*256 ^ 1≤(s.mid c k).big*256
   omega
  ·show (s.mid c k).big*256+(s.mid c k).span*256≤(s.big+s.span)*256 ^ 1
   omega
 ·exact ⟨0,by rw [h8,Nat.add_zero],by omega,by omega,by omega⟩
theorem VB (W H:Nat) (P:List Bool) (i:Nat):∀ d,∃ r,(bg W H P (i+d)).sh=(bg W H P i).sh+r∧(bg W H P i).big*256 ^ r≤(bg W H P (i+d)).big∧(bg W H P (i+d)).big+(bg W H P (i+d)).span≤((bg W H P i).big+(bg W H P i).span)*256 ^ r
 | 0=>⟨0,rfl,by simp,by simp⟩
 | d+1=>by
  obtain ⟨r,h1,h2,h3⟩:=VB W H P i d
  obtain ⟨q,g1,_,g2,g3⟩:=Oe (oC W H P (i+d)) (lu W H P (((i+d)%W:Nat):Int) (((i+d) / W:Nat):Int)) (P.getD (i+d) false)
  have e:bg W H P (i+(d+1))=(bg W H P (i+d)).step (jQ W H P (((i+d)%W:Nat):Int) (((i+d) / W:Nat):Int)) (P.getD (i+d) false):=rfl
  rw [e]
  refine ⟨r+q,?_,?_,?_⟩
  ·rw [g1,h1,Nat.add_assoc]
  ·refine Nat.le_trans ?_ g2
   rw [Nat.pow_add,←Nat.mul_assoc]
   exact Nat.mul_le_mul_right _ h2
  ·refine Nat.le_trans g3 ?_
   rw [Nat.pow_add,←Nat.mul_assoc]
   exact Nat.mul_le_mul_right _ h3
def seen (W H:Nat) (P:List Bool) (n i:Nat):Nat:=(bg W H P n).big / 256 ^ ((bg W H P n).sh - (bg W H P i).sh)
theorem uG (W H:Nat) (P:List Bool) {n i:Nat} (h:i≤n):(bg W H P i).sh≤(bg W H P n).sh∧(bg W H P i).big≤seen W H P n i∧seen W H P n i<(bg W H P i).big+(bg W H P i).span:=by
 obtain ⟨r,h1,h2,h3⟩:=VB W H P i (n - i)
 rw [Nat.add_sub_cancel' h] at h1 h2 h3
 have h4:=(oC W H P n).lo
 unfold seen
 rw [h1,Nat.add_sub_cancel_left]
 have hp:0<256 ^ r:=Nat.pow_pos (by decide)
 exact ⟨by omega,(Nat.le_div_iff_mul_le hp).2 h2,(Nat.div_lt_iff_lt_mul hp).2 (by omega)⟩
end Go.Fv.H
/- Pixels by adaptive bits: what is coded is read. -/
namespace Go.Fv.H
open Go
def dX (k n:Nat):Bytes:=(List.range k).map fun i=>UInt8.ofNat (n / 256 ^ (k - 1 - i))
theorem aX (k n:Nat):(dX k n).length=k:=by simp [dX]
theorem NU {k n j:Nat} (h:j<k):((dX k n).getD j 0).toNat=n / 256 ^ (k - 1 - j)%256:=by
 unfold dX
 rw [List.getD_eq_getElem?_getD,List.getElem?_map,List.getElem?_range h]
 simp
theorem zy {l:Bytes} (j:Nat):(l.drop j).headD 0=l.getD j 0:=by
 rw [List.headD_eq_head?_getD,List.head?_drop,List.getD_eq_getElem?_getD]
def fH (d:Bytes):Nat:=(d.headD 0).toNat
theorem iT (d:Bytes):fH d<256:=(d.headD 0).toNat_lt
structure AD where
 code:Nat
 span:Nat
 tab:List Nat
 data:Bytes
 P:List Bool
def four (d:Bytes):Nat:=((fH d*256+fH (d.drop 1))*256+fH (d.drop 2))*256+fH (d.drop 3)
def AD.init (d:Bytes) (n:Nat):AD:=⟨four d,4294967295,List.replicate 1024 2048,d.drop 4,List.replicate n false⟩
def AD.c (W H:Nat) (s:AD) (i:Nat):Nat:=jQ W H s.P ((i%W:Nat):Int) ((i / W:Nat):Int)
def AD.m (s:AD) (c:Nat):Nat:=s.span / 4096*s.tab.getD c 0
def AD.k (s:AD) (c:Nat):Bool:=decide (s.m c≤s.code)
def AD.mid (s:AD) (c i:Nat):AD:=⟨if s.k c=true then s.code - s.m c else s.code,if s.k c=true then s.span - s.m c else s.m c,s.tab.set c (y9 (s.tab.getD c 0) (s.k c)),s.data,s.P.set i (s.k c)⟩
def AD.norm (s:AD):AD:=if s.span<16777216 then ⟨s.code*256%4294967296+fH s.data,s.span*256,s.tab,s.data.drop 1,s.P⟩ else s
def AD.step (W H:Nat) (s:AD) (i:Nat):AD:=(s.mid (s.c W H i) i).norm
def dA (W H:Nat) (d:Bytes) (n:Nat):Nat→AD
 | 0=>AD.init d n
 | i+1=>(dA W H d n i).step W H i
structure AD.Ok (s:AD) (n:Nat):Prop where
 lo:16777216≤s.span
 hi:s.span≤4294967295
 len:s.tab.length=1024
 tab:∀ p,p∈s.tab→31≤p∧p≤4065
 code:s.code≤4294967295
 P:s.P.length=n
theorem Ve (d:Bytes):four d≤4294967295:=by
 have h0:=iT d
 have h1:=iT (d.drop 1)
 have h2:=iT (d.drop 2)
 have h3:=iT (d.drop 3)
 unfold four;omega
theorem AD.Bl (d:Bytes) (n:Nat):(AD.init d n).Ok n:=⟨by show _≤4294967295;omega,Nat.le_refl _,List.length_replicate,fun p hp=>by rw [List.eq_of_mem_replicate hp];omega,Ve d,List.length_replicate⟩
theorem AD.MC {s:AD} {n:Nat} (h:s.Ok n) {c:Nat} (hc:c<1024):(31≤s.tab.getD c 0∧s.tab.getD c 0≤4065)∧65536≤s.m c∧s.m c+65536≤s.span:=by
 have hl:c<s.tab.length:=by rw [h.len];exact hc
 have h0:=h.tab _ (List.getElem_mem hl)
 rw [←getD_lt (d:=0) hl] at h0
 obtain ⟨h1,h2⟩:=h0
 have h3:=h.lo
 unfold AD.m
 have h4:4096≤s.span / 4096:=by omega
 have h5:s.span / 4096*31≤s.span / 4096*s.tab.getD c 0:=Nat.mul_le_mul_left _ h1
 have h6:s.span / 4096*s.tab.getD c 0≤s.span / 4096*4065:=Nat.mul_le_mul_left _ h2
 omega
theorem AD.qo {s:AD} {n:Nat} (h:s.Ok n) {c:Nat} (hc:c<1024) (i:Nat):65536≤(s.mid c i).span∧(s.mid c i).span≤4294967295∧(s.mid c i).code≤4294967295∧(s.mid c i).tab.length=1024∧(∀ p,p∈(s.mid c i).tab→31≤p∧p≤4065)∧(s.mid c i).P.length=n:=by
 obtain ⟨h0,h1,h2⟩:=AD.MC h hc
 have h3:=h.hi
 have h4:=h.code
 refine ⟨?_,?_,?_,by show (s.tab.set _ _).length=_;rw [List.length_set,h.len],fun p hp=>?_,by show (s.P.set _ _).length=_;rw [List.length_set,h.P]⟩
 ·unfold AD.mid;dsimp only;split<;>omega
 ·unfold AD.mid;dsimp only;split<;>omega
 ·unfold AD.mid;dsimp only;split<;>omega
 ·rcases List.mem_or_eq_of_mem_set hp with hp|rfl
  ·exact h.tab p hp
  ·exact yQ h0 _
theorem AD.Ba {s:AD} {n:Nat} (h:65536≤s.span∧s.span≤4294967295∧s.code≤4294967295∧s.tab.length=1024∧(∀ p,p∈s.tab→31≤p∧p≤4065)∧s.P.length=n):s.norm.Ok n:=by
 obtain ⟨h1,h2,h3,h4,h5,h6⟩:=h
 have:=iT s.data
 unfold AD.norm
 split
 ·exact ⟨by dsimp only;omega,by dsimp only;omega,h4,h5,by dsimp only;omega,h6⟩
 ·exact ⟨by omega,h2,h4,h5,h3,h6⟩
theorem yt (W H:Nat) (d:Bytes) (n:Nat):∀ i,(dA W H d n i).Ok n
 | 0=>AD.Bl d n
 | i+1=>AD.Ba (AD.qo (yt W H d n i) (lu _ _ _ _ _) i)
def rE (W H:Nat) (P:List Bool):Bytes:=dX (4+(bg W H P P.length).sh) (bg W H P P.length).big
theorem QJ (W H:Nat) (P:List Bool):four (rE W H P)=seen W H P P.length 0:=by
 obtain ⟨h1,h2,h3⟩:=uG W H P (Nat.zero_le P.length)
 unfold rE seen at *
 have e0:(bg W H P 0).sh=0:=rfl
 have e1:(bg W H P 0).big=0:=rfl
 have e2:(bg W H P 0).span=4294967295:=rfl
 simp only [e0,e1,e2,Nat.sub_zero,Nat.zero_add] at h2 h3 ⊢
 clear e0 e1 e2 h1
 generalize (bg W H P P.length).sh=k at *
 generalize (bg W H P P.length).big=N at *
 have key:∀ j,j<4→fH ((dX (4+k) N).drop j)=N / 256 ^ k / 256 ^ (3 - j)%256:=fun j hj=>by
  unfold fH
  rw [zy,NU (by omega),Nat.div_div_eq_div_mul,←Nat.pow_add]
  congr 3
  omega
 have k0:=key 0 (by omega)
 have k1:=key 1 (by omega)
 have k2:=key 2 (by omega)
 have k3:=key 3 (by omega)
 rw [List.drop_zero] at k0
 unfold four
 rw [k0,k1,k2,k3]
 generalize N / 256 ^ k=q at *
 clear key k0 k1 k2 k3
 simp only [Nat.sub_zero,Nat.reduceSub,Nat.reducePow,Nat.pow_zero,Nat.div_one]
 omega
theorem Fz (W H:Nat) (P:List Bool) {i:Nat} (hi:i<P.length) (hsh:(bg W H P (i+1)).sh=(bg W H P i).sh+1) :
  seen W H P P.length (i+1)=seen W H P P.length i*256+fH ((rE W H P).drop (4+(bg W H P i).sh)):=by
 have h1:=(uG W H P (show i+1≤P.length from hi)).1
 rw [hsh] at h1
 unfold rE seen fH
 rw [zy,NU (by omega),hsh]
 generalize (bg W H P P.length).sh=k at *
 generalize (bg W H P P.length).big=N at *
 generalize (bg W H P i).sh=j at *
 have e1:4+k - 1 - (4+j)=k - (j+1):=by omega
 have e2:k - j=(k - (j+1))+1:=by omega
 rw [e1,e2,Nat.pow_succ,←Nat.div_div_eq_div_mul]
 generalize N / 256 ^ (k - (j+1))=q
 omega
theorem FN (W H:Nat) (P:List Bool) {i:Nat} (hsh:(bg W H P (i+1)).sh=(bg W H P i).sh):seen W H P P.length (i+1)=seen W H P P.length i:=by
 unfold seen;rw [hsh]
theorem wX (W H:Nat) (P:List Bool) {i:Nat} (hi:i<P.length) (c:Nat) (hc:c=jQ W H P ((i%W:Nat):Int) ((i / W:Nat):Int)) :
  ((bg W H P i).mid c (P.getD i false)).big≤seen W H P P.length i∧seen W H P P.length i<((bg W H P i).mid c (P.getD i false)).big+((bg W H P i).mid c (P.getD i false)).span:=by
 obtain ⟨_,h2,h3⟩:=uG W H P (show i+1≤P.length from hi)
 have e:bg W H P (i+1)=((bg W H P i).mid c (P.getD i false)).norm:=by rw [hc];rfl
 have e8:((bg W H P i).mid c (P.getD i false)).sh=(bg W H P i).sh:=rfl
 by_cases hs:((bg W H P i).mid c (P.getD i false)).span<16777216
 ·have e2:bg W H P (i+1)=⟨((bg W H P i).mid c (P.getD i false)).big*256,((bg W H P i).mid c (P.getD i false)).span*256,(bg W H P i).sh+1,((bg W H P i).mid c (P.getD i false)).tab⟩:=by
   rw [e];unfold AE.norm;rw [if_pos hs,e8]
  have hn:=Fz W H P hi (by rw [e2])
  have hb:=iT ((rE W H P).drop (4+(bg W H P i).sh))
  rw [hn] at h2 h3
  rw [e2] at h2 h3
  dsimp only at h2 h3
  omega
 ·have e2:bg W H P (i+1)=(bg W H P i).mid c (P.getD i false):=by rw [e];unfold AE.norm;rw [if_neg hs]
  have hn:=FN W H P (i:=i) (by rw [e2];rfl)
  rw [hn,e2] at h2 h3
  exact ⟨h2,h3⟩
theorem KU {P:List Bool} {i n:Nat} (hi:i<P.length) (hn:P.length=n):(P.take i++List.replicate (n - i) false).set i (P.getD i false)=P.take (i+1)++List.replicate (n - (i+1)) false:=by
 have hl:(P.take i).length=i:=by rw [List.length_take];omega
 have e:n - i=(n - (i+1))+1:=by omega
 rw [List.set_append_right _ _ (by omega),hl,Nat.sub_self,e,List.replicate_succ,List.set_cons_zero,List.take_succ_eq_append_getElem hi,getD_lt hi,List.append_assoc]
 rfl
theorem uV (W H:Nat) (P:List Bool) (hW:0<W):∀ i,i≤P.length →
  dA W H (rE W H P) P.length i=⟨seen W H P P.length i - (bg W H P i).big,(bg W H P i).span,(bg W H P i).tab,(rE W H P).drop (4+(bg W H P i).sh),P.take i++List.replicate (P.length - i) false⟩
 | 0,_=>by
  show AD.init _ _=_
  unfold AD.init
  rw [QJ]
  rfl
 | i+1,hi=>by
  have ih:=uV W H P hW i (by omega)
  obtain ⟨s1,s2,s3⟩:=uG W H P (show i≤P.length by omega)
  have hok:=oC W H P i
  have hc:jQ W H (P.take i++List.replicate (P.length - i) false) ((i%W:Nat):Int) ((i / W:Nat):Int)=jQ W H P ((i%W:Nat):Int) ((i / W:Nat):Int):=by
   refine OV (Nat.mod_lt _ hW) ?_
   have e:i / W*W+i%W=i:=by rw [Nat.mul_comm];exact Nat.div_add_mod i W
   rw [e,List.take_left' (by rw [List.length_take];omega)]
  have hcl:=lu W H P ((i%W:Nat):Int) ((i / W:Nat):Int)
  obtain ⟨m1,m2⟩:=wX W H P (show i<P.length from hi) _ rfl
  have hmid:=AE.qo hok hcl (P.getD i false)
  have e:bg W H P (i+1)=((bg W H P i).mid (jQ W H P ((i%W:Nat):Int) ((i / W:Nat):Int)) (P.getD i false)).norm:=rfl
  have hset:=KU (show i<P.length from hi) rfl
  have hsn:=fun h=>Fz W H P (show i<P.length from hi) h
  have hss:=fun h=>FN W H P (i:=i) h
  show ((dA W H (rE W H P) P.length i).mid _ i).norm=_
  unfold AD.c
  rw [ih]
  dsimp only
  rw [hc]
  generalize jQ W H P ((i%W:Nat):Int) ((i / W:Nat):Int)=c at *
  generalize bg W H P (i+1)=t at *
  generalize bg W H P i=s at *
  generalize seen W H P P.length i=q at *
  generalize seen W H P P.length (i+1)=q' at *
  generalize rE W H P=d at *
  generalize P.getD i false=k at *
  have em:(⟨q - s.big,s.span,s.tab,d.drop (4+s.sh),P.take i++List.replicate (P.length - i) false⟩:AD).m c=s.m c:=rfl
  have ek:(⟨q - s.big,s.span,s.tab,d.drop (4+s.sh),P.take i++List.replicate (P.length - i) false⟩:AD).k c=k:=by
   unfold AD.k
   rw [em]
   dsimp only
   unfold AE.mid at m1 m2
   dsimp only at m1 m2
   cases k
   ·simp only [Bool.false_eq_true,if_false] at m1 m2
    rw [decide_eq_false (by omega)]
   ·simp only [if_true] at m1 m2
    have:=hok.lo
    rw [decide_eq_true (by omega)]
  have e1:(⟨q - s.big,s.span,s.tab,d.drop (4+s.sh),P.take i++List.replicate (P.length - i) false⟩:AD).mid c i=⟨q - (s.mid c k).big,(s.mid c k).span,(s.mid c k).tab,d.drop (4+s.sh),P.take (i+1)++List.replicate (P.length - (i+1)) false⟩:=by
   unfold AD.mid
   rw [ek,em]
   dsimp only
   rw [hset]
   unfold AE.mid at m1 m2 ⊢
   dsimp only at m1 m2 ⊢
   cases k
   ·simp only [Bool.false_eq_true,if_false]
   ·simp only [if_true] at m1 ⊢
    congr 1
    omega
  rw [e1]
  have e8:(s.mid c k).sh=s.sh:=rfl
  unfold AE.norm at e
  unfold AD.norm
  dsimp only
  by_cases hs:(s.mid c k).span<16777216
  ·rw [if_pos hs] at e ⊢
   have:=hsn (by rw [e];rfl)
   rw [e]
   dsimp only
   rw [List.drop_drop,e8]
   have hb:=iT (d.drop (4+s.sh))
   congr 1
   rw [this,Nat.mod_eq_of_lt (by omega)]
   omega
  ·rw [if_neg hs] at e ⊢
   have:=hss (by rw [e];rfl)
   rw [e,this,e8]
theorem Lj (W H:Nat) (P:List Bool) (hW:0<W):(dA W H (rE W H P) P.length P.length).P=P:=by
 rw [uV W H P hW P.length (Nat.le_refl _)]
 simp
end Go.Fv.H
