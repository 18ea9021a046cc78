/-
  A part of the proof of the claim: walks over the program's functions and the plain laws that these need. No condition of its own.
-/
import Derived.Test.YtfhmmlobedilnaaGreatDoorFvPart11
import Derived.Test.YtfhmmlobedilnaaGreatDoorProg
import Derived.Test.YtfhmmlobedilnaaGreatDoorFvPart10
import Derived.Tactics
import Derived.Tactics2
import Derived.Defers
import Derived.Laws.Pointers
import Derived.Laws.LoneSync
import Derived.RegionTactic
import Derived.RegionCalls
import Derived.ChangeAlike
import Derived.WalkKit
import Derived.Test.YtfhmmlobedilnaaGreatDoorFvPart12
set_option linter.unusedSimpArgs false
set_option linter.unusedVariables false
set_option linter.unnecessarySimpa false
set_option maxRecDepth 8000
/- Facts about the program's types: each shown by reckoning it out. -/
namespace Go.Fv.E
open Go Go.Proofs
theorem e1:aO Tryz.prog 1 (.nilFunc):=.of (by kernel_rfl) (by kernel_rfl)
theorem z1:zeroOf Tryz.prog 1=some (.nilFunc):=e1.zero
theorem c1:Tryz.prog.cellsOf 1=1:=e1.cellsOf
theorem e2:aO Tryz.prog 2 (.int .i64 0):=.of (by kernel_rfl) (by kernel_rfl)
theorem z2:zeroOf Tryz.prog 2=some (.int .i64 0):=e2.zero
theorem c2:Tryz.prog.cellsOf 2=1:=e2.cellsOf
theorem e3:aO Tryz.prog 3 (.int .i64 0):=.of (by kernel_rfl) (by kernel_rfl)
theorem z3:zeroOf Tryz.prog 3=some (.int .i64 0):=e3.zero
theorem c3:Tryz.prog.cellsOf 3=1:=e3.cellsOf
theorem e4:aO Tryz.prog 4 (.bool false):=.of (by kernel_rfl) (by kernel_rfl)
theorem z4:zeroOf Tryz.prog 4=some (.bool false):=e4.zero
theorem c4:Tryz.prog.cellsOf 4=1:=e4.cellsOf
theorem e5:aO Tryz.prog 5 (.int .u8 0):=.of (by kernel_rfl) (by kernel_rfl)
theorem z5:zeroOf Tryz.prog 5=some (.int .u8 0):=e5.zero
theorem c5:Tryz.prog.cellsOf 5=1:=e5.cellsOf
theorem e6:aO Tryz.prog 6 (.int .u8 0):=.of (by kernel_rfl) (by kernel_rfl)
theorem e9:aO Tryz.prog 9 (.string ⟨#[]⟩):=.of (by kernel_rfl) (by kernel_rfl)
theorem z9:zeroOf Tryz.prog 9=some (.string ⟨#[]⟩):=e9.zero
theorem c9:Tryz.prog.cellsOf 9=1:=e9.cellsOf
theorem e12:aO Tryz.prog 12 (.int .u64 0):=.of (by kernel_rfl) (by kernel_rfl)
theorem e17:aO Tryz.prog 17 (.pointer none):=.of (by kernel_rfl) (by kernel_rfl)
theorem e20:aO Tryz.prog 20 (.nilIface):=.of (by kernel_rfl) (by kernel_rfl)
theorem z20:zeroOf Tryz.prog 20=some (.nilIface):=e20.zero
theorem c20:Tryz.prog.cellsOf 20=1:=e20.cellsOf
theorem e21:aO Tryz.prog 21 (.int .i32 0):=.of (by kernel_rfl) (by kernel_rfl)
theorem z21:zeroOf Tryz.prog 21=some (.int .i32 0):=e21.zero
theorem c21:Tryz.prog.cellsOf 21=1:=e21.cellsOf
theorem e22:aO Tryz.prog 22 (.slice none 0 0):=.of (by kernel_rfl) (by kernel_rfl)
theorem z22:zeroOf Tryz.prog 22=some (.slice none 0 0):=e22.zero
theorem O4:Tryz.prog.cellsOf 22=1:=e22.cellsOf
theorem e35:aO Tryz.prog 35 (.agg #[.string ⟨#[]⟩,.string ⟨#[]⟩,.int .i64 0]):=.of (by kernel_rfl) (by kernel_rfl)
theorem z35:zeroOf Tryz.prog 35=some (.agg #[.string ⟨#[]⟩,.string ⟨#[]⟩,.int .i64 0]):=e35.zero
theorem OH:Tryz.prog.cellsOf 35=3:=e35.cellsOf
theorem e37:aO Tryz.prog 37 (.nilFunc):=.of (by kernel_rfl) (by kernel_rfl)
theorem z37:zeroOf Tryz.prog 37=some (.nilFunc):=e37.zero
theorem c37:Tryz.prog.cellsOf 37=1:=e37.cellsOf
theorem e41:aO Tryz.prog 41 (.slice none 0 0):=.of (by kernel_rfl) (by kernel_rfl)
theorem O5:Tryz.prog.cellsOf 41=1:=e41.cellsOf
theorem e43:aO Tryz.prog 43 (.agg #[.pointer none,.slice none 0 0]):=.of (by kernel_rfl) (by kernel_rfl)
theorem z43:zeroOf Tryz.prog 43=some (.agg #[.pointer none,.slice none 0 0]):=e43.zero
theorem e53:aO Tryz.prog 53 (.slice none 0 0):=.of (by kernel_rfl) (by kernel_rfl)
theorem z53:zeroOf Tryz.prog 53=some (.slice none 0 0):=e53.zero
theorem c53:Tryz.prog.cellsOf 53=1:=e53.cellsOf
theorem e59:aO Tryz.prog 59 (.agg #[.string ⟨#[]⟩,.string ⟨#[]⟩]):=.of (by kernel_rfl) (by kernel_rfl)
theorem z59:zeroOf Tryz.prog 59=some (.agg #[.string ⟨#[]⟩,.string ⟨#[]⟩]):=e59.zero
theorem c59:Tryz.prog.cellsOf 59=2:=e59.cellsOf
theorem e63:aO Tryz.prog 63 (.int .u32 0):=.of (by kernel_rfl) (by kernel_rfl)
theorem Pm:aO Tryz.prog 70 (.agg #[.int .u32 0,.int .i32 0,.int .u32 0]):=.of (by kernel_rfl) (by kernel_rfl)
theorem z70:zeroOf Tryz.prog 70=some (.agg #[.int .u32 0,.int .i32 0,.int .u32 0]):=Pm.zero
theorem OI:aO Tryz.prog 71 (.agg #[.int .u32 0,.int .i32 0,.int .u32 0]):=.of (by kernel_rfl) (by kernel_rfl)
theorem O6:Tryz.prog.cellsOf 71=3:=OI.cellsOf
theorem Pn:aO Tryz.prog 72 (.nilIface):=.of (by kernel_rfl) (by kernel_rfl)
theorem z72:zeroOf Tryz.prog 72=some (.nilIface):=Pn.zero
theorem OJ:aO Tryz.prog 73 (.nilIface):=.of (by kernel_rfl) (by kernel_rfl)
theorem O7:Tryz.prog.cellsOf 73=1:=OJ.cellsOf
theorem OL:aO Tryz.prog 75 (.agg #[.int .u32 0,.int .i32 0,.int .u32 0,.nilIface,.slice none 0 0]):=.of (by kernel_rfl) (by kernel_rfl)
theorem z75:zeroOf Tryz.prog 75=some (.agg #[.int .u32 0,.int .i32 0,.int .u32 0,.nilIface,.slice none 0 0]):=OL.zero
theorem c75:Tryz.prog.cellsOf 75=5:=OL.cellsOf
theorem OM:aO Tryz.prog 76 (.nilFunc):=.of (by kernel_rfl) (by kernel_rfl)
theorem z76:zeroOf Tryz.prog 76=some (.nilFunc):=OM.zero
theorem c76:Tryz.prog.cellsOf 76=1:=OM.cellsOf
theorem OO:aO Tryz.prog 80 (.nilFunc):=.of (by kernel_rfl) (by kernel_rfl)
theorem z80:zeroOf Tryz.prog 80=some (.nilFunc):=OO.zero
theorem c80:Tryz.prog.cellsOf 80=1:=OO.cellsOf
theorem OQ:aO Tryz.prog 85 (.nilFunc):=.of (by kernel_rfl) (by kernel_rfl)
theorem z85:zeroOf Tryz.prog 85=some (.nilFunc):=OQ.zero
theorem c85:Tryz.prog.cellsOf 85=1:=OQ.cellsOf
theorem Ob:aO Tryz.prog 121 (.int .u64 0):=.of (by kernel_rfl) (by kernel_rfl)
theorem e127:aO Tryz.prog 127 (.int .u64 0):=.of (by kernel_rfl) (by kernel_rfl)
theorem z127:zeroOf Tryz.prog 127=some (.int .u64 0):=e127.zero
theorem c127:Tryz.prog.cellsOf 127=1:=e127.cellsOf
theorem e143:aO Tryz.prog 143 (.slice none 0 0):=.of (by kernel_rfl) (by kernel_rfl)
theorem z143:zeroOf Tryz.prog 143=some (.slice none 0 0):=e143.zero
theorem c143:Tryz.prog.cellsOf 143=1:=e143.cellsOf
theorem Nv:aO Tryz.prog 145 (.agg #[.string ⟨#[]⟩,.int .i64 0,.string ⟨#[]⟩,.pointer none,.slice none 0 0]):=.of (by kernel_rfl) (by kernel_rfl)
theorem z145:zeroOf Tryz.prog 145=some (.agg #[.string ⟨#[]⟩,.int .i64 0,.string ⟨#[]⟩,.pointer none,.slice none 0 0]):=Nv.zero
theorem c145:Tryz.prog.cellsOf 145=5:=Nv.cellsOf
theorem Oc:aO Tryz.prog 159 (.agg #[.string ⟨#[]⟩]):=.of (by kernel_rfl) (by kernel_rfl)
theorem c159:Tryz.prog.cellsOf 159=1:=Oc.cellsOf
theorem e167:aO Tryz.prog 167 (.nilFunc):=.of (by kernel_rfl) (by kernel_rfl)
theorem z167:zeroOf Tryz.prog 167=some (.nilFunc):=e167.zero
theorem c167:Tryz.prog.cellsOf 167=1:=e167.cellsOf
theorem e168:aO Tryz.prog 168 (.nilFunc):=.of (by kernel_rfl) (by kernel_rfl)
theorem z168:zeroOf Tryz.prog 168=some (.nilFunc):=e168.zero
theorem c168:Tryz.prog.cellsOf 168=1:=e168.cellsOf
theorem Nw:aO Tryz.prog 175 (.nilFunc):=.of (by kernel_rfl) (by kernel_rfl)
theorem z175:zeroOf Tryz.prog 175=some (.nilFunc):=Nw.zero
theorem c175:Tryz.prog.cellsOf 175=1:=Nw.cellsOf
theorem f7:bP Tryz.prog 7:=by
 intro d hd;rw [Tryz.underlying7] at hd;cases hd
 intro f hf;simp only [List.mem_cons,List.not_mem_nil,or_false] at hf
 rcases hf with rfl|rfl|rfl|rfl
 ·obtain ⟨i,h,_⟩:=e2.ex;exact ⟨i,h⟩
 ·obtain ⟨i,h,_⟩:=e3.ex;exact ⟨i,h⟩
 ·obtain ⟨i,h,_⟩:=e4.ex;exact ⟨i,h⟩
 ·obtain ⟨i,h,_⟩:=e6.ex;exact ⟨i,h⟩
theorem f8:bP Tryz.prog 8:=by
 intro d hd;rw [Tryz.underlying8] at hd;cases hd
 intro f hf;simp only [List.mem_cons,List.not_mem_nil,or_false] at hf
 rcases hf with rfl|rfl|rfl|rfl
 ·obtain ⟨i,h,_⟩:=e2.ex;exact ⟨i,h⟩
 ·obtain ⟨i,h,_⟩:=e3.ex;exact ⟨i,h⟩
 ·obtain ⟨i,h,_⟩:=e4.ex;exact ⟨i,h⟩
 ·obtain ⟨i,h,_⟩:=e6.ex;exact ⟨i,h⟩
theorem f13:bP Tryz.prog 13:=by
 intro d hd;rw [Tryz.underlying13] at hd;cases hd
 intro f hf;simp only [List.mem_cons,List.not_mem_nil,or_false] at hf
 rcases hf with rfl|rfl
 ·obtain ⟨i,h,_⟩:=e9.ex;exact ⟨i,h⟩
 ·obtain ⟨i,h,_⟩:=e12.ex;exact ⟨i,h⟩
theorem f14:bP Tryz.prog 14:=by
 intro d hd;rw [Tryz.underlying14] at hd;cases hd
 intro f hf;simp only [List.mem_cons,List.not_mem_nil,or_false] at hf
 rcases hf with rfl|rfl
 ·obtain ⟨i,h,_⟩:=e9.ex;exact ⟨i,h⟩
 ·obtain ⟨i,h,_⟩:=e12.ex;exact ⟨i,h⟩
theorem f19:bP Tryz.prog 19:=by
 intro d hd;rw [Tryz.underlying19] at hd;cases hd
 intro f hf;simp only [List.mem_cons,List.not_mem_nil,or_false] at hf
 rcases hf with rfl
 ·obtain ⟨i,h,_⟩:=e17.ex;exact ⟨i,h⟩
theorem f35:bP Tryz.prog 35:=by
 intro d hd;rw [Tryz.underlying35] at hd;cases hd
 intro f hf;simp only [List.mem_cons,List.not_mem_nil,or_false] at hf
 rcases hf with rfl|rfl|rfl
 ·obtain ⟨i,h,_⟩:=e9.ex;exact ⟨i,h⟩
 ·obtain ⟨i,h,_⟩:=e9.ex;exact ⟨i,h⟩
 ·obtain ⟨i,h,_⟩:=e3.ex;exact ⟨i,h⟩
theorem f59:bP Tryz.prog 59:=by
 intro d hd;rw [Tryz.underlying59] at hd;cases hd
 obtain ⟨i,h,_⟩:=e9.ex;exact ⟨i,h⟩
theorem f66:bP Tryz.prog 66:=by
 intro d hd;rw [Tryz.underlying66] at hd;cases hd
 intro f hf;simp only [List.mem_cons,List.not_mem_nil,or_false] at hf
 rcases hf with rfl|rfl
 ·obtain ⟨i,h,_⟩:=e21.ex;exact ⟨i,h⟩
 ·obtain ⟨i,h,_⟩:=e63.ex;exact ⟨i,h⟩
theorem f75:bP Tryz.prog 75:=by
 intro d hd;rw [Tryz.underlying75] at hd;cases hd
 intro f hf;simp only [List.mem_cons,List.not_mem_nil,or_false] at hf
 rcases hf with rfl|rfl|rfl
 ·obtain ⟨i,h,_⟩:=OI.ex;exact ⟨i,h⟩
 ·obtain ⟨i,h,_⟩:=OJ.ex;exact ⟨i,h⟩
 ·obtain ⟨i,h,_⟩:=e53.ex;exact ⟨i,h⟩
theorem f150:bP Tryz.prog 150:=by
 intro d hd;rw [Tryz.underlying150] at hd;cases hd
 obtain ⟨i,h,_⟩:=Ob.ex;exact ⟨i,h⟩
theorem q35:Nr Tryz.prog 35 [.s,.s,.i .i64]:=⟨by kernel_rfl,by kernel_rfl⟩
theorem NG:(Nr Tryz.prog 35 [.s,.s,.i .i64])=True:=eq_true q35
theorem k1 {K:Prop}:aN (aO Tryz.prog 1 (.nilFunc)) K=K:=uG e1
theorem k2 {K:Prop}:aN (aO Tryz.prog 2 (.int .i64 0)) K=K:=uG e2
theorem k3 {K:Prop}:aN (aO Tryz.prog 3 (.int .i64 0)) K=K:=uG e3
theorem k4 {K:Prop}:aN (aO Tryz.prog 4 (.bool false)) K=K:=uG e4
theorem Pq:(aO Tryz.prog 4 (.bool false))=True:=eq_true e4
theorem k5 {K:Prop}:aN (aO Tryz.prog 5 (.int .u8 0)) K=K:=uG e5
theorem Pv:(aO Tryz.prog 5 (.int .u8 0))=True:=eq_true e5
theorem Px:(aO Tryz.prog 9 (.string ⟨#[]⟩))=True:=eq_true e9
theorem Oj:(aO Tryz.prog 22 (.slice none 0 0))=True:=eq_true e22
theorem Ol:(aO Tryz.prog 35 (.agg #[.string ⟨#[]⟩,.string ⟨#[]⟩,.int .i64 0]))=True:=eq_true e35
theorem Om:(bP Tryz.prog 35)=True:=eq_true f35
theorem Oo:(bP Tryz.prog 59)=True:=eq_true f59
theorem Oq:(bP Tryz.prog 75)=True:=eq_true f75
attribute [go_sem] NG Tryz.underlying0 Tryz.underlying1 Tryz.underlying2 Tryz.underlying3 Tryz.underlying4 Tryz.underlying5 Tryz.underlying6 Tryz.underlying7 Tryz.underlying8 Tryz.underlying9
attribute [go_sem] Tryz.underlying10 Tryz.underlying11 Tryz.underlying12 Tryz.underlying13 Tryz.underlying14 Tryz.underlying15 Tryz.underlying16 Tryz.underlying17 Tryz.underlying18 Tryz.underlying19 Tryz.underlying20 Tryz.underlying21
attribute [go_sem] Tryz.underlying22 Tryz.underlying23 Tryz.underlying24 Tryz.underlying25 Tryz.underlying26 Tryz.underlying27 Tryz.underlying28 Tryz.underlying29 Tryz.underlying30 Tryz.underlying31 Tryz.underlying32 Tryz.underlying33
attribute [go_sem] Tryz.underlying34 Tryz.underlying35 Tryz.underlying36 Tryz.underlying37 Tryz.underlying38 Tryz.underlying39 Tryz.underlying40 Tryz.underlying41 Tryz.underlying42 Tryz.underlying43 Tryz.underlying44 Tryz.underlying45
attribute [go_sem] Tryz.underlying46 Tryz.underlying47 Tryz.underlying48 Tryz.underlying49 Tryz.underlying50 Tryz.underlying51 Tryz.underlying52 Tryz.underlying53 Tryz.underlying54 Tryz.underlying55 Tryz.underlying56 Tryz.underlying57
attribute [go_sem] Tryz.underlying58 Tryz.underlying59 Tryz.underlying60 Tryz.underlying61 Tryz.underlying62 Tryz.underlying63 Tryz.underlying64 Tryz.underlying65 Tryz.underlying66 Tryz.underlying67 Tryz.underlying68 Tryz.underlying69
attribute [go_sem] Tryz.underlying70 Tryz.underlying71 Tryz.underlying72 Tryz.underlying73 Tryz.underlying74 Tryz.underlying75 Tryz.underlying76 Tryz.underlying77 Tryz.underlying78 Tryz.underlying79 Tryz.underlying80 Tryz.underlying81
attribute [go_sem] Tryz.underlying82 Tryz.underlying83 Tryz.underlying84 Tryz.underlying85 Tryz.underlying86 Tryz.underlying87 Tryz.underlying88 Tryz.underlying89 Tryz.underlying90 Tryz.underlying91 Tryz.underlying92 Tryz.underlying93
attribute [go_sem] Tryz.underlying94 Tryz.underlying95 Tryz.underlying96 Tryz.underlying97 Tryz.underlying98 Tryz.underlying99 Tryz.underlying100 Tryz.underlying101 Tryz.underlying102 Tryz.underlying103 Tryz.underlying104 Tryz.underlying105
attribute [go_sem] Tryz.underlying106 Tryz.underlying107 Tryz.underlying108 Tryz.underlying109 Tryz.underlying110 Tryz.underlying111 Tryz.underlying112 Tryz.underlying113 Tryz.underlying114 Tryz.underlying115 Tryz.underlying116 Tryz.underlying117
attribute [go_sem] Tryz.underlying118 Tryz.underlying119 Tryz.underlying120 Tryz.underlying121 Tryz.underlying122 Tryz.underlying123 Tryz.underlying124 Tryz.underlying125 Tryz.underlying126 Tryz.underlying127 Tryz.underlying128 Tryz.underlying129
attribute [go_sem] Tryz.underlying130 Tryz.underlying131 Tryz.underlying132 Tryz.underlying133 Tryz.underlying134 Tryz.underlying135 Tryz.underlying136 Tryz.underlying137 Tryz.underlying138 Tryz.underlying139 Tryz.underlying140 Tryz.underlying141
attribute [go_sem] Tryz.underlying142 Tryz.underlying143 Tryz.underlying144 Tryz.underlying145 Tryz.underlying146 Tryz.underlying147 Tryz.underlying148 Tryz.underlying149 Tryz.underlying150 Tryz.underlying151 Tryz.underlying152 Tryz.underlying153
attribute [go_sem] Tryz.underlying154 Tryz.underlying155 Tryz.underlying156 Tryz.underlying157 Tryz.underlying158 Tryz.underlying159 Tryz.underlying160 Tryz.underlying161 Tryz.underlying162 Tryz.underlying163 Tryz.underlying164 Tryz.underlying165
attribute [go_sem] Tryz.underlying166 Tryz.underlying167 Tryz.underlying168 Tryz.underlying169 Tryz.underlying170 Tryz.underlying171 Tryz.underlying172 Tryz.underlying173 Tryz.underlying174 Tryz.underlying175 Tryz.underlying176 Tryz.underlying177
attribute [go_sem] Tryz.underlying178 Tryz.underlying179 Tryz.underlying180 Tryz.underlying181 Tryz.underlying182 Tryz.underlying183 Tryz.underlying184 Tryz.underlying185 Tryz.underlying186 Tryz.underlying187 Tryz.underlying188 Tryz.underlying189
attribute [go_sem] Tryz.underlying190 Tryz.underlying191 Tryz.underlying192 Tryz.underlying193 Tryz.underlying194 Tryz.underlying195 Tryz.underlying196 Tryz.underlying197 Tryz.underlying198 Tryz.underlying199 Tryz.underlying200 Tryz.underlying201
attribute [go_sem] Tryz.underlying202 Tryz.underlying203 Tryz.underlying204 Tryz.underlying205 Tryz.underlying206 Tryz.underlying207 Tryz.underlying208 Tryz.underlying209 k1 z1 c1
attribute [go_sem] k2 z2 c2 k3 z3 c3 k4 Pq z4 c4
attribute [go_sem] k5 Pv z5 c5
attribute [go_sem] Px z9 c9
attribute [go_sem] z20 c20 z21 c21 Oj z22 O4
attribute [go_sem] Ol z35 OH
attribute [go_sem] z37 c37
attribute [go_sem] O5
attribute [go_sem] z43
attribute [go_sem] z53 c53
attribute [go_sem] z59 c59
attribute [go_sem] z70 O6 z72
attribute [go_sem] O7 z75 c75
attribute [go_sem] z76 c76
attribute [go_sem] z80 c80
attribute [go_sem] z85 c85
attribute [go_sem] z127 c127
attribute [go_sem] z143 c143
attribute [go_sem] z145 c145
attribute [go_sem] c159
attribute [go_sem] z167 c167 z168 c168
attribute [go_sem] z175 c175
attribute [go_sem] Om
attribute [go_sem] Oo Oq
end Go.Fv.E
/- sync.Once, one goroutine: the first Do, with any callback; a later one. -/
namespace Go.Fv.E
open Go Go.Proofs Go.RowKit
theorem BD (w:World):(callFunc 100 #[]).run Tryz.prog w=.ok (.value (.tuple #[])) w:=run_call_mark0 Tryz.func100 (by kernel_rfl) (by kernel_rfl) (by kernel_rfl) .disable (by kernel_rfl) w
theorem E8 (w:World):(callFunc 102 #[]).run Tryz.prog w=.ok (.value (.tuple #[])) w:=run_call_mark0 Tryz.func102 (by kernel_rfl) (by kernel_rfl) (by kernel_rfl) .enable (by kernel_rfl) w
theorem Hu (a:Addr) (w:World):(callFunc 103 #[.pointer (some a)]).run Tryz.prog w=.ok (.value (.tuple #[])) w:=run_call_marked Tryz.func103 (by kernel_rfl) (by kernel_rfl) (by kernel_rfl) .acquire (by kernel_rfl) a w
theorem Js (a:Addr) (w:World):(callFunc 105 #[.pointer (some a)]).run Tryz.prog w=.ok (.value (.tuple #[])) w:=run_call_marked Tryz.func105 (by kernel_rfl) (by kernel_rfl) (by kernel_rfl) .releaseMerge (by kernel_rfl) a w
theorem PE:Tryz.f65.ntmps=6:=rfl
theorem Pz:Tryz.f64.ntmps=6:=rfl
theorem PD:Tryz.f66.ntmps=10:=rfl
theorem tV (a:Addr) (x:Value) (u:FrameMode) (w:World) (hc:w.cell? a=some x) (hz:w.frozen? a=false) :
  CallsD Tryz.prog 66 #[.pointer (some a),.bool true] u w fun e u' w'=>u'=u∧(e=.returned (.tuple #[])∧w'=w.drew.setCell a (.int .u32 1)):=by
 have hc':w.drew.cell? a=some x:=by go_simp
 have hz':w.drew.frozen? a=false:=by go_simp
 have hst:=run_call_store (P:=Tryz.prog) Tryz.func87 (by kernel_rfl) (by kernel_rfl) (by kernel_rfl) (by kernel_rfl) (k:=.u32) (y:=1) hc' hz'
 go_enter_d Tryz.func66,PD
 go_wp2
 go_region_calls
 all_goals (go_end0;exact ⟨rfl,rfl⟩)
theorem rW (a:Addr) (u:FrameMode) (w:World) (hc:w.cell? a=some (.int .i32 1)) (hz:w.frozen? a=false) :
  CallsD Tryz.prog 65 #[.pointer (some a)] u w fun e u' w'=>u'=u∧(e=.returned (.tuple #[])∧w'=w.setCell a (.int .i32 0)):=by
 have hd:=BD
 have he:=E8
 have hr:=Js
 have hadd:=run_call_add (P:=Tryz.prog) Tryz.func106 (by kernel_rfl) (by kernel_rfl) (by kernel_rfl) .i32 (by kernel_rfl) (y:=-1) (s:=0) hc hz (by simp [go_sem];rfl)
 have hcv:=run_convert_to_unsafe (P:=Tryz.prog) (src:=164) (dst:=88) Tryz.underlying164 Tryz.underlying88 (by kernel_rfl) hc
 go_enter_d Tryz.func65,PE
 go_wp2
 go_end0
 go_wp2
 go_end0
 exact ⟨rfl,rfl⟩
theorem Ee (a:Addr) (w:World) (hc:w.cell? a=some (.int .i32 0)) (hz:w.frozen? a=false) :
  Calls Tryz.prog 64 #[.pointer (some a)] w fun e w'=>e=.returned (.tuple #[])∧w'=w.setCell a (.int .i32 1):=by
 have hd:=BD
 have he:=E8
 have ha:=Hu
 have hcas:=run_call_cas_hit (P:=Tryz.prog) Tryz.func101 (by kernel_rfl) (by kernel_rfl) (by kernel_rfl) .i32 (by kernel_rfl) (y:=1) hc hz
 have hc':(w.setCell a (.int .i32 1)).cell? a=some (.int .i32 1):=World.cell?_setCell_same w a _ hc
 have hcv:=run_convert_to_unsafe (P:=Tryz.prog) (src:=164) (dst:=88) Tryz.underlying164 Tryz.underlying88 (by kernel_rfl) hc'
 go_enter Tryz.func64,Pz
 go_wp2
 first|go_end0|(simp only [Exit.inBlock,Exit.then];refine bodyPost_ret (results_none rfl _ _ _) rfl ?_)|refine bodyPost_ret (results_none rfl _ _ _) rfl ?_
 go_wp2
 go_end0
 exact ⟨rfl,rfl⟩
end Go.Fv.E
/- sync.Once: doSlow and Do, the callback by its contract. -/
namespace Go.Fv.E
open Go Go.Proofs Go.RowKit
theorem Ox:Tryz.f46.ntmps=21:=rfl
theorem NQ:Tryz.f29.ntmps=12:=rfl
set_option maxRecDepth 100000 in
set_option maxHeartbeats 1600000 in
theorem NS (b:Nat) (w:World) (Φ:World→Prop)
  (h0:w.cell? ⟨b,0,none⟩=some (.int .u32 0)) (h1:w.cell? ⟨b,1,none⟩=some (.int .i32 0))
  (f0:w.frozen? ⟨b,0,none⟩=false) (f1:w.frozen? ⟨b,1,none⟩=false)
  (hcb:Calls Tryz.prog 30 #[.pointer (some ⟨b,0,none⟩)] (w.setCell ⟨b,1,none⟩ (.int .i32 1)) fun e w1=>e=.returned (.tuple #[])∧Φ w1)
  (hΦ:∀ w1,Φ w1→(∃ x,w1.cell? ⟨b,0,none⟩=some x)∧w1.cell? ⟨b,1,none⟩=some (.int .i32 1)∧w1.frozen? ⟨b,0,none⟩=false∧w1.frozen? ⟨b,1,none⟩=false) :
  Calls Tryz.prog 46 #[.pointer (some ⟨b,0,none⟩),.func (.func 30) #[.pointer (some ⟨b,0,none⟩)] #[]] w fun e w'=>e=.returned (.tuple #[]) ∧
   ∃ w1,Φ w1∧w'=(w1.drew.setCell ⟨b,0,none⟩ (.int .u32 1)).setCell ⟨b,1,none⟩ (.int .i32 0):=by
 have hl:=run_call_load (P:=Tryz.prog) Tryz.func63 (by kernel_rfl) (by kernel_rfl) (by kernel_rfl) .u32 (by kernel_rfl) (w:=w.setCell ⟨b,1,none⟩ (.int .i32 1)) (a:=⟨b,0,none⟩) (x:=0) ((World.cell?_setCell_other _ ⟨b,1,none⟩ ⟨b,0,none⟩ _ (by simp)).trans h0)
 have hnot:∀ (x:Bool) (w:World),(Op.unary .not (.bool x)).run Tryz.prog w=.ok (.bool (!x)) w:=fun _ _=>rfl
 go_enter_defers Tryz.func46,Ox
 go_wp2_with (first|(go_at_call 64;refine (Ee ⟨b,1,none⟩ _ (by go_simp) (by go_simp)).mono ?_;rintro e w' ⟨rfl,rfl⟩)|(go_at_call 45;go_in)|(go_at_call 30;refine hcb.mono ?_;rintro e w1 ⟨rfl,hw1⟩))
 obtain ⟨⟨x0,c0⟩,c1,z0,z1⟩:=hΦ w1 hw1
 refine leaves_cons (f:=66) (args:=#[.pointer (some ⟨b,0,none⟩),.bool true]) (by simp) (by simp [go_sem]) ?_
 refine (tV ⟨b,0,none⟩ x0 .returning _ c0 z0).mono ?_
 rintro e u' w'' ⟨rfl,rfl,rfl⟩
 refine leaves_cons (f:=65) (args:=#[.pointer (some ⟨b,1,none⟩)]) (by simp [settle]) (by simp [go_sem]) ?_
 refine (rW ⟨b,1,none⟩ _ _ ?_ (by simp [z1])).mono ?_
 ·refine (World.cell?_setCell_other _ ⟨b,0,none⟩ ⟨b,1,none⟩ _ (by simp)).trans ?_
  rw [World.cell?_drew];exact c1
 rintro e u' w'' ⟨rfl,rfl,rfl⟩
 simp [Leaves,settle,results,Tryz.results46]
 exact ⟨w1,hw1,rfl⟩
set_option maxRecDepth 100000 in
set_option maxHeartbeats 1600000 in
theorem Ij (b:Nat) (w:World) (Φ:World→Prop)
  (h0:w.cell? ⟨b,0,none⟩=some (.int .u32 0)) (h1:w.cell? ⟨b,1,none⟩=some (.int .i32 0))
  (f0:w.frozen? ⟨b,0,none⟩=false) (f1:w.frozen? ⟨b,1,none⟩=false)
  (hcb:Calls Tryz.prog 30 #[.pointer (some ⟨b,0,none⟩)] (w.setCell ⟨b,1,none⟩ (.int .i32 1)) fun e w1=>e=.returned (.tuple #[])∧Φ w1)
  (hΦ:∀ w1,Φ w1→(∃ x,w1.cell? ⟨b,0,none⟩=some x)∧w1.cell? ⟨b,1,none⟩=some (.int .i32 1)∧w1.frozen? ⟨b,0,none⟩=false∧w1.frozen? ⟨b,1,none⟩=false) :
  Calls Tryz.prog 29 #[.pointer (some ⟨b,0,none⟩),.func (.func 30) #[.pointer (some ⟨b,0,none⟩)] #[]] w fun e w'=>e=.returned (.tuple #[]) ∧
   ∃ w1,Φ w1∧w'=(w1.drew.setCell ⟨b,0,none⟩ (.int .u32 1)).setCell ⟨b,1,none⟩ (.int .i32 0):=by
 have hl:=run_call_load (P:=Tryz.prog) Tryz.func63 (by kernel_rfl) (by kernel_rfl) (by kernel_rfl) .u32 (by kernel_rfl) h0
 have hnot:∀ (x:Bool) (w:World),(Op.unary .not (.bool x)).run Tryz.prog w=.ok (.bool (!x)) w:=fun _ _=>rfl
 go_enter Tryz.func29,NQ
 go_wp2_with (first|(go_at_call 46;refine (NS b _ Φ h0 h1 f0 f1 hcb hΦ).mono ?_;rintro e w' ⟨rfl,hw'⟩)|(go_at_call 45;go_in))
 go_end0
 exact ⟨rfl,hw'⟩
theorem Ko (a:Addr) (fv:Value) (w:World) (h0:w.cell? a=some (.int .u32 1)) :
  Calls Tryz.prog 29 #[.pointer (some a),fv] w fun e w'=>e=.returned (.tuple #[])∧w'=w:=by
 have hl:=run_call_load (P:=Tryz.prog) Tryz.func63 (by kernel_rfl) (by kernel_rfl) (by kernel_rfl) .u32 (by kernel_rfl) h0
 have hnot:∀ (x:Bool) (w:World),(Op.unary .not (.bool x)).run Tryz.prog w=.ok (.bool (!x)) w:=fun _ _=>rfl
 go_enter Tryz.func29,NQ
 go_wp2
 go_end0
 exact ⟨rfl,rfl⟩
end Go.Fv.E
/- The table of a replacer of single bytes by strings: 256 cells, three of them told, and the bytes' row. -/
namespace Go.Fv.E
open Go Go.Proofs
def eU (a b c:AV) (i:Nat):AV:=if i=10 then a else if i=32 then b else if i=92 then c else .nilS
def jZ (a b c t:AV):List AV:=(List.range 256).map (eU a b c)++[t]
theorem cZ (a b c t:AV):(jZ a b c t).length=257:=by simp [jZ]
theorem zo {a b c t:AV} {i:Nat} (h:i<256):(jZ a b c t)[i]?=some (eU a b c i):=by
 unfold jZ
 rw [List.getElem?_append_left (by simp;omega),List.getElem?_map,List.getElem?_range h];rfl
theorem uV (a b c t:AV):(jZ a b c t)[256]?=some t:=by
 unfold jZ
 rw [List.getElem?_append_right (by simp)];simp
theorem BG {l:List AV} {i:Nat} {x:AV} (h:l[i]?=some x):l.drop i=x::l.drop (i+1):=by
 obtain ⟨hi,e⟩:=List.getElem?_eq_some_iff.1 h
 rw [List.drop_eq_getElem_cons hi,e]
theorem jK {a b c t:AV} {i:Nat} (h:i<256):(jZ a b c t).drop i=eU a b c i::(jZ a b c t).drop (i+1):=BG (zo h)
theorem gU (a b c t:AV):(jZ a b c t).drop 256=[t]:=by rw [BG (uV a b c t),List.drop_of_length_le (by rw [cZ];exact Nat.le_refl _)]
theorem kF (a b c t:AV):(∀ x,(jZ a b c t).set 10 x=jZ x b c t)∧(∀ x,(jZ a b c t).set 32 x=jZ a x c t)∧(∀ x,(jZ a b c t).set 92 x=jZ a b x t)∧∀ x,(jZ a b c t).set 256 x=jZ a b c x:=by
 have key:∀ (k:Nat) (x a' b' c' t':AV),(∀ i,i<257→(if k=i then some x else (jZ a b c t)[i]?)=(jZ a' b' c' t')[i]?)→(jZ a b c t).set k x=jZ a' b' c' t':=fun k x a' b' c' t' h=>by
  apply List.ext_getElem?
  intro i
  rw [List.getElem?_set]
  by_cases hi:i<257
  ·rw [←h i hi,cZ]
   by_cases hk:k=i
   ·rw [if_pos hk,if_pos hk,if_pos (by omega)]
   ·rw [if_neg hk,if_neg hk]
  ·rw [List.getElem?_eq_none (by rw [cZ];omega),List.getElem?_eq_none (by rw [cZ];omega)]
   by_cases hk:k=i
   ·rw [if_pos hk,if_neg (by rw [cZ];omega)]
   ·rw [if_neg hk]
 refine ⟨fun x=>key _ _ _ _ _ _ fun i hi=>?_,fun x=>key _ _ _ _ _ _ fun i hi=>?_,fun x=>key _ _ _ _ _ _ fun i hi=>?_,fun x=>key _ _ _ _ _ _ fun i hi=>?_⟩
 all_goals
  by_cases h6:i=256
  ·subst h6
   rw [uV,uV];simp
  ·rw [zo (by omega),zo (by omega)]
   unfold eU
   (repeat' split)<;>first|rfl|omega
theorem Jt (p:Nat→Nat):∀ (l m:List AV),dh p (l++m)=dh p l++dh p m
 | [],m=>rfl
 | x::l,m=>by simp only [List.cons_append,dh];rw [Jt p l m]
theorem Ju (p:Nat→Nat) (l:List AV):dh p l=l.map (ren p):=by
 induction l with
 | nil=>rfl
 | cons x l ih=>simp only [dh,List.map_cons,ih]
theorem En (p:Nat→Nat) (a b c:AV) (i:Nat):ren p (eU a b c i)=eU (ren p a) (ren p b) (ren p c) i:=by
 unfold eU
 (repeat' split)<;>rfl
theorem aT (p:Nat→Nat) (a b c t:AV):dh p (jZ a b c t)=jZ (ren p a) (ren p b) (ren p c) (ren p t):=by
 unfold jZ
 rw [Ju,List.map_append,List.map_map]
 exact congrArg (·++[ren p t]) (List.map_congr_left fun i _=>En p a b c i)
theorem uQ (n:Nat):∀ (l m:List AV),aA n (l++m)=(aA n l && aA n m)
 | [],m=>by simp [aA]
 | x::l,m=>by simp only [List.cons_append,aA];rw [uQ n l m,Bool.and_assoc]
theorem uP (n:Nat):∀ (l:List AV),aA n l=l.all (Fv.below n)
 | []=>rfl
 | x::l=>by simp only [aA,List.all_cons];rw [uP n l]
theorem aC (n:Nat) (a b c t:AV):aA n (jZ a b c t)=(Fv.below n a && Fv.below n b && Fv.below n c && Fv.below n t):=by
 unfold jZ
 rw [uQ,uP]
 have h:((List.range 256).map (eU a b c)).all (Fv.below n)=(Fv.below n a && Fv.below n b && Fv.below n c):=by
  rw [Bool.eq_iff_iff,List.all_eq_true]
  simp only [Bool.and_eq_true,List.mem_map,List.mem_range]
  constructor
  ·intro h
   exact ⟨⟨h _ ⟨10,by omega,rfl⟩,h _ ⟨32,by omega,rfl⟩⟩,h _ ⟨92,by omega,rfl⟩⟩
  ·rintro ⟨⟨h1,h2⟩,h3⟩ x ⟨i,_,rfl⟩
   unfold eU
   (repeat' split)<;>first|assumption|rfl
 rw [h];simp [aA]
theorem J3 (t:AV):List.replicate 256 AV.nilS++[t]=jZ .nilS .nilS .nilS t:=by
 unfold jZ
 refine congrArg (·++[t]) (List.ext_getElem? fun i=>?_)
 rw [List.getElem?_replicate,List.getElem?_map]
 by_cases h:i<256
 ·rw [if_pos h,List.getElem?_range h]
  unfold eU
  simp
 ·rw [if_neg h,List.getElem?_eq_none (by simp;omega)];rfl
def lM (c:UInt8):List UInt8:=if c.toNat=10 then [92,110] else if c.toNat=32 then [92,115] else if c.toNat=92 then [92,92] else [c]
def aY (s:List UInt8):List UInt8:=s.flatMap lM
end Go.Fv.E
/- A statement peeled, itself by VcRun. -/
namespace Go.Fv.E
open Go Go.Proofs
theorem VcRun.Oz {P:Program} {w0:World} {T0:Bs} {b0:Nat} {x y:Code} {s:Go.Fv.S} {Q:Exit→Go.Fv.S→Prop} (h:VcRun P w0 T0 b0 x s (thenS (fun s'=>@iG P w0 T0 b0 y s' ⟨Q⟩) Q)):VcRun P w0 T0 b0 (.seq x y) s Q:=by
 intro H a w hH hr
 refine wp_seq (wp_mono (h H a w hH hr) ?_)
 rintro e a' w' ⟨s',hq,hr'⟩
 cases e with
 | normal=>exact hq H a' w' hH hr'
 | _=>exact ⟨s',hq,hr'⟩
end Go.Fv.E
/- The replacer of bytes by strings, at a text of at most 3 bytes. -/
namespace Go.Fv.E
open Go Go.Proofs
theorem yE (s:List UInt8) {i:Nat} (h:i<s.length):aY (s.take (i+1))=aY (s.take i)++lM (s.getD i 0):=by
 unfold aY
 rw [List.take_succ_eq_append_getElem h,List.flatMap_append,getD_lt h];simp
def JD (c:UInt8):Bool:=decide (c.toNat=10) || decide (c.toNat=32) || decide (c.toNat=92)
theorem Hw (s:List UInt8) {i:Nat} (h:i<s.length):(s.take (i+1)).any JD=((s.take i).any JD || JD (s.getD i 0)):=by
 rw [List.take_succ_eq_append_getElem h,List.any_append,getD_lt h];simp
theorem yD:∀ {s:List UInt8},s.any JD=false→aY s=s
 | [],_=>rfl
 | c::s,h=>by
  rw [List.any_cons,Bool.or_eq_false_iff] at h
  have h1:=h.1
  unfold JD at h1
  simp only [Bool.or_eq_false_iff,decide_eq_false_iff_not] at h1
  show lM c++aY s=c::s
  rw [yD h.2]
  unfold lM
  rw [if_neg h1.1.1,if_neg h1.1.2,if_neg h1.2];rfl
theorem Bo (c:UInt8):(∃ k x,(k=1∧x=110∨k=2∧x=115∨k=3∧x=92)∧eU (.own 1) (.own 2) (.own 3) c.toNat=.own k∧lM c=[92,x]∧JD c=true)∨(eU (.own 1) (.own 2) (.own 3) c.toNat=.nilS∧lM c=[c]∧JD c=false):=by
 unfold eU lM JD
 by_cases h1:c.toNat=10
 ·exact .inl ⟨1,110,.inl ⟨rfl,rfl⟩,by simp [h1],by simp [h1],by simp [h1]⟩
 by_cases h2:c.toNat=32
 ·exact .inl ⟨2,115,.inr (.inl ⟨rfl,rfl⟩),by simp [h2],by simp [h2],by simp [h2]⟩
 by_cases h3:c.toNat=92
 ·exact .inl ⟨3,92,.inr (.inr ⟨rfl,rfl⟩),by simp [h3],by simp [h3],by simp [h3]⟩
 exact .inr ⟨by simp [h1,h2,h3],by simp [h1,h2,h3],by simp [h1,h2,h3]⟩
theorem zU {E:List UInt8} {n:Nat} {x:UInt8} {y:Int} (hy:(x.toNat:Int)=y) (h:E.length+2≤n):List.take (E.length - 0) (E.map (fun b=>(b.toNat:Int))++List.replicate (n - E.length) 0)++[92,y]++List.take (n - (E.length+2)) (List.drop (E.length+2) (E.map (fun b=>(b.toNat:Int))++List.replicate (n - E.length) 0))=(E++[92,x]).map (fun b=>(b.toNat:Int))++List.replicate (n - (E++[92,x]).length) 0:=by
 subst hy
 rw [Nat.sub_zero,List.take_left' (by simp),←List.drop_drop,List.drop_left' (by simp),List.drop_replicate,List.take_replicate,List.map_append,List.length_append]
 congr 2
 simp;omega
theorem KU {E:List UInt8} {n:Nat} {c:UInt8} (h:E.length<n):(E.map (fun b:UInt8=>(b.toNat:Int))++List.replicate (n - E.length) 0).set E.length (c.toNat:Int)=(E++[c]).map (fun b:UInt8=>(b.toNat:Int))++List.replicate (n - (E++[c]).length) 0:=by
 rw [List.set_append_right _ _ (by simp),List.length_map,Nat.sub_self,show n - E.length=(n - E.length - 1)+1 by omega,List.replicate_succ,List.set_cons_zero,List.map_append,List.length_append,List.append_assoc]
 congr 2
def qZ:List (Nat × Item):=[(0,.box 118 (jZ (.own 1) (.own 2) (.own 3) (.own 4))),(1,.row 5 (.ints .u8 [92,110])),(2,.row 5 (.ints .u8 [92,115])),(3,.row 5 (.ints .u8 [92,92])),(4,.row 9 (.strs [[10],[32],[92]]))]
theorem Ig:∀ j,j<5→∃ it,lk qZ j=some it:=fun j hj=>by
 rcases (by omega:j=0∨j=1∨j=2∨j=3∨j=4) with rfl|rfl|rfl|rfl|rfl<;>exact ⟨_,rfl⟩
set_option maxHeartbeats 4000000 in
theorem pI (s:List UInt8) (hs:s.length≤3):fV Tryz.prog 150 [.ptr 0 0,.str s] qZ 5 (.str (aY s)) qZ:=by
 refine fV.bT Tryz.func150 rfl (by decide) (by simp [Tryz.f150]) Ig [.tmp 4] rfl fun w0 T0 _=>?_
 simp only [Tryz.f150,aI,qZ]
 have h116:0<Tryz.prog.cellsOf 116:=Nat.lt_of_lt_of_eq (by decide:0<256) (show 256=Tryz.prog.cellsOf 116 by kernel_rfl)
 have hd4:=gU (.own 1) (.own 2) (.own 3) (.own 4)
 have f1:((3:Int)*8≤(s.length:Int))=False:=eq_false (by omega)
 (repeat' with_reducible first|intro _|refine rz ?_|refine ra ?_ ?_|omega|simp only [go_sem,hd4,f1,cZ])
 refine bM.intro (fun i:Nat=>⟨122,[(0,.ptr 0 0),(1,.str s),(4,.str []),(5,.int .i64 (s.length - i+(aY (s.take i)).length:Nat)),(6,.bool ((s.take i).any JD)),(10,.int .i64 i)],qZ,5⟩) (fun i=>i≤s.length∧(aY (s.take i)).length≤2*i) (fun i=>s.length - i) 0 ?_ ⟨Nat.zero_le _,Nat.le_refl _⟩ fun i hI=>?_
 ·refine dB.of [] rfl (Nat.le_refl 5) (fun x hx=>by cases hx) ?_ ?_<;>simp only [go_sem,Int.natCast_succ,qZ,aT,aC,List.any_nil,aY,List.flatMap_nil,Nat.sub_zero]
  all_goals trace_state
 obtain ⟨hi,hI⟩:=hI
 by_cases hlt:i<s.length
 ·have f2:((i:Int)<(s.length:Int))=True:=eq_true (by omega)
  have he:=congrArg List.length (yE s hlt)
  rw [List.length_append] at he
  have ha:=Hw s hlt
  rcases Bo (s.getD i 0) with ⟨k,x,hk,hc,hb,hp⟩|⟨hc,hb,hp⟩
  ·rw [hb] at he
   rw [hp,Bool.or_true] at ha
   have hdb:=jK (a:=.own 1) (b:=.own 2) (c:=.own 3) (t:=.own 4) (i:=(s.getD i 0).toNat) (s.getD i 0).toNat_lt
   rw [hc] at hdb
   have hlt8:=(s.getD i 0).toNat_lt
   generalize hc0:s.getD i 0=c at *
   have hbd:(0≤(c.toNat:Int)∧(c.toNat:Int)<256)=True:=eq_true ⟨by omega,by omega⟩
   rcases hk with ⟨rfl,rfl⟩|⟨rfl,rfl⟩|⟨rfl,rfl⟩
   all_goals
    dsimp only [qZ]
    (repeat' with_reducible first|intro _|refine rz ?_|refine ra ?_ ?_|omega|simp only [go_sem,f2,hc0,hbd,hdb,cZ,h116])
    refine ⟨i+1,dB.of [] rfl (Nat.le_refl 5) (fun x hx=>by cases hx) ?_ ?_,⟨by omega,by rw [he];simp only [List.length_cons,List.length_nil];omega⟩,by omega⟩<;>simp only [go_sem,Int.natCast_succ,qZ,aT,aC,ha]
    all_goals (simp only [List.length_cons,List.length_nil] at he;omega)
  ·rw [hb] at he
   rw [hp,Bool.or_false] at ha
   have hdb:=jK (a:=.own 1) (b:=.own 2) (c:=.own 3) (t:=.own 4) (i:=(s.getD i 0).toNat) (s.getD i 0).toNat_lt
   rw [hc] at hdb
   have hlt8:=(s.getD i 0).toNat_lt
   generalize hc0:s.getD i 0=c at *
   have hbd:(0≤(c.toNat:Int)∧(c.toNat:Int)<256)=True:=eq_true ⟨by omega,by omega⟩
   dsimp only [qZ]
   (repeat' with_reducible first|intro _|refine rz ?_|refine ra ?_ ?_|omega|simp only [go_sem,f2,hc0,hbd,hdb,cZ,h116])
   refine ⟨i+1,dB.of [] rfl (Nat.le_refl 5) (fun x hx=>by cases hx) ?_ ?_,⟨by omega,by rw [he];simp only [List.length_cons,List.length_nil];omega⟩,by omega⟩<;>simp only [go_sem,Int.natCast_succ,qZ,aT,aC,ha]
   all_goals (simp only [List.length_cons,List.length_nil] at he;omega)
 have ei:i=s.length:=by omega
 have f2:((i:Int)<(s.length:Int))=False:=eq_false (by omega)
 rw [show s.take i=s by rw [ei,List.take_length]] at *
 by_cases hany:s.any JD=true
 case neg=>
  have hany:s.any JD=false:=by simpa using hany
  rw [yD hany,hany]
  dsimp only [qZ]
  (repeat' with_reducible first|intro _|refine rz ?_|refine ra ?_ ?_|omega|simp only [go_sem,f2])
  refine jd.of [] 5 (fun x hx=>by cases hx) (Nat.le_refl 5) ?_ rfl ?_<;>simp only [go_sem,Int.natCast_succ,aT,aC]
  all_goals trace_state
 rw [hany]
 dsimp only [qZ]
 (repeat' with_reducible first|intro _|refine rz ?_|refine ra ?_ ?_|omega|simp only [go_sem,f2])
 rw [show s.length - i+(aY s).length=(aY s).length by omega]
 refine bM.run (fun i:Nat=>⟨122,[(0,.ptr 0 0),(1,.str s),(12,.own 5),(13,.int .i64 (aY (s.take i)).length),(14,.int .i64 i)],(5,.row 5 (.ints .u8 ((aY (s.take i)).map (fun b=>(b.toNat:Int))++List.replicate ((aY s).length - (aY (s.take i)).length) 0)))::qZ,6⟩) (fun i=>i≤s.length) (fun i=>s.length - i) 0 ?_ (Nat.zero_le _) fun i hi=>?_
 ·refine dB.of [] rfl (by show 5≤6;omega) (fun x hx=>by cases hx) ?_ ?_<;>simp only [go_sem,Int.natCast_succ,qZ,aT,aC,aY,List.flatMap_nil,List.map_nil,Nat.sub_zero]
  all_goals trace_state
 by_cases hlt:i<s.length
 case neg=>
  have ei:i=s.length:=by omega
  have f2:((i:Int)<(s.length:Int))=False:=eq_false (by omega)
  rw [show s.take i=s by rw [ei,List.take_length],Nat.sub_self,List.replicate_zero,List.append_nil]
  refine VcRun.of ?_
  dsimp only [qZ]
  (repeat' with_reducible first|intro _|refine rz ?_|refine ra ?_ ?_|omega|simp only [go_sem,f2])
  have hbk:∀ l:List UInt8,(l.map fun b=>(b.toNat:Int)).map (fun n=>UInt8.ofNat n.toNat)=l:=fun l=>by simp [List.map_map,Function.comp_def]
  refine jd.of [] 5 (fun x hx=>by cases hx) (Nat.le_refl 5) ?_ rfl ?_<;>simp only [go_sem,Int.natCast_succ,aT,aC,hbk]
  all_goals trace_state
 have f2:((i:Int)<(s.length:Int))=True:=eq_true (by omega)
 have he:=yE s hlt
 have hcase:=Bo (s.getD i 0)
 have hlt8:=(s.getD i 0).toNat_lt
 have hdb:=jK (a:=.own 1) (b:=.own 2) (c:=.own 3) (t:=.own 4) (i:=(s.getD i 0).toNat) hlt8
 generalize hc0:s.getD i 0=c at *
 have hfl:aY s=aY (s.take (i+1))++aY (s.drop (i+1)):=by
  conv=>lhs;rw [←List.take_append_drop (i+1) s]
  unfold aY
  rw [List.flatMap_append]
 have hfl:=congrArg List.length hfl
 rw [he,List.length_append,List.length_append] at hfl
 have hrl:(aY (s.take i)).length+((aY s).length - (aY (s.take i)).length)=(aY s).length:=by omega
 have hbd:(0≤(c.toNat:Int)∧(c.toNat:Int)<256)=True:=eq_true ⟨by omega,by omega⟩
 refine VcRun.MO ?_
 dsimp only [qZ]
 (repeat' with_reducible first|intro _|refine rz ?_|refine ra ?_ ?_|omega|simp only [go_sem,f2])
 refine iG.of (VcRun.Oz (VcRun.block (VcRun.MO ?_)))
 (repeat' with_reducible first|intro _|refine rz ?_|refine ra ?_ ?_|omega|simp only [go_sem,hc0])
 refine iG.of (VcRun.MO ?_)
 rcases hcase with ⟨k,x,hk,hc,hb,hp⟩|⟨hc,hb,hp⟩
 ·rw [hc] at hdb
  rw [hb] at he
  rcases hk with ⟨rfl,rfl⟩|⟨rfl,rfl⟩|⟨rfl,rfl⟩
  all_goals
   (repeat' with_reducible first|intro _|refine rz ?_|refine ra ?_ ?_|omega|simp only [go_sem,hbd,hdb,cZ,h116])
   refine iG.of (VcRun.ent (dB.pre 12 5 rfl rfl) (VcRun.of ?_))
   (repeat' with_reducible first|intro _|exact dn|refine rn ?_|refine ra ?_ ?_)
   refine aZ.lex [10] [(0,[1])] (by kernel_rfl) (by kernel_rfl) ?_
   (repeat' with_reducible first|intro _|refine rz ?_|refine ra ?_ ?_|omega|simp only [go_sem,hbd,hdb,cZ,h116])
   refine QV.intro (.suf 5 1 (aY (s.take i)).length ((aY s).length - (aY (s.take i)).length)) ?_ ?_
   ·(repeat' with_reducible first|intro _|refine rz ?_|refine ra ?_ ?_|omega|simp only [go_sem,hrl])
   (repeat' with_reducible first|intro _|refine rz ?_|refine ra ?_ ?_|omega|simp only [go_sem,hbd,hdb,cZ,h116])
   refine QE.intro (.int .i64 2) ((5,.row 5 (.ints .u8 ((aY (s.take (i+1))).map (fun b=>(b.toNat:Int))++List.replicate ((aY s).length - (aY (s.take (i+1))).length) 0)))::qZ) 6 ?_ ?_
   ·dsimp only [qZ]
    (repeat' with_reducible first|intro _|refine rz ?_|refine ra ?_ ?_|omega|simp only [go_sem,hrl])
    rw [hb] at hfl
    simp only [List.length_cons,List.length_nil] at hfl
    refine aN.intro ⟨by omega,Nat.le_refl _⟩ ?_
    rw [he]
    first
     | rw [zU (x:=110) (y:=110) rfl (by omega)]
     | rw [zU (x:=115) (y:=115) rfl (by omega)]
     | rw [zU (x:=92) (y:=92) rfl (by omega)]
   dsimp only [qZ]
   (repeat' with_reducible first|intro _|refine rz ?_|refine ra ?_ ?_|omega|simp only [go_sem,hbd,hdb,cZ,h116,hrl])
   refine iG.of (VcRun.of ?_)
   (repeat' with_reducible first|intro _|exact dn|refine rn ?_|refine ra ?_ ?_)
   have hfl2:=congrArg List.length he
   rw [List.length_append] at hfl2
   rw [hb] at hfl
   simp only [List.length_cons,List.length_nil] at hfl hfl2
   have hrl2:(aY (s.take (i+1))).length+((aY s).length - (aY (s.take (i+1))).length)=(aY s).length:=by omega
   have hrow:List.take ((aY s).length - 0) ((aY (s.take (i+1))).map (fun b=>(b.toNat:Int))++List.replicate ((aY s).length - (aY (s.take (i+1))).length) 0)=(aY (s.take (i+1))).map (fun b=>(b.toNat:Int))++List.replicate ((aY s).length - (aY (s.take (i+1))).length) 0:=List.take_of_length_le (by simp;omega)
   have hj:((aY (s.take i)).length:Int)+2=((aY (s.take (i+1))).length:Int):=by omega
   refine ⟨i+1,dB.trans (dB.L8 12 5 (aY s).length rfl rfl (by simp [au.len];omega)) (dB.of [(5,6)] rfl (by show 5≤6;omega) (fun x hx=>by simp at hx;subst hx;decide) ?_ ?_),by omega,by omega⟩<;>simp only [go_sem,Int.natCast_succ,qZ,aT,aC,hj,hrow,bn,del]
   all_goals trace_state
 ·rw [hc] at hdb
  rw [hb] at he
  (repeat' with_reducible first|intro _|refine rz ?_|refine ra ?_ ?_|omega|simp only [go_sem,hbd,hdb,cZ,h116])
  have hfl2:=congrArg List.length he
  rw [List.length_append] at hfl2
  rw [hb] at hfl
  simp only [List.length_cons,List.length_nil] at hfl hfl2
  have hlt2:(aY (s.take i)).length<(aY s).length:=by omega
  have hrow:=KU (E:=aY (s.take i)) (c:=c) hlt2
  rw [←he] at hrow
  have hj:((aY (s.take i)).length:Int)+1=((aY (s.take (i+1))).length:Int):=by omega
  refine iG.of (VcRun.of ?_)
  (repeat' with_reducible first|intro _|refine rz ?_|refine ra ?_ ?_|omega|simp only [go_sem,hrl,hrow])
  refine iG.of (VcRun.of ?_)
  (repeat' with_reducible first|intro _|exact dn|refine rn ?_|refine ra ?_ ?_)
  refine ⟨i+1,dB.of [] rfl (by show 5≤6;omega) (fun x hx=>by cases hx) ?_ ?_,by omega,by omega⟩<;>simp only [go_sem,Int.natCast_succ,qZ,aT,aC,hj,hrow]
  all_goals trace_state
end Go.Fv.E
/- Build of a replacer: three bytes by strings. -/
namespace Go.Fv.E
open Go Go.Proofs
def DR:Array Value:=(List.replicate 257 (.slice none 0 0)).toArray
theorem PI:zeroOf Tryz.prog 118=some (.agg DR):=by kernel_rfl
theorem Po:bP Tryz.prog 118:=by
 intro d hd;rw [Tryz.underlying118] at hd;cases hd
 intro f hf;simp only [List.mem_cons,List.not_mem_nil,or_false] at hf
 rcases hf with rfl|rfl
 ·exact Option.isSome_iff_exists.1 (by kernel_rfl)
 ·exact Option.isSome_iff_exists.1 (by kernel_rfl)
theorem Hr:DR.toList.map yN=jZ .nilS .nilS .nilS .nilS:=by
 rw [←J3,show DR.toList=List.replicate 257 (.slice none 0 0) from rfl,List.map_replicate,List.replicate_succ'];rfl
theorem Ht (v:Value):(v∈DR.toList)=(v=.slice none 0 0):=by
 rw [show DR.toList=List.replicate 257 (.slice none 0 0) from rfl,List.mem_replicate];simp
def rO:List (List UInt8):=[[92],[92,92],[32],[92,115],[10],[92,110]]
def nK (k:Int):List (Nat × Item):=[(0,.box 75 [.int .u32 0,.int .i32 k,.int .u32 0,.raw .nilIface,.own 1]),(1,.row 9 (.strs rO))]
def JY:Nat→Go.Fv.S
 | 0=>⟨132,[(0,.ptr 0 0),(3,.own 1),(11,.ptr 2 0),(12,.int .i64 4)],nK 1++[(2,.box 118 (jZ .nilS .nilS .nilS (.own 3))),(3,.row 9 (.strs []))],4⟩
 | 1=>⟨132,[(0,.ptr 0 0),(3,.own 1),(11,.ptr 2 0),(12,.int .i64 2)],nK 1++[(2,.box 118 (jZ (.own 4) .nilS .nilS (.own 3))),(3,.row 9 (.strs [[10]])),(4,.row 5 (.ints .u8 [92,110]))],5⟩
 | 2=>⟨132,[(0,.ptr 0 0),(3,.own 1),(11,.ptr 2 0),(12,.int .i64 0)],nK 1++[(2,.box 118 (jZ (.own 4) (.own 5) .nilS (.own 3))),(3,.row 9 (.strs [[10],[32]])),(4,.row 5 (.ints .u8 [92,110])),(5,.row 5 (.ints .u8 [92,115]))],6⟩
 | _=>⟨132,[(0,.ptr 0 0),(3,.own 1),(11,.ptr 2 0),(12,.int .i64 (-2))],nK 1++[(2,.box 118 (jZ (.own 4) (.own 5) (.own 6) (.own 3))),(3,.row 9 (.strs [[10],[32],[92]])),(4,.row 5 (.ints .u8 [92,110])),(5,.row 5 (.ints .u8 [92,115])),(6,.row 5 (.ints .u8 [92,92]))],7⟩
set_option maxHeartbeats 4000000 in
theorem Ib:fV Tryz.prog 47 [.ptr 0 0] (nK 1) 2 (.ifc 119 (.ptr 2 0)) (nK 1++[(2,.box 118 (jZ (.own 3) (.own 4) (.own 5) (.own 6))),(3,.row 5 (.ints .u8 [92,110])),(4,.row 5 (.ints .u8 [92,115])),(5,.row 5 (.ints .u8 [92,92])),(6,.row 9 (.strs [[10],[32],[92]]))]):=by
 refine fV.bT Tryz.func47 rfl (by decide) (by simp [Tryz.f47]) (fun j hj=>by rcases (by omega:j=0∨j=1) with rfl|rfl<;>exact ⟨_,rfl⟩) [.tmp 2] rfl fun w0 T0 _=>?_
 simp only [Tryz.f47,aI,nK]
 have hl:rO.length=6:=rfl
 have hZl:DR.toList.length=257:=by rw [show DR.toList=List.replicate 257 (.slice none 0 0) from rfl,List.length_replicate]
 have c118':Tryz.prog.cellsOf 118=257:=by kernel_rfl
 have hsp:spl (jZ .nilS .nilS .nilS .nilS) 0 (jZ .nilS .nilS .nilS (.own 2))=jZ .nilS .nilS .nilS (.own 2):=Aa (by simp [cZ])
 have g0:rO.getD 0 []=[92]:=rfl
 have g1:rO.getD 1 []=[92,92]:=rfl
 have g2:rO.getD 2 []=[32]:=rfl
 have g3:rO.getD 3 []=[92,115]:=rfl
 have g4:rO.getD 4 []=[10]:=rfl
 have g5:rO.getD 5 []=[92,110]:=rfl
 have d1:¬((2:Int)=1):=by decide
 have g1l:(([92,92]:List UInt8).length:Int)=2:=rfl
 have g3l:(([92,115]:List UInt8).length:Int)=2:=rfl
 have g5l:(([92,110]:List UInt8).length:Int)=2:=rfl
 have g0l:(([92]:List UInt8).length:Int)=1:=rfl
 have g2l:(([32]:List UInt8).length:Int)=1:=rfl
 have g4l:(([10]:List UInt8).length:Int)=1:=rfl
 have h116:0<Tryz.prog.cellsOf 116:=Nat.lt_of_lt_of_eq (by decide:0<256) (show 256=Tryz.prog.cellsOf 116 by kernel_rfl)
 have u10:(([10]:List UInt8).getD 0 0).toNat=10:=rfl
 have u32:(([32]:List UInt8).getD 0 0).toNat=32:=rfl
 have u92:(([92]:List UInt8).getD 0 0).toNat=92:=rfl
 have n1:Int.toNat 1=1:=rfl
 have n2:Int.toNat 2=2:=rfl
 have n3:Int.toNat 3=3:=rfl
 have n4:Int.toNat 4=4:=rfl
 have n5:Int.toNat 5=5:=rfl
 (repeat' with_reducible first|intro _|refine rz ?_|refine ra ?_ ?_|omega|simp only [go_sem,hl])
 refine bM.intro (fun i:Nat=>⟨132,[(0,.ptr 0 0),(3,.own 1),(4,.bool (decide (i=0))),(5,.int .i64 (2*i:Nat))],nK 1,2⟩) (fun i=>i≤3) (fun i=>3 - i) 0 ?_ (Nat.zero_le _) fun i hi=>?_
 ·refine dB.of [] rfl (by show 2≤2;omega) (fun x hx=>by cases hx) ?_ ?_<;>simp only [go_sem,Int.natCast_succ,nK]
  all_goals trace_state
 dsimp only [nK]
 rcases (by omega:i=0∨i=1∨i=2∨i=3) with rfl|rfl|rfl|rfl
 ·(repeat' with_reducible first|intro _|refine rz ?_|refine ra ?_ ?_|omega|simp only [go_sem,hl,g0,g1,g2,g3,g4,g5,g0l,g1l,g2l,g3l,g4l,g5l,d1,not_true,not_false_iff,decide_true,decide_false,n1,n2,n3,n4,n5])
  refine ⟨1,dB.of [] rfl (by show 2≤2;omega) (fun x hx=>by cases hx) ?_ ?_,by omega,by omega⟩<;>simp only [go_sem,Int.natCast_succ,nK]
  rename_i hX
  exact absurd hX (by decide)
 ·(repeat' with_reducible first|intro _|refine rz ?_|refine ra ?_ ?_|omega|simp only [go_sem,hl,g0,g1,g2,g3,g4,g5,g0l,g1l,g2l,g3l,g4l,g5l,d1,not_true,not_false_iff,decide_true,decide_false,n1,n2,n3,n4,n5])
  refine ⟨2,dB.of [] rfl (by show 2≤2;omega) (fun x hx=>by cases hx) ?_ ?_,by omega,by omega⟩<;>simp only [go_sem,Int.natCast_succ,nK]
  rename_i hX
  exact absurd hX (by decide)
 ·(repeat' with_reducible first|intro _|refine rz ?_|refine ra ?_ ?_|omega|simp only [go_sem,hl,g0,g1,g2,g3,g4,g5,g0l,g1l,g2l,g3l,g4l,g5l,d1,not_true,not_false_iff,decide_true,decide_false,n1,n2,n3,n4,n5])
  refine ⟨3,dB.of [] rfl (by show 2≤2;omega) (fun x hx=>by cases hx) ?_ ?_,by omega,by omega⟩<;>simp only [go_sem,Int.natCast_succ,nK]
  rename_i hX
  exact absurd hX (by decide)
 ·(repeat' with_reducible first|intro _|refine rz ?_|refine ra ?_ ?_|omega|simp only [go_sem,hl,g0,g1,g2,g3,g4,g5,g0l,g1l,g2l,g3l,g4l,g5l,d1,not_true,not_false_iff,decide_true,decide_false,n1,n2,n3,n4,n5])
  (repeat' with_reducible first|intro _|refine rz ?_|refine ra ?_ ?_|omega|simp only [go_sem,PI,eq_true Po,Hr,Ht,forall_eq,cZ,(kF .nilS .nilS .nilS .nilS).2.2.2,hZl,c118',hsp,Nat.le_refl])
  refine bM.intro JY (fun k=>k≤3) (fun k=>3 - k) 0 ?_ (Nat.zero_le _) fun k hk=>?_
  ·refine dB.of [(2,3),(3,2)] rfl (by show 2≤4;omega) (fun x hx=>by simp at hx;rcases hx with rfl|rfl<;>decide) ?_ ?_<;>simp only [go_sem,Int.natCast_succ,JY,nK,aT,aC]
   all_goals trace_state
  rcases (by omega:k=0∨k=1∨k=2∨k=3) with rfl|rfl|rfl|rfl
  ·dsimp only [JY,nK]
   have hd:=jK (a:=.nilS) (b:=.nilS) (c:=.nilS) (t:=.own 3) (i:=10) (by decide)
   rw [show eU .nilS .nilS .nilS 10=.nilS from rfl] at hd
   obtain ⟨s1,s2,s3,s4⟩:=kF (.nilS) (.nilS) (.nilS) (.own 3)
   have s5:=(kF (.nilS) (.nilS) (.nilS) (.own 6)).1
   (repeat' with_reducible first|intro _|refine rz ?_|refine ra ?_ ?_|omega|simp only [go_sem,hl,g0,g1,g2,g3,g4,g5,g0l,g1l,g2l,g3l,g4l,g5l,n1,n2,n3,n4,n5,cZ,h116,u10,u32,u92,hd,gU,s4,s5])
   refine ⟨1,dB.of [(3,6),(4,7)] rfl (by show 2≤5;omega) (fun x hx=>by simp at hx;rcases hx with rfl|rfl<;>decide) ?_ ?_,by omega,by omega⟩<;>simp only [go_sem,Int.natCast_succ,JY,nK,aT,aC]
   all_goals first|rfl|trace_state
  ·dsimp only [JY,nK]
   have hd:=jK (a:=.own 4) (b:=.nilS) (c:=.nilS) (t:=.own 3) (i:=32) (by decide)
   rw [show eU (.own 4) .nilS .nilS 32=.nilS from rfl] at hd
   obtain ⟨s1,s2,s3,s4⟩:=kF (.own 4) (.nilS) (.nilS) (.own 3)
   have s5:=(kF (.own 4) (.nilS) (.nilS) (.own 7)).2.1
   (repeat' with_reducible first|intro _|refine rz ?_|refine ra ?_ ?_|omega|simp only [go_sem,hl,g0,g1,g2,g3,g4,g5,g0l,g1l,g2l,g3l,g4l,g5l,n1,n2,n3,n4,n5,cZ,h116,u10,u32,u92,hd,gU,s4,s5])
   refine ⟨2,dB.of [(3,7),(5,8)] rfl (by show 2≤6;omega) (fun x hx=>by simp at hx;rcases hx with rfl|rfl<;>decide) ?_ ?_,by omega,by omega⟩<;>simp only [go_sem,Int.natCast_succ,JY,nK,aT,aC]
   all_goals first|rfl|trace_state
  ·dsimp only [JY,nK]
   have hd:=jK (a:=.own 4) (b:=.own 5) (c:=.nilS) (t:=.own 3) (i:=92) (by decide)
   rw [show eU (.own 4) (.own 5) .nilS 92=.nilS from rfl] at hd
   obtain ⟨s1,s2,s3,s4⟩:=kF (.own 4) (.own 5) (.nilS) (.own 3)
   have s5:=(kF (.own 4) (.own 5) (.nilS) (.own 8)).2.2.1
   (repeat' with_reducible first|intro _|refine rz ?_|refine ra ?_ ?_|omega|simp only [go_sem,hl,g0,g1,g2,g3,g4,g5,g0l,g1l,g2l,g3l,g4l,g5l,n1,n2,n3,n4,n5,cZ,h116,u10,u32,u92,hd,gU,s4,s5])
   refine ⟨3,dB.of [(3,8),(6,9)] rfl (by show 2≤7;omega) (fun x hx=>by simp at hx;rcases hx with rfl|rfl<;>decide) ?_ ?_,by omega,by omega⟩<;>simp only [go_sem,Int.natCast_succ,JY,nK,aT,aC]
   all_goals first|rfl|trace_state
  ·dsimp only [JY,nK]
   (repeat' with_reducible first|intro _|exact dn|refine rn ?_|refine ra ?_ ?_)
   refine jd.of [(3,4),(4,5),(5,6),(6,3)] 7 (fun x hx=>by simp at hx;rcases hx with rfl|rfl|rfl|rfl<;>decide) (by decide) ?_ rfl ?_<;>simp only [go_sem,Int.natCast_succ,aT,aC]
   all_goals first|rfl|trace_state
end Go.Fv.E
/- buildOnce. -/
namespace Go.Fv.E
open Go Go.Proofs
def MS (d k:Int):List (Nat × Item):=[(0,.box 75 [.int .u32 d,.int .i32 k,.int .u32 0,.ifc 119 (.ptr 2 0),.nilS]),(2,.box 118 (jZ (.own 3) (.own 4) (.own 5) (.own 6))),(3,.row 5 (.ints .u8 [92,110])),(4,.row 5 (.ints .u8 [92,115])),(5,.row 5 (.ints .u8 [92,92])),(6,.row 9 (.strs [[10],[32],[92]]))]
set_option maxHeartbeats 4000000 in
theorem zq:fV Tryz.prog 30 [.ptr 0 0] (nK 1) 2 (.tup []) (MS 0 1):=by
 have k:=Ib
 refine fV.bT Tryz.func30 rfl (by decide) (by simp [Tryz.f30]) (fun j hj=>by rcases (by omega:j=0∨j=1) with rfl|rfl<;>exact ⟨_,rfl⟩) [] rfl fun w0 T0 _=>?_
 simp only [Tryz.f30,aI]
 unfold nK at *
 (repeat' with_reducible first|intro _|exact dn|refine rn ?_|refine ra ?_ ?_)
 refine ah.i [0,1] k 7 ?_ (hNr:=by simp [dw,Item.below,Fv.below,aA,aW,aC])
 (repeat' with_reducible first|intro _|exact dn|refine rn ?_|refine ra ?_ ?_)
 refine jd.of [] 7 (fun x hx=>by cases hx) (by decide) ?_ rfl ?_<;>simp only [go_sem,Int.natCast_succ,MS,aT,aC,jg]
 all_goals first|rfl|trace_state
end Go.Fv.E
/- (*sync.Once).Do at Fv's calls. -/
namespace Go.Fv.E
open Go Go.Proofs Go.RowKit
theorem aV.setAt {c:Ctx} {x:AV} {v:Value} (hx:Rv c x v) (h1:v.oneCell'=true):∀ {cs:List AV} {vs:List Value} (k:Nat),aV c cs vs→aV c (cs.set k x) (vs.set k v)
 | _,_,_,.nil=>by simpa using aV.nil
 | _,_,0,.cons y u l us hy h2 ht=>.cons _ _ _ _ hx h1 ht
 | _,_,k+1,.cons y u l us hy h2 ht=>.cons _ _ _ _ hy h2 (aV.setAt hx h1 k ht)
theorem aF.Es {w0:World} {T0:Bs} {H:List (AV × Value)} {s:Go.Fv.S} {a:Act} {w:World} {m:Nat→Value} (hm:aF w0 T0 H s a w m) {i g:Nat} {e:TypeId} {cs:List AV} (hi:lk s.rows i=some (.box e cs)) (hg:m i=.pointer (some ⟨g,0,none⟩)) (k:Nat) (x:AV) (v:Value) (hx:∀ c:Ctx,Rv c x v) (h1:v.oneCell'=true) :
  aF w0 T0 H (s.upd i (.box e (cs.set k x))) a (w.setCell ⟨g,k,none⟩ v) m:=by
 obtain ⟨hlt,g',vs,hv,hO,hl,hh⟩:=hm.rows i _ hi
 rw [hg] at hv
 cases hv
 have hh':w.heap[g]?=some (.cells vs.toArray e (0,0)):=hh
 rw [setCell_eq_setRow w g k vs.toArray e (0,0) v hh',show vs.toArray.setIfInBounds k v=(vs.set k v).toArray by simp]
 refine hm.upd (aK.setRow hm.below hO _) hi (fun b hb hne=>setRow_other w g b _ (fun e=>hne (by rw [hg,e];rfl))) _ (fun c hle' hw hmm hN=>?_)
 refine ⟨g,vs.set k v,hg,hO,?_,by rw [hw];exact setRow_heap w g _ _ _ _ hh'⟩
 exact aV.setAt (hx c) h1 k (hl.mono hle')
theorem Ia {w0:World} {T0:Bs} {H:List (AV × Value)} {s2:Go.Fv.S} {a:Act} {w1:World} {m2:Nat→Value} {v:Value} {i g:Nat} {e:TypeId} {cs2:List AV} (hr:aF w0 T0 ((.tup [],v)::(.ptr i 0,.pointer (some ⟨g,0,none⟩))::H) s2 a w1 m2) (hi2:lk s2.rows i=some (.box e (.int .u32 0::.int .i32 1::cs2))) :
  m2 i=.pointer (some ⟨g,0,none⟩)∧∃ r2:List Value,w1.heap[g]?=some (.cells (.int .u32 0::.int .i32 1::r2).toArray e (0,0)):=by
 obtain ⟨hlt,g',vs,hv,hO,hl,hh⟩:=hr.rows i _ hi2
 have hp:=hr.held _ (.tail _ (.head _))
 cases hp with
 | ptr _ _ _ _ hb=>
  have hb:blk (m2 i)=some g:=hb
  rw [hv] at hb
  cases hb
  cases hl with
  | cons _ a0 _ r0 ha0 _ hl=>
  cases ha0
  cases hl with
  | cons _ a1 _ r1 ha1 _ hl=>
  cases ha1
  exact ⟨hv,r1,hh⟩
set_option maxHeartbeats 2000000 in
theorem ah.Kq {w0:World} {T0:Bs} [hGl:lC Tryz.prog w0 T0] {s:Go.Fv.S} {i:Nat} {e:TypeId} {cs:List AV} {K:AV→Go.Fv.S→Prop} (hi:lk s.rows i=some (.box e (.int .u32 0::.int .i32 0::cs)))
  (h:@ah Tryz.prog w0 T0 30 [.ptr i 0] (s.upd i (.box e (.int .u32 0::.int .i32 1::cs))) ⟨fun r s2=>r=.tup []∧∃ cs2,lk s2.rows i=some (.box e (.int .u32 0::.int .i32 1::cs2))∧K (.tup []) ((s2.upd i (.box e (.int .u32 1::.int .i32 1::cs2))).upd i (.box e (.int .u32 1::.int .i32 0::cs2)))⟩) :
  @ah Tryz.prog w0 T0 29 [.ptr i 0,.bm 30 (.ptr i 0)] s ⟨K⟩:=by
 refine ⟨⟨_,Tryz.func29,by kernel_rfl,by kernel_rfl⟩,fun H a w m vals hm hv=>?_⟩
 obtain ⟨hlt,g,vs,hmi,hO,hl,hh⟩:=hm.rows i _ hi
 have hh':w.heap[g]?=some (.cells vs.toArray e (0,0)):=hh
 have hgi:blk (m i)=some g:=by rw [hmi];rfl
 have ptr:∀ u,Rv (ak T0 w0.heap.size m s w) (.ptr i 0) u→u=.pointer (some ⟨g,0,none⟩):=fun u hu=>by
  cases hu with
  | ptr _ _ g2 _ hg2=>
   have hg2:blk (m i)=some g2:=hg2
   rw [hgi] at hg2;cases hg2;rfl
 cases hv with
 | cons _ v0 _ vs0 hv0 hvs=>
 cases hvs with
 | cons _ v1 _ vs1 hv1 hvs1=>
 cases hvs1
 obtain rfl:=ptr _ hv0
 cases hv1 with
 | bm _ _ u hu=>
 obtain rfl:=ptr _ hu
 cases hl with
 | cons _ a0 _ r0 ha0 _ hl=>
 cases ha0
 cases hl with
 | cons _ a1 _ r1 ha1 _ hl=>
 cases ha1
 have hm1:=aF.Es (x:=.int .i32 1) (v:=.int .i32 1) hm hi hmi 1 (fun c=>.int .i32 1 ⟨by decide,by decide⟩) rfl
 have hm2:=hm1.hold (x:=.ptr i 0) (v:=.pointer (some ⟨g,0,none⟩)) (.ptr i 0 g hlt hgi)
 have hcall:=h.2 ((.ptr i 0,.pointer (some ⟨g,0,none⟩))::H) a _ m [.pointer (some ⟨g,0,none⟩)] hm2 (.cons _ _ _ _ (.ptr i 0 g hlt hgi) .nil)
 refine (Ij g w (fun w1=>∃ s2 cs2,(lk s2.rows i=some (.box e (.int .u32 0::.int .i32 1::cs2))∧K (.tup []) ((s2.upd i (.box e (.int .u32 1::.int .i32 1::cs2))).upd i (.box e (.int .u32 1::.int .i32 0::cs2))))∧Rep w0 T0 ((.tup [],.tuple #[])::(.ptr i 0,.pointer (some ⟨g,0,none⟩))::H) s2 a w1) (by simp [World.cell?,hh']) (by simp [World.cell?,hh']) (by simp [World.frozen?,hh']) (by simp [World.frozen?,hh']) (Calls.mono hcall ?_) ?_).mono ?_
 ·rintro e1 w1 ⟨v,rfl,r,s2,⟨rfl,cs2,h1,h2⟩,m2,hr⟩
  have hvt:=hr.held _ (.head _)
  obtain rfl:v=.tuple #[]:=by cases hvt with|tup _ us hus=>cases hus;rfl
  exact ⟨rfl,s2,cs2,⟨h1,h2⟩,m2,hr⟩
 ·rintro w1 ⟨s2,cs2,⟨h1,h2⟩,m2,hr⟩
  obtain ⟨hg2,r2,hh2⟩:=Ia hr h1
  exact ⟨⟨_,by simp [World.cell?,hh2];rfl⟩,by simp [World.cell?,hh2],by simp [World.frozen?,hh2],by simp [World.frozen?,hh2]⟩
 ·rintro e1 w' ⟨rfl,w1,⟨s2,cs2,⟨h1,h2⟩,m2,hr⟩,rfl⟩
  obtain ⟨hg2,r2,hh2⟩:=Ia hr h1
  have b1:=aF.Es (x:=.int .u32 1) (v:=.int .u32 1) hr.drawn h1 hg2 0 (fun c=>.int .u32 1 ⟨by decide,by decide⟩) rfl
  have b2:=aF.Es (i:=i) (e:=e) (cs:=.int .u32 1::.int .i32 1::cs2) (x:=.int .i32 0) (v:=.int .i32 0) b1 (by simp [S.upd,vV,h1]) hg2 1 (fun c=>.int .i32 0 ⟨by decide,by decide⟩) rfl
  exact ⟨_,rfl,.tup [],_,h2,m2,b2.iI.iI.hold (.tup [] [] .nil)⟩
theorem ah.L9 {w0:World} {T0:Bs} [hGl:lC Tryz.prog w0 T0] {s:Go.Fv.S} {i:Nat} {e:TypeId} {cs:List AV} {x:AV} {K:AV→Go.Fv.S→Prop} (hi:lk s.rows i=some (.box e (.int .u32 1::cs))) (h:K (.tup []) s):@ah Tryz.prog w0 T0 29 [.ptr i 0,x] s ⟨K⟩:=by
 refine ⟨⟨_,Tryz.func29,by kernel_rfl,by kernel_rfl⟩,fun H a w m vals hm hv=>?_⟩
 obtain ⟨hlt,g,vs,hmi,hO,hl,hh⟩:=hm.rows i _ hi
 have hh':w.heap[g]?=some (.cells vs.toArray e (0,0)):=hh
 cases hv with
 | cons _ v0 _ vs0 hv0 hvs=>
 cases hvs with
 | cons _ v1 _ vs1 hv1 hvs1=>
 cases hvs1
 cases hv0 with
 | ptr _ _ g2 _ hg2=>
 have hg2:blk (m i)=some g2:=hg2
 rw [hmi] at hg2
 cases hg2
 cases hl with
 | cons _ a0 _ r0 ha0 _ hl=>
 cases ha0
 refine (Ko ⟨g,0,none⟩ v1 w (by simp [World.cell?,hh'])).mono ?_
 rintro e1 w' ⟨rfl,rfl⟩
 exact ⟨_,rfl,.tup [],s,h,m,hm.hold (.tup [] [] .nil)⟩
end Go.Fv.E
/- (*strings.Replacer).Replace, the first time and later; NewReplacer. -/
namespace Go.Fv.E
open Go Go.Proofs
def Ey:List (Nat × Item):=[(0,.box 75 [.int .u32 1,.int .i32 0,.int .u32 0,.ifc 119 (.ptr 1 0),.nilS]),(1,.box 118 (jZ (.own 2) (.own 3) (.own 4) (.own 5))),(2,.row 5 (.ints .u8 [92,110])),(3,.row 5 (.ints .u8 [92,115])),(4,.row 5 (.ints .u8 [92,92])),(5,.row 9 (.strs [[10],[32],[92]]))]
theorem EY:∀ j,j<6→∃ it,lk Ey j=some it:=fun j hj=>by
 rcases (by omega:j=0∨j=1∨j=2∨j=3∨j=4∨j=5) with rfl|rfl|rfl|rfl|rfl|rfl<;>exact ⟨_,rfl⟩
theorem NP:Jd Tryz.prog 119 "Replace" = some 150:=by kernel_rfl
theorem LC:Lh Tryz.prog 119 "Replace" 150:=fun _ _=>by kernel_rfl
set_option maxHeartbeats 4000000 in
theorem mG (s:List UInt8) (hs:s.length≤3):fV Tryz.prog 17 [.ptr 0 0,.str s] Ey 6 (.str (aY s)) Ey:=by
 have k:=pI s hs
 refine fV.bT Tryz.func17 rfl (by decide) (by simp [Tryz.f17]) EY [.tmp 4] rfl fun w0 T0 _=>?_
 simp only [Tryz.f17,aI,Ey]
 (repeat' with_reducible first|intro _|exact dn|refine rn ?_|refine ra ?_ ?_)
 refine ah.L9 rfl ?_
 (repeat' with_reducible first|intro _|refine rz ?_|refine ra ?_ ?_|omega|simp only [go_sem,NP,LC])
 refine ah.i [1,2,3,4,5] k 5 ?_ (hcov:=Ig) (h0:=by simp [qZ,fP,jg,lk,Item.ren,Item.below,ren,dh,aA,Fv.below,iT,aW,aT,aC]) (hNr:=by simp [qZ,dw,Item.below,Fv.below,aA,aW,aC])
 (repeat' with_reducible first|intro _|refine rz ?_|refine ra ?_ ?_|omega|simp only [go_sem,qZ,aT])
 refine jd.of [] 6 (fun x hx=>by cases hx) (by decide) ?_ rfl ?_<;>simp only [go_sem,Int.natCast_succ,Ey,aT,aC,jg]
 all_goals trace_state
set_option maxHeartbeats 4000000 in
theorem kX (s:List UInt8) (hs:s.length≤3):fV Tryz.prog 17 [.ptr 0 0,.str s] (nK 0) 2 (.str (aY s)) (MS 1 0):=by
 have k:=pI s hs
 have kb:=zq
 refine fV.bT Tryz.func17 rfl (by decide) (by simp [Tryz.f17]) (fun j hj=>by rcases (by omega:j=0∨j=1) with rfl|rfl<;>exact ⟨_,rfl⟩) [.tmp 4] rfl fun w0 T0 _=>?_
 simp only [Tryz.f17,aI]
 unfold nK MS at *
 (repeat' with_reducible first|intro _|exact dn|refine rn ?_|refine ra ?_ ?_)
 refine ah.Kq rfl ?_
 simp only [go_sem]
 refine ah.i [0,1] kb 7 ?_ (hNr:=by simp [dw,Item.below,Fv.below,aA,aW,aC])
 (repeat' with_reducible first|intro _|refine rz ?_|refine ra ?_ ?_|omega|simp only [go_sem,aT])
 refine ⟨_,rfl,?_⟩
 (repeat' with_reducible first|intro _|refine rz ?_|refine ra ?_ ?_|omega|simp only [go_sem,NP,LC,aT])
 refine ah.i [2,3,4,5,6] k 5 ?_ (hcov:=Ig) (h0:=by simp [qZ,fP,jg,lk,Item.ren,Item.below,ren,dh,aA,Fv.below,iT,aW,aT,aC]) (hNr:=by simp [qZ,dw,Item.below,Fv.below,aA,aW,aC])
 (repeat' with_reducible first|intro _|refine rz ?_|refine ra ?_ ?_|omega|simp only [go_sem,qZ,aT])
 refine jd.of [] 7 (fun x hx=>by cases hx) (by decide) ?_ rfl ?_<;>simp only [go_sem,Int.natCast_succ,MS,aT,aC,jg]
 all_goals trace_state
theorem l9:aU Tryz.prog 15 [.ro (.strs rO)] (.ptr 0 0) (nK 0):=by
 refine aU.bT Tryz.func15 rfl (by decide) (by simp [Tryz.f15]) [.tmp 2] rfl fun w0 T0 _=>?_
 simp only [Tryz.f15,aI]
 have hl:rO.length=6:=rfl
 (repeat' with_reducible first|intro _|refine rz ?_|refine ra ?_ ?_|omega|simp only [go_sem,hl])
 refine dJ.of [(0,2),(1,1)] 2 ?_ rfl ?_<;>simp only [go_sem,Int.natCast_succ,Post,nK]
 all_goals trace_state
end Go.Fv.E
