/-
  A part of the proof of the claim: walks over the program's functions and the plain laws that these need. No condition of its own.
-/
import Derived.Test.YtbdhkdcppljmnaaDoorFvPart11
import Derived.Test.YtbdhkdcppljmnaaDoorProg
import Derived.Test.YtbdhkdcppljmnaaDoorFvPart10
set_option linter.unusedSimpArgs false
set_option linter.unusedVariables false
set_option maxRecDepth 8000
set_option linter.unnecessarySimpa false
/- Facts about the program's types: each shown by reckoning it out. -/
namespace Go.Fv.R
open Go Go.Proofs
theorem e1:bg Tryd.prog 1 (.nilFunc):=.of (by kernel_rfl) (by kernel_rfl)
theorem c1:Tryd.prog.cellsOf 1=1:=e1.cellsOf
theorem e2:bg Tryd.prog 2 (.int .i64 0):=.of (by kernel_rfl) (by kernel_rfl)
theorem c2:Tryd.prog.cellsOf 2=1:=e2.cellsOf
theorem e3:bg Tryd.prog 3 (.int .i64 0):=.of (by kernel_rfl) (by kernel_rfl)
theorem z3:zeroOf Tryd.prog 3=some (.int .i64 0):=e3.zero
theorem c3:Tryd.prog.cellsOf 3=1:=e3.cellsOf
theorem e4:bg Tryd.prog 4 (.bool false):=.of (by kernel_rfl) (by kernel_rfl)
theorem z4:zeroOf Tryd.prog 4=some (.bool false):=e4.zero
theorem c4:Tryd.prog.cellsOf 4=1:=e4.cellsOf
theorem e5:bg Tryd.prog 5 (.int .u8 0):=.of (by kernel_rfl) (by kernel_rfl)
theorem z5:zeroOf Tryd.prog 5=some (.int .u8 0):=e5.zero
theorem c5:Tryd.prog.cellsOf 5=1:=e5.cellsOf
theorem e6:bg Tryd.prog 6 (.int .u8 0):=.of (by kernel_rfl) (by kernel_rfl)
theorem e9:bg Tryd.prog 9 (.string ⟨#[]⟩):=.of (by kernel_rfl) (by kernel_rfl)
theorem z9:zeroOf Tryd.prog 9=some (.string ⟨#[]⟩):=e9.zero
theorem c9:Tryd.prog.cellsOf 9=1:=e9.cellsOf
theorem e12:bg Tryd.prog 12 (.int .u64 0):=.of (by kernel_rfl) (by kernel_rfl)
theorem e17:bg Tryd.prog 17 (.pointer none):=.of (by kernel_rfl) (by kernel_rfl)
theorem e22:bg Tryd.prog 22 (.slice none 0 0):=.of (by kernel_rfl) (by kernel_rfl)
theorem z22:zeroOf Tryd.prog 22=some (.slice none 0 0):=e22.zero
theorem QT:Tryd.prog.cellsOf 22=1:=e22.cellsOf
theorem e26:bg Tryd.prog 26 (.int .i64 0):=.of (by kernel_rfl) (by kernel_rfl)
theorem z26:zeroOf Tryd.prog 26=some (.int .i64 0):=e26.zero
theorem QU:Tryd.prog.cellsOf 26=1:=e26.cellsOf
theorem e34:bg Tryd.prog 34 (.slice none 0 0):=.of (by kernel_rfl) (by kernel_rfl)
theorem c34:Tryd.prog.cellsOf 34=1:=e34.cellsOf
theorem e36:bg Tryd.prog 36 (.agg #[.string ⟨#[]⟩,.slice none 0 0,.string ⟨#[]⟩]):=.of (by kernel_rfl) (by kernel_rfl)
theorem z36:zeroOf Tryd.prog 36=some (.agg #[.string ⟨#[]⟩,.slice none 0 0,.string ⟨#[]⟩]):=e36.zero
theorem QD:Tryd.prog.cellsOf 36=3:=e36.cellsOf
theorem e37:bg Tryd.prog 37 (.nilFunc):=.of (by kernel_rfl) (by kernel_rfl)
theorem z37:zeroOf Tryd.prog 37=some (.nilFunc):=e37.zero
theorem e38:bg Tryd.prog 38 (.pointer none):=.of (by kernel_rfl) (by kernel_rfl)
theorem e39:bg Tryd.prog 39 (.slice none 0 0):=.of (by kernel_rfl) (by kernel_rfl)
theorem QW:Tryd.prog.cellsOf 39=1:=e39.cellsOf
theorem e41:bg Tryd.prog 41 (.agg #[.pointer none,.slice none 0 0]):=.of (by kernel_rfl) (by kernel_rfl)
theorem z41:zeroOf Tryd.prog 41=some (.agg #[.pointer none,.slice none 0 0]):=e41.zero
theorem e46:bg Tryd.prog 46 (.nilFunc):=.of (by kernel_rfl) (by kernel_rfl)
theorem z46:zeroOf Tryd.prog 46=some (.nilFunc):=e46.zero
theorem Q8:bg Tryd.prog 70 (.nilFunc):=.of (by kernel_rfl) (by kernel_rfl)
theorem z70:zeroOf Tryd.prog 70=some (.nilFunc):=Q8.zero
theorem QF:bg Tryd.prog 80 (.slice none 0 0):=.of (by kernel_rfl) (by kernel_rfl)
theorem z80:zeroOf Tryd.prog 80=some (.slice none 0 0):=QF.zero
theorem c80:Tryd.prog.cellsOf 80=1:=QF.cellsOf
theorem PX:bg Tryd.prog 83 (.agg #[.string ⟨#[]⟩,.bool false]):=.of (by kernel_rfl) (by kernel_rfl)
theorem z83:zeroOf Tryd.prog 83=some (.agg #[.string ⟨#[]⟩,.bool false]):=PX.zero
theorem QX:Tryd.prog.cellsOf 83=2:=PX.cellsOf
theorem f7:bW Tryd.prog 7:=by
 intro d hd;rw [Tryd.underlying7] at hd;cases hd
 intro f hf;simp only [List.mem_cons,List.not_mem_nil,or_false] at hf
 rcases hf with rfl|rfl|rfl|rfl
 ·obtain ⟨i,h,_⟩:=e2.ex;exact ⟨i,h⟩
 ·obtain ⟨i,h,_⟩:=e3.ex;exact ⟨i,h⟩
 ·obtain ⟨i,h,_⟩:=e4.ex;exact ⟨i,h⟩
 ·obtain ⟨i,h,_⟩:=e6.ex;exact ⟨i,h⟩
theorem f8:bW Tryd.prog 8:=by
 intro d hd;rw [Tryd.underlying8] at hd;cases hd
 intro f hf;simp only [List.mem_cons,List.not_mem_nil,or_false] at hf
 rcases hf with rfl|rfl|rfl|rfl
 ·obtain ⟨i,h,_⟩:=e2.ex;exact ⟨i,h⟩
 ·obtain ⟨i,h,_⟩:=e3.ex;exact ⟨i,h⟩
 ·obtain ⟨i,h,_⟩:=e4.ex;exact ⟨i,h⟩
 ·obtain ⟨i,h,_⟩:=e6.ex;exact ⟨i,h⟩
theorem f13:bW Tryd.prog 13:=by
 intro d hd;rw [Tryd.underlying13] at hd;cases hd
 intro f hf;simp only [List.mem_cons,List.not_mem_nil,or_false] at hf
 rcases hf with rfl|rfl
 ·obtain ⟨i,h,_⟩:=e9.ex;exact ⟨i,h⟩
 ·obtain ⟨i,h,_⟩:=e12.ex;exact ⟨i,h⟩
theorem f14:bW Tryd.prog 14:=by
 intro d hd;rw [Tryd.underlying14] at hd;cases hd
 intro f hf;simp only [List.mem_cons,List.not_mem_nil,or_false] at hf
 rcases hf with rfl|rfl
 ·obtain ⟨i,h,_⟩:=e9.ex;exact ⟨i,h⟩
 ·obtain ⟨i,h,_⟩:=e12.ex;exact ⟨i,h⟩
theorem f18:bW Tryd.prog 18:=by
 intro d hd;rw [Tryd.underlying18] at hd;cases hd
 intro f hf;simp only [List.mem_cons,List.not_mem_nil,or_false] at hf
 rcases hf with rfl
 ·obtain ⟨i,h,_⟩:=e17.ex;exact ⟨i,h⟩
theorem f19:bW Tryd.prog 19:=by
 intro d hd;rw [Tryd.underlying19] at hd;cases hd
 intro f hf;simp only [List.mem_cons,List.not_mem_nil,or_false] at hf
 rcases hf with rfl
 ·obtain ⟨i,h,_⟩:=e17.ex;exact ⟨i,h⟩
theorem f35:bW Tryd.prog 35:=by
 intro d hd;rw [Tryd.underlying35] at hd;cases hd
 intro f hf;simp only [List.mem_cons,List.not_mem_nil,or_false] at hf
 rcases hf with rfl|rfl|rfl
 ·obtain ⟨i,h,_⟩:=e9.ex;exact ⟨i,h⟩
 ·obtain ⟨i,h,_⟩:=e34.ex;exact ⟨i,h⟩
 ·obtain ⟨i,h,_⟩:=e9.ex;exact ⟨i,h⟩
theorem f36:bW Tryd.prog 36:=by
 intro d hd;rw [Tryd.underlying36] at hd;cases hd
 intro f hf;simp only [List.mem_cons,List.not_mem_nil,or_false] at hf
 rcases hf with rfl|rfl|rfl
 ·obtain ⟨i,h,_⟩:=e9.ex;exact ⟨i,h⟩
 ·obtain ⟨i,h,_⟩:=e34.ex;exact ⟨i,h⟩
 ·obtain ⟨i,h,_⟩:=e9.ex;exact ⟨i,h⟩
theorem f40:bW Tryd.prog 40:=by
 intro d hd;rw [Tryd.underlying40] at hd;cases hd
 intro f hf;simp only [List.mem_cons,List.not_mem_nil,or_false] at hf
 rcases hf with rfl|rfl
 ·obtain ⟨i,h,_⟩:=e38.ex;exact ⟨i,h⟩
 ·obtain ⟨i,h,_⟩:=e39.ex;exact ⟨i,h⟩
theorem f41:bW Tryd.prog 41:=by
 intro d hd;rw [Tryd.underlying41] at hd;cases hd
 intro f hf;simp only [List.mem_cons,List.not_mem_nil,or_false] at hf
 rcases hf with rfl|rfl
 ·obtain ⟨i,h,_⟩:=e38.ex;exact ⟨i,h⟩
 ·obtain ⟨i,h,_⟩:=e39.ex;exact ⟨i,h⟩
theorem f83:bW Tryd.prog 83:=by
 intro d hd;rw [Tryd.underlying83] at hd;cases hd
 intro f hf;simp only [List.mem_cons,List.not_mem_nil,or_false] at hf
 rcases hf with rfl|rfl
 ·obtain ⟨i,h,_⟩:=e9.ex;exact ⟨i,h⟩
 ·obtain ⟨i,h,_⟩:=e4.ex;exact ⟨i,h⟩
theorem k1 {K:Prop}:aS (bg Tryd.prog 1 (.nilFunc)) K=K:=vZ e1
theorem k2 {K:Prop}:aS (bg Tryd.prog 2 (.int .i64 0)) K=K:=vZ e2
theorem k3 {K:Prop}:aS (bg Tryd.prog 3 (.int .i64 0)) K=K:=vZ e3
theorem k4 {K:Prop}:aS (bg Tryd.prog 4 (.bool false)) K=K:=vZ e4
theorem k5 {K:Prop}:aS (bg Tryd.prog 5 (.int .u8 0)) K=K:=vZ e5
theorem Q9:(bg Tryd.prog 5 (.int .u8 0))=True:=eq_true e5
theorem Rf:(bg Tryd.prog 9 (.string ⟨#[]⟩))=True:=eq_true e9
theorem Qi:(bg Tryd.prog 22 (.slice none 0 0))=True:=eq_true e22
theorem Qj:(bg Tryd.prog 26 (.int .i64 0))=True:=eq_true e26
theorem Qk:(bg Tryd.prog 36 (.agg #[.string ⟨#[]⟩,.slice none 0 0,.string ⟨#[]⟩]))=True:=eq_true e36
theorem Ql:(bg Tryd.prog 83 (.agg #[.string ⟨#[]⟩,.bool false]))=True:=eq_true PX
theorem Qm:(bW Tryd.prog 36)=True:=eq_true f36
theorem Qn:(bW Tryd.prog 83)=True:=eq_true f83
attribute [go_sem] Tryd.underlying0 Tryd.underlying1 Tryd.underlying2 Tryd.underlying3 Tryd.underlying4 Tryd.underlying5 Tryd.underlying6 Tryd.underlying7 Tryd.underlying8 Tryd.underlying9
attribute [go_sem] Tryd.underlying10 Tryd.underlying11 Tryd.underlying12 Tryd.underlying13 Tryd.underlying14 Tryd.underlying15 Tryd.underlying16 Tryd.underlying17 Tryd.underlying18 Tryd.underlying19 Tryd.underlying20 Tryd.underlying21
attribute [go_sem] Tryd.underlying22 Tryd.underlying23 Tryd.underlying24 Tryd.underlying25 Tryd.underlying26 Tryd.underlying27 Tryd.underlying28 Tryd.underlying29 Tryd.underlying30 Tryd.underlying31 Tryd.underlying32 Tryd.underlying33
attribute [go_sem] Tryd.underlying34 Tryd.underlying35 Tryd.underlying36 Tryd.underlying37 Tryd.underlying38 Tryd.underlying39 Tryd.underlying40 Tryd.underlying41 Tryd.underlying42 Tryd.underlying43 Tryd.underlying44 Tryd.underlying45
attribute [go_sem] Tryd.underlying46 Tryd.underlying47 Tryd.underlying48 Tryd.underlying49 Tryd.underlying50 Tryd.underlying51 Tryd.underlying52 Tryd.underlying53 Tryd.underlying54 Tryd.underlying55 Tryd.underlying56 Tryd.underlying57
attribute [go_sem] Tryd.underlying58 Tryd.underlying59 Tryd.underlying60 Tryd.underlying61 Tryd.underlying62 Tryd.underlying63 Tryd.underlying64 Tryd.underlying65 Tryd.underlying66 Tryd.underlying67 Tryd.underlying68 Tryd.underlying69
attribute [go_sem] Tryd.underlying70 Tryd.underlying71 Tryd.underlying72 Tryd.underlying73 Tryd.underlying74 Tryd.underlying75 Tryd.underlying76 Tryd.underlying77 Tryd.underlying78 Tryd.underlying79 Tryd.underlying80 Tryd.underlying81
attribute [go_sem] Tryd.underlying82 Tryd.underlying83 Tryd.underlying84 Tryd.underlying85 Tryd.underlying86 Tryd.underlying87 Tryd.underlying88 Tryd.underlying89 Tryd.underlying90 Tryd.underlying91 Tryd.underlying92 Tryd.underlying93
attribute [go_sem] Tryd.underlying94 Tryd.underlying95 Tryd.underlying96 Tryd.underlying97 Tryd.underlying98 Tryd.underlying99 Tryd.underlying100 Tryd.underlying101 Tryd.underlying102 Tryd.underlying103 Tryd.underlying104 Tryd.underlying105
attribute [go_sem] Tryd.underlying106 Tryd.underlying107 Tryd.underlying108 Tryd.underlying109 Tryd.underlying110 Tryd.underlying111 Tryd.underlying112 Tryd.underlying113 Tryd.underlying114 Tryd.underlying115 Tryd.underlying116 Tryd.underlying117
attribute [go_sem] Tryd.underlying118 k1 c1 k2 c2 k3 z3
attribute [go_sem] c3 k4 z4 c4 k5 Q9 z5 c5
attribute [go_sem] Rf z9
attribute [go_sem] c9
attribute [go_sem] Qi z22 QT
attribute [go_sem] Qj z26 QU
attribute [go_sem] c34
attribute [go_sem] Qk z36 QD z37
attribute [go_sem] QW z41
attribute [go_sem] z46
attribute [go_sem] z70
attribute [go_sem] z80 c80
attribute [go_sem] Ql z83 QX
attribute [go_sem] Qm
attribute [go_sem] Qn
set_option maxHeartbeats 1000000 in
theorem AP (a b:List (List UInt8)):aC Tryd.prog 22 [.ro (.strs a),.ro (.strs b)] (.bool (decide (a=b))) []:=by
 refine aC.aO Tryd.func22 rfl (by decide) (by simp [Tryd.f22]) [.tmp 4] rfl fun w0 T0 _=>?_
 simp only [Tryd.f22,aB]
 simp only [go_sem]
 refine yJ.intro fun _=>yJ.intro fun _=>Ite.decide (fun h=>?_) fun h=>?_
 ·simp only [go_sem]
  refine aZ.auto 0 ?_ rfl (by simp [fM])
  have:a≠b:=by intro e;subst e;exact h rfl
  simp only [go_sem,Int.natCast_succ,Post,this,decide_false,decide_true]
 have hl:a.length=b.length:=by omega
 simp only [go_sem]
 refine yJ.intro fun _=>aU.intro (fun i:Nat=>⟨26,[(0,.ro (.strs a)),(1,.ro (.strs b)),(12,.int .i64 a.length),(13,.int .i64 i)],[],0⟩) (fun i=>i≤a.length∧∀ j,j<i→a.getD j []=b.getD j []) (fun i=>a.length - i) 0 ?_ ⟨by omega,fun j hj=>by omega⟩ fun i hi=>?_
 ·refine bC.aA rfl ?_ ?_<;>simp only [go_sem,Int.natCast_succ]
 simp only [go_sem]
 refine Ite.decide (fun h1=>?_) (fun h1=>?_)
 ·simp only [go_sem]
  refine dN.lex [] [] (by kernel_rfl) (by kernel_rfl) ?_
  simp only [go_sem]
  (repeat' first|(with_reducible refine yJ.intro fun _=>?_)|((with_reducible refine aS.intro ?_ ?_);(· first|omega|(with_reducible refine aS.intro ?_ ?_<;>omega)|(simp;done)|(simp;omega)))|((with_reducible refine dU.i64 ?_ ?_ ?_);(· omega);(· omega))|((with_reducible refine Ite.decide (fun _=>?_) (fun _=>?_))<;>first|(exfalso;omega)|simp only [go_sem])|((with_reducible refine Ite.bool (fun _=>?_) (fun _=>?_))<;>simp only [go_sem])|(with_reducible refine And.intro ?_ ?_))
  ·rename_i h2
   refine aZ.auto 0 ?_ rfl (by simp [fM])
   have:a≠b:=by intro e;subst e;exact h2 rfl
   simp only [go_sem,Int.natCast_succ,Post,this]
  ·rename_i h2
   refine ⟨i+1,bC.aA rfl ?_ ?_,⟨by omega,fun j hj=>?_⟩,by omega⟩
   ·simp only [go_sem,Int.natCast_succ]
    all_goals omega
   ·simp only [go_sem,Int.natCast_succ]
   ·by_cases e:j=i
    ·subst e;exact Decidable.of_not_not h2
    ·exact hi.2 j (by omega)
 ·simp only [go_sem]
  refine aZ.auto 0 ?_ rfl (by simp [fM])
  have:a=b:=FI [] hl fun j hj=>hi.2 j (by omega)
  simp only [go_sem,Int.natCast_succ,Post,this,decide_false,decide_true]
theorem lN (b:Bool) (e:Int):aC Tryd.prog 27 [.bool b,.int .i64 e] (.int .i64 (if b=true then e else 0)) []:=by
 refine aC.aO Tryd.func27 rfl (by decide) (by simp [Tryd.f27]) [.tmp 4] rfl fun w0 T0 _=>?_
 simp only [Tryd.f27,aB]
 cases b<;>simp only [go_sem]<;>(refine aZ.auto 0 ?_ rfl ?_<;>simp only [go_sem,Int.natCast_succ,Post])
def aG:List Int→Int
 | []=>0
 | e::l=>if e=0 then aG l else e
set_option maxHeartbeats 2000000 in
theorem mM (l:List Int) (hl:l.length≤1000):aC Tryd.prog 26 [.ro (.ints .i64 l)] (.int .i64 (aG l)) []:=by
 refine aC.aO Tryd.func26 rfl (by decide) (by simp [Tryd.f26]) [.tmp 2] rfl fun w0 T0 _=>?_
 simp only [Tryd.f26,aB]
 (repeat' with_reducible first|intro _|exact dn|refine rn ?_|refine ra ?_ ?_)
 refine aU.intro (fun i:Nat=>⟨15,[(7,.int .i64 i),(6,.int .i64 l.length),(5,.ro (.ints .i64 l))],[],0⟩) (fun i=>i≤l.length∧aG (l.drop i)=aG l) (fun i=>l.length - i) 0 ?_ ⟨Nat.zero_le _,rfl⟩ fun i hi=>?_
 ·refine bC.aA rfl ?_ ?_<;>simp only [go_sem,Int.natCast_succ]
 obtain ⟨hi,he⟩:=hi
 (repeat' with_reducible first|intro _|exact dn|refine rn ?_|refine ra ?_ ?_)
 ·have hlt:i<l.length:=by omega
  have hd:l.drop i=l.getD i 0::l.drop (i+1):=by rw [List.drop_eq_getElem_cons hlt,getD_lt hlt]
  rw [hd,aG,if_neg (by omega)] at he
  rw [←he]
  refine aZ.auto 0 ?_ rfl ?_<;>simp only [go_sem,Int.natCast_succ,Post]
 ·have hlt:i<l.length:=by omega
  have hd:l.drop i=l.getD i 0::l.drop (i+1):=by rw [List.drop_eq_getElem_cons hlt,getD_lt hlt]
  rw [hd,aG,if_pos (by omega)] at he
  refine ⟨i+1,bC.aA rfl ?_ ?_,⟨by omega,he⟩,by omega⟩<;>simp only [go_sem,Int.natCast_succ]
  all_goals rfl
 ·have e:i=l.length:=by omega
  subst e
  rw [List.drop_length] at he
  rw [←he]
  refine aZ.auto 0 ?_ rfl ?_<;>simp only [go_sem,Int.natCast_succ,Post,aG]
structure Sh where
 W:Int
 H:Int
 p:List Bool
 codes:List (List UInt8)
 text:List UInt8
def Sh.av (s:Sh):List AV:=[.int .i64 s.W,.int .i64 s.H,.ro (.bools s.p),.ro (.strs s.codes),.str s.text]
def Sh.zero:Sh:=⟨0,0,[],[],[]⟩
instance:CZ Sh.av:=⟨fun _=>rfl⟩
def codeOk (c:List UInt8):Bool:=decide (c.length≤80) && c.all fun b=>decide (32≤b.toNat∧b.toNat≤126)
end Go.Fv.R
/- Tokens of a text: what Split and its reference compute, in plain words. -/
namespace Go.Fv.R
open Go
abbrev Bytes:=List UInt8
def yI (c:UInt8):Bool:=decide (97≤c.toNat) && decide (c.toNat≤122) || decide (65≤c.toNat) && decide (c.toNat≤90) || decide (128≤c.toNat)
def fV (c:UInt8):Bool:=yI c || decide (c=39)
def qu (c:UInt8):Bool:=decide (c=39)
def uX (t:Bytes):Bytes:=t.takeWhile qu
def bV (t:Bytes):Bytes:=t.dropWhile qu
def fO (t:Bytes):Bytes:=(t.reverse.dropWhile qu).reverse
def rE (t:Bytes):Bytes:=(t.reverse.takeWhile qu).reverse
def dA (t:Bytes):Bytes:=fO (bV t)
def eG (s:Bytes):Bool:=decide (s≠[]) && decide (s.length≤40) && yI (s.headD 0) && yI (s.getLastD 0) && s.all fV
abbrev Tok:=Bytes × Bool
def flush (out:List Tok) (btw:Bytes):List Tok:=if btw=[] then out else out++[(btw,false)]
theorem kR {α:Type} (p:α→Bool) (l:List α):(l.takeWhile p).length+(l.dropWhile p).length=l.length:=by
 conv=>rhs;rw [←List.takeWhile_append_dropWhile (p:=p) (l:=l)]
 rw [List.length_append]
theorem vI {c:UInt8} {s:Bytes} (h:fV c=true):((c::s).dropWhile fV).length<(c::s).length:=by
 have:=kR fV (c::s)
 have h2:0<((c::s).takeWhile fV).length:=by simp [List.takeWhile_cons,h]
 omega
def toks (s btw:Bytes) (out:List Tok):List Tok:=
 match s with
 | []=>flush out btw
 | c::s'=>if h:fV c=true then
   if eG (dA ((c::s').takeWhile fV))=true then
    toks ((c::s').dropWhile fV) (rE (bV ((c::s').takeWhile fV))) (flush out (btw++uX ((c::s').takeWhile fV))++[(dA ((c::s').takeWhile fV),true)])
   else toks ((c::s').dropWhile fV) (btw++(c::s').takeWhile fV) out
  else toks s' (btw++[c]) out
termination_by s.length
decreasing_by
 ·exact vI h
 ·exact vI h
 ·simp
theorem kT (btw:Bytes) (out:List Tok):toks [] btw out=flush out btw:=by unfold toks;rfl
theorem qo {c:UInt8} {s:Bytes} (h:fV c=false) (btw:Bytes) (out:List Tok):toks (c::s) btw out=toks s (btw++[c]) out:=by
 rw [toks];simp [h]
theorem oN {c:UInt8} {s:Bytes} (h:fV c=true) (btw:Bytes) (out:List Tok) (hw:eG (dA ((c::s).takeWhile fV))=true) :
  toks (c::s) btw out=toks ((c::s).dropWhile fV) (rE (bV ((c::s).takeWhile fV))) (flush out (btw++uX ((c::s).takeWhile fV))++[(dA ((c::s).takeWhile fV),true)]):=by
 rw [toks,dif_pos h,if_pos hw]
theorem xY {c:UInt8} {s:Bytes} (h:fV c=true) (btw:Bytes) (out:List Tok) (hw:¬eG (dA ((c::s).takeWhile fV))=true) :
  toks (c::s) btw out=toks ((c::s).dropWhile fV) (btw++(c::s).takeWhile fV) out:=by
 rw [toks,dif_pos h,if_neg hw]
def textOf (l:List Tok):Bytes:=(l.map (·.1)).flatten
theorem Gm (a b:List Tok):textOf (a++b)=textOf a++textOf b:=by simp [textOf]
theorem lI (out:List Tok) (btw:Bytes):textOf (flush out btw)=textOf out++btw:=by
 unfold flush;split
 ·rename_i h;simp [h]
 ·simp [textOf]
theorem KO (t:Bytes):uX t++bV t=t:=List.takeWhile_append_dropWhile
theorem Ec (t:Bytes):fO t++rE t=t:=by
 have h:=List.takeWhile_append_dropWhile (p:=qu) (l:=t.reverse)
 have:=congrArg List.reverse h
 rw [List.reverse_append,List.reverse_reverse] at this
 exact this
theorem three (t:Bytes):uX t++(dA t++rE (bV t))=t:=by
 unfold dA;rw [Ec,KO]
theorem oM:∀ (n:Nat) (s btw:Bytes) (out:List Tok),s.length≤n→textOf (toks s btw out)=textOf out++btw++s
 | 0,s,btw,out,h=>by
  have:s=[]:=List.eq_nil_of_length_eq_zero (by omega)
  subst this
  rw [kT,lI];simp
 | n+1,[],btw,out,h=>by rw [kT,lI];simp
 | n+1,c::s,btw,out,h=>by
  cases hc:fV c with
  | false=>
   rw [qo hc,oM n _ _ _ (by simpa using h)]
   simp
  | true=>
   have hd:=vI (s:=s) hc
   have hj:(c::s).takeWhile fV++(c::s).dropWhile fV=c::s:=List.takeWhile_append_dropWhile
   have h3:=three ((c::s).takeWhile fV)
   by_cases hw:eG (dA ((c::s).takeWhile fV))=true
   ·rw [oN hc _ _ hw,oM n _ _ _ (by omega),Gm,lI]
    have e:textOf [(dA ((c::s).takeWhile fV),true)]=dA ((c::s).takeWhile fV):=by simp [textOf]
    rw [e]
    have key:=congrArg (·++(c::s).dropWhile fV) h3
    simp only [List.append_assoc] at key ⊢
    rw [key,hj]
   ·rw [xY hc _ _ hw,oM n _ _ _ (by omega)]
    conv=>rhs;rw [←hj]
    simp only [List.append_assoc]
end Go.Fv.R
/- A text is one word just where its tokens are that word alone; small letters. -/
namespace Go.Fv.R
open Go
theorem FQ {c:UInt8} (h:yI c=true):qu c=false:=by
 cases hq:qu c with
 | false=>rfl
 | true=>
  have:c=39:=of_decide_eq_true hq
  subst this;revert h;decide
theorem lC {s:Bytes} (h:eG s=true):s≠[]∧yI (s.headD 0)=true∧yI (s.getLastD 0)=true∧s.all fV=true:=by
 unfold eG at h
 simp only [Bool.and_eq_true,decide_eq_true_eq] at h
 exact ⟨h.1.1.1.1,h.1.1.2,h.1.2,h.2⟩
theorem Dy {s:Bytes} (h:eG s=true):bV s=s:=by
 obtain ⟨h0,h1,_,_⟩:=lC h
 cases s with
 | nil=>exact absurd rfl h0
 | cons c t=>simp [bV,List.dropWhile_cons,FQ (show yI c=true from h1)]
theorem Nv {s:Bytes} (h:eG s=true):uX s=[]:=by
 obtain ⟨h0,h1,_,_⟩:=lC h
 cases s with
 | nil=>rfl
 | cons c t=>simp [uX,List.takeWhile_cons,FQ (show yI c=true from h1)]
theorem Lc {s:Bytes} (h0:s≠[]):∃ t,s.reverse=s.getLastD 0::t:=by
 rcases List.eq_nil_or_concat s with rfl|⟨t,c,rfl⟩
 ·exact absurd rfl h0
 ·exact ⟨t.reverse,by simp⟩
theorem Dz {s:Bytes} (h:eG s=true):fO s=s∧rE s=[]:=by
 obtain ⟨h0,_,h1,_⟩:=lC h
 obtain ⟨t,ht⟩:=Lc h0
 unfold fO rE
 rw [ht,List.dropWhile_cons,List.takeWhile_cons,FQ h1]
 simp only [Bool.false_eq_true,if_false,List.reverse_nil,and_true]
 rw [←ht,List.reverse_reverse]
theorem H6 {s:Bytes} (h:eG s=true):dA s=s:=by unfold dA;rw [Dy h,(Dz h).1]
theorem o8 {p:UInt8→Bool}:∀ {s:Bytes},s.all p=true→s.takeWhile p=s∧s.dropWhile p=[]
 | [],_=>⟨rfl,rfl⟩
 | c::t,h=>by
  rw [List.all_cons,Bool.and_eq_true] at h
  have ih:=o8 h.2
  rw [List.takeWhile_cons,List.dropWhile_cons,if_pos h.1,if_pos h.1,ih.1,ih.2];exact ⟨rfl,rfl⟩
theorem NQ {s:Bytes} (h:eG s=true):toks s [] []=[(s,true)]:=by
 obtain ⟨h0,_,_,ha⟩:=lC h
 cases s with
 | nil=>exact absurd rfl h0
 | cons c t=>
  have hc:fV c=true:=by rw [List.all_cons,Bool.and_eq_true] at ha;exact ha.1
  obtain ⟨e1,e2⟩:=o8 ha
  rw [oN hc _ _ (by rw [e1,H6 h];exact h),e1,e2,kT,H6 h,Dy h,(Dz h).2,Nv h]
  rfl
def jO (l:List Tok):Prop:=∀ t,t∈l→t.2=true→eG t.1=true
theorem jO.flush {l:List Tok} (h:jO l) (b:Bytes):jO (flush l b):=by
 unfold Go.Fv.R.flush
 split
 ·exact h
 ·intro t ht hw
  rcases List.mem_append.1 ht with h1|h1
  ·exact h t h1 hw
  ·simp at h1;subst h1;cases hw
theorem jO.snoc {l:List Tok} (h:jO l) {w:Bytes} (hw:eG w=true):jO (l++[(w,true)]):=by
 intro t ht h2
 rcases List.mem_append.1 ht with h1|h1
 ·exact h t h1 h2
 ·simp at h1;subst h1;exact hw
theorem lJ:∀ (n:Nat) (s btw:Bytes) (out:List Tok),s.length≤n→jO out→jO (toks s btw out)
 | 0,s,btw,out,h,ho=>by
  have:s=[]:=List.eq_nil_of_length_eq_zero (by omega)
  subst this
  rw [kT];exact ho.flush _
 | n+1,[],btw,out,h,ho=>by rw [kT];exact ho.flush _
 | n+1,c::s,btw,out,h,ho=>by
  cases hc:fV c with
  | false=>rw [qo hc];exact lJ n _ _ _ (by simpa using h) ho
  | true=>
   have hd:=vI (s:=s) hc
   by_cases hw:eG (dA ((c::s).takeWhile fV))=true
   ·rw [oN hc _ _ hw];exact lJ n _ _ _ (by omega) ((ho.flush _).snoc hw)
   ·rw [xY hc _ _ hw];exact lJ n _ _ _ (by omega) ho
def qZ (l:List Tok):Bool:=match l with
 | [t]=>t.2
 | _=>false
theorem Ej (s:Bytes):qZ (toks s [] [])=eG s:=by
 cases h:eG s with
 | true=>rw [NQ h];rfl
 | false=>
  have hw:=lJ _ s [] [] (Nat.le_refl _) (fun t ht=>by cases ht)
  have ht:=oM _ s [] [] (Nat.le_refl _)
  generalize toks s [] []=l at *
  match l,hw,ht with
  | [],_,_=>rfl
  | [t],hw,ht=>
   have e:t.1=s:=by simpa [textOf] using ht
   cases h2:t.2 with
   | false=>exact h2
   | true=>rw [←e,hw t (by simp) h2] at h;cases h
  | _::_::_,_,_=>rfl
def ql (c:UInt8):UInt8:=if 65≤c.toNat∧c.toNat≤90 then c+32 else c
def nM (s:Bytes):Bytes:=s.map ql
open Go Go.Proofs
theorem FC {tab:List Bool} {n:Nat} (h:n<tab.length):(tab.map AV.bool).drop n=.bool (tab.getD n false)::(tab.map AV.bool).drop (n+1):=by
 rw [List.drop_eq_getElem_cons (by simpa using h)]
 simp [List.getD,h]
set_option maxHeartbeats 1000000 in
theorem Dw (tab:List Bool) (b:Int) (hl:tab.length=256) (h0:0≤b) (h1:b<256):aC Tryd.prog 66 [.cell (tab.map .bool),.int .u8 b] (.bool (tab.getD b.toNat false)) []:=by
 refine aC.aO Tryd.func66 rfl (by decide) (by simp [Tryd.f66]) [.tmp 4] rfl fun w0 T0 _=>?_
 simp only [Tryd.f66,aB]
 have hd:=FC (tab:=tab) (n:=b.toNat) (by omega)
 simp only [go_sem,Nat.mul_one,hd]
 (repeat' first|(with_reducible refine yJ.intro fun _=>?_)|((with_reducible refine aS.intro ?_ ?_);(· first|omega|(with_reducible refine aS.intro ?_ ?_<;>omega)|(simp;done)|(simp;omega)))|((with_reducible refine dU.i64 ?_ ?_ ?_);(· omega);(· omega))|((with_reducible refine Ite.decide (fun _=>?_) (fun _=>?_))<;>first|(exfalso;omega)|simp only [go_sem])|((with_reducible refine Ite.bool (fun _=>?_) (fun _=>?_))<;>simp only [go_sem])|(with_reducible refine And.intro ?_ ?_))
 refine aZ.auto 0 ?_ rfl ?_<;>simp only [go_sem,Int.natCast_succ,Post]
theorem z72:zeroOf Tryd.prog 72=some (.agg (Array.replicate 256 (.bool false))):=by kernel_rfl
theorem c72:Tryd.prog.cellsOf 72=256:=by kernel_rfl
attribute [go_sem] z72 c72
def bZ (s:List UInt8):Nat→List Bool
 | 0=>List.replicate 256 false
 | i+1=>(bZ s i).set (s.getD i 0).toNat true
theorem iK (s:List UInt8):∀ i,(bZ s i).length=256
 | 0=>by simp [bZ]
 | i+1=>by simp [bZ,iK s i]
set_option maxHeartbeats 1000000 in
theorem qW (s:List UInt8) (hs:∀ i,i<s.length→(s.getD i 0).toNat<128):aC Tryd.prog 47 [.str s] (.tup [.agg ((bZ s s.length).map .bool),.bool true]) []:=by
 refine aC.aO Tryd.func47 rfl (by decide) (by simp [Tryd.f47]) [.cell 2 72,.tmp 3] rfl fun w0 T0 _=>?_
 simp only [Tryd.f47,aB]
 simp only [go_sem]
 refine aU.intro (fun i:Nat=>⟨21,[(0,.str s),(2,.ptr 0 0),(4,.int .i64 i)],[(0,.box 72 ((bZ s i).map .bool))],1⟩) (fun i=>i≤s.length) (fun i=>s.length - i) 0 ?_ (Nat.zero_le _) fun i hi=>?_
 ·refine bC.aA rfl ?_ ?_<;>simp only [go_sem,Int.natCast_succ,bZ]
 have hlen:=iK s i
 simp only [go_sem]
 (repeat' first|(with_reducible refine yJ.intro fun _=>?_)|((with_reducible refine aS.intro ?_ ?_);(· first|omega|(with_reducible refine aS.intro ?_ ?_<;>omega)|(simp;done)|(simp;omega)))|((with_reducible refine dU.i64 ?_ ?_ ?_);(· omega);(· omega))|((with_reducible refine Ite.decide (fun _=>?_) (fun _=>?_))<;>first|(exfalso;omega)|simp only [go_sem])|((with_reducible refine Ite.bool (fun _=>?_) (fun _=>?_))<;>simp only [go_sem])|(with_reducible refine And.intro ?_ ?_))
 ·have:=hs i (by omega)
  omega
 ·refine ⟨i+1,bC.aA rfl ?_ ?_,by omega,by omega⟩
  ·simp only [go_sem,Int.natCast_succ]
  ·simp only [go_sem,Int.natCast_succ,bZ]
 ·have e:i=s.length:=by omega
  subst e
  have e2:((bZ s s.length).map AV.bool).take 256=(bZ s s.length).map AV.bool:=List.take_of_length_le (by simp [hlen])
  have e3:spl ((bZ s s.length).map AV.bool) 0 ((bZ s s.length).map AV.bool)=(bZ s s.length).map AV.bool:=BO rfl
  refine aZ.auto 0 ?_ ?_ ?_<;>simp only [go_sem,Int.natCast_succ,Post,e2,e3]
  simp only [go_sem,e2,hlen,List.length_map]
def cutset:List UInt8:=[97,98,99,100,101,102,103,104,105,106,107,108,109,110,111,112,113,114,115,116,117,118,119,120,121,122,48,49,50,51,52,53,54,55,56,57,45]
theorem cut_small:∀ i,i<cutset.length→(cutset.getD i 0).toNat<128:=by decide
end Go.Fv.R
/- strings.Trim at any set of small letters; IsName. -/
namespace Go.Fv.R
open Go Go.Proofs
def dV (p:UInt8→Bool) (s:List UInt8):List UInt8:=(s.reverse.dropWhile p).reverse
def uz (cut:List UInt8) (c:UInt8):Bool:=decide (c∈cut)
theorem l9 (s:List UInt8) (c:UInt8):∀ i,i≤s.length→(bZ s i).getD c.toNat false=decide (c∈s.take i)
 | 0,_=>by
  have h:c.toNat<256:=c.toNat_lt
  rw [List.take_zero]
  show (List.replicate 256 false).getD c.toNat false=_
  rw [List.getD_eq_getElem?_getD,List.getElem?_replicate,if_pos h]
  simp
 | i+1,h=>by
  have ih:=l9 s c i (by omega)
  have hlen:=iK s i
  have hlt:i<s.length:=by omega
  have hc:=c.toNat_lt
  have htk:=List.take_succ_eq_append_getElem hlt
  rw [htk]
  simp only [bZ,List.getD_eq_getElem?_getD] at ih ⊢
  rw [List.getElem?_set]
  have e:s[i]?.getD 0=s[i]:=by simp [hlt]
  rw [e]
  by_cases hq:s[i].toNat=c.toNat
  ·have hq2:s[i]=c:=UInt8.toNat_inj.1 hq
   rw [if_pos hq,if_pos (by rw [hlen];omega)]
   simp [hq2]
  ·rw [if_neg hq,ih]
   have hq2:¬c=s[i]:=fun h=>hq (by rw [h])
   rw [Bool.eq_iff_iff,decide_eq_true_eq,decide_eq_true_eq,List.mem_append,List.mem_singleton]
   exact ⟨.inl,fun h=>h.elim id fun h=>absurd h hq2⟩
theorem xw {s:List UInt8} (h0:0<s.length):s=s.take (s.length - 1)++[s.getD (s.length - 1) 0]:=by
 rw [getD_lt (by omega),List.take_append_getElem (by omega),List.take_of_length_le (by omega)]
theorem uy (p:UInt8→Bool) (t:List UInt8) (c:UInt8):dV p (t++[c])=if p c=true then dV p t else t++[c]:=by
 unfold dV
 rw [List.reverse_append,List.reverse_singleton,List.singleton_append,List.dropWhile_cons]
 split<;>simp_all
theorem JW {p:UInt8→Bool} {s:List UInt8} (h0:0<s.length) (h:p (s.getD (s.length - 1) 0)=true):dV p (s.take (s.length - 1))=dV p s:=by
 conv=>rhs;rw [xw h0,uy,if_pos h]
theorem DF {p:UInt8→Bool} {s:List UInt8} (h:0<s.length→p (s.getD (s.length - 1) 0)=false):dV p s=s:=by
 by_cases h0:0<s.length
 ·conv=>lhs;rw [xw h0,uy,if_neg (by rw [h h0];decide)]
  exact (xw h0).symm
 ·have:s=[]:=List.eq_nil_of_length_eq_zero (by omega)
  subst this;rfl
theorem MR {p:UInt8→Bool} {s:List UInt8} (h0:0<s.length) (h:p (s.getD 0 0)=true):(s.drop 1).dropWhile p=s.dropWhile p:=by
 cases s with
 | nil=>simp at h0
 | cons c t=>
  have h':p c=true:=h
  rw [List.dropWhile_cons,if_pos h'];rfl
theorem G5 {p:UInt8→Bool} {s:List UInt8} (h:0<s.length→p (s.getD 0 0)=false):s.dropWhile p=s:=by
 cases s with
 | nil=>rfl
 | cons c t=>rw [List.dropWhile_cons,if_neg (by have:=h (by simp);rw [show (c::t).getD 0 0=c from rfl] at this;rw [this];decide)]
theorem ou {p:UInt8→Bool}:∀ {s:List UInt8},s.dropWhile p=[]↔s.all p=true
 | []=>by simp
 | c::t=>by
  rw [List.dropWhile_cons,List.all_cons]
  cases h:p c with
  | true=>simpa using ou
  | false=>simp
theorem LM (p:UInt8→Bool) (s:List UInt8):(dV p s).dropWhile p=[]↔s.all p=true:=by
 rw [ou]
 unfold dV
 rw [List.all_reverse,←ou]
 have hd:(s.reverse.dropWhile p).dropWhile p=s.reverse.dropWhile p:=by
  generalize s.reverse=t
  induction t with
  | nil=>rfl
  | cons c t ih=>
   rw [List.dropWhile_cons]
   cases h:p c with
   | true=>simpa using ih
   | false=>simp [List.dropWhile_cons,h]
 rw [hd,ou,List.all_reverse]
theorem lq (tab:List Bool) (hl:tab.length=256) (c:UInt8):aC Tryd.prog 66 [.cell (tab.map .bool),.int .u8 c.toNat] (.bool (tab.getD c.toNat false)) []:=by
 have h:=Dw tab c.toNat hl (by omega) (by have:=c.toNat_lt;omega)
 rwa [Int.toNat_natCast] at h
set_option maxHeartbeats 1000000 in
theorem BP (tab:List Bool) (hl:tab.length=256) (p:UInt8→Bool) (hp:∀ c:UInt8,tab.getD c.toNat false=p c) (s:List UInt8) :
  aC Tryd.prog 48 [.str s,.cell (tab.map .bool)] (.str (s.dropWhile p)) []:=by
 refine aC.aO Tryd.func48 rfl (by decide) (by simp [Tryd.f48]) [.tmp 4] rfl fun w0 T0 _=>?_
 simp only [Tryd.f48,aB]
 (repeat' with_reducible first|intro _|exact dn|refine rn ?_|refine ra ?_ ?_)
 refine aU.intro (fun t:List UInt8=>⟨16,[(0,.str t),(1,.cell (tab.map .bool))],[],0⟩) (fun t=>t.dropWhile p=s.dropWhile p) (fun t=>t.length) s ?_ rfl fun t he=>?_
 ·refine bC.aA rfl ?_ ?_<;>simp only [go_sem,Int.natCast_succ]
 (repeat' with_reducible first|intro _|exact dn|refine rn ?_|refine ra ?_ ?_)
 ·have k:=lq tab hl (t.getD 0 0)
  rw [hp] at k
  refine ah.fr (args':=[.cell (tab.map .bool),.int .u8 (t.getD 0 0).toNat]) (jr.kN k rfl rfl) (by simp [aW,bf,aF]) 0 rfl (by simp [dL]) ?_
  cases hq:p (t.getD 0 0) with
  | true=>
   (repeat' with_reducible first|intro _|exact dn|refine rn ?_|refine ra ?_ ?_)
   refine ⟨t.drop 1,bC.aA rfl ?_ ?_,?_,?_⟩
   ·simp only [go_sem,Int.natCast_succ]
    all_goals first|rfl|exact List.take_of_length_le (by simp)
   ·simp only [go_sem,Int.natCast_succ]
   ·rw [MR (by omega) hq];exact he
   ·simp;omega
  | false=>
   have e:t=s.dropWhile p:=by rw [←he,G5 (fun _=>hq)]
   (repeat' with_reducible first|intro _|exact dn|refine rn ?_|refine ra ?_ ?_)
   refine aZ.auto 0 ?_ rfl ?_<;>simp only [go_sem,Int.natCast_succ,Post,e]
 ·have e:t=s.dropWhile p:=by rw [←he,G5 (fun h=>by omega)]
  refine aZ.auto 0 ?_ rfl ?_<;>simp only [go_sem,Int.natCast_succ,Post,e]
set_option maxHeartbeats 1000000 in
theorem yU (tab:List Bool) (hl:tab.length=256) (p:UInt8→Bool) (hp:∀ c:UInt8,tab.getD c.toNat false=p c) (s:List UInt8) :
  aC Tryd.prog 49 [.str s,.cell (tab.map .bool)] (.str (dV p s)) []:=by
 refine aC.aO Tryd.func49 rfl (by decide) (by simp [Tryd.f49]) [.tmp 4] rfl fun w0 T0 _=>?_
 simp only [Tryd.f49,aB]
 (repeat' with_reducible first|intro _|exact dn|refine rn ?_|refine ra ?_ ?_)
 refine aU.intro (fun t:List UInt8=>⟨22,[(0,.str t),(1,.cell (tab.map .bool))],[],0⟩) (fun t=>dV p t=dV p s) (fun t=>t.length) s ?_ rfl fun t he=>?_
 ·refine bC.aA rfl ?_ ?_<;>simp only [go_sem,Int.natCast_succ]
 have et:((t.length:Int) - 1).toNat=t.length - 1:=by omega
 (repeat' with_reducible first|intro _|refine rz ?_|refine ra ?_ ?_|omega|simp only [go_sem,et])
 ·have k:=lq tab hl (t.getD (t.length - 1) 0)
  rw [hp] at k
  refine ah.fr (args':=[.cell (tab.map .bool),.int .u8 (t.getD (t.length - 1) 0).toNat]) (jr.kN k rfl rfl) (by simp [aW,bf,aF]) 0 rfl (by simp [dL]) ?_
  cases hq:p (t.getD (t.length - 1) 0) with
  | true=>
   (repeat' with_reducible first|intro _|refine rz ?_|refine ra ?_ ?_|omega|simp only [go_sem,et])
   refine ⟨t.take (t.length - 1),bC.aA rfl ?_ ?_,?_,?_⟩
   ·simp only [go_sem,Int.natCast_succ,et]
    all_goals rfl
   ·simp only [go_sem,Int.natCast_succ]
   ·rw [JW (by omega) hq];exact he
   ·simp;omega
  | false=>
   have e:t=dV p s:=by rw [←he,DF (fun _=>hq)]
   (repeat' with_reducible first|intro _|exact dn|refine rn ?_|refine ra ?_ ?_)
   refine aZ.auto 0 ?_ rfl ?_<;>simp only [go_sem,Int.natCast_succ,Post,e]
 ·have e:t=dV p s:=by rw [←he,DF (fun h=>by omega)]
  refine aZ.auto 0 ?_ rfl ?_<;>simp only [go_sem,Int.natCast_succ,Post,e]
set_option maxHeartbeats 1000000 in
theorem LK (s cut:List UInt8) (hc:∀ i,i<cut.length→(cut.getD i 0).toNat<128) (h2:2≤cut.length) :
  aC Tryd.prog 25 [.str s,.str cut] (.str ((dV (uz cut) s).dropWhile (uz cut))) []:=by
 have hlen:=iK cut cut.length
 have km:=qW cut hc
 have hg:∀ c:UInt8,(bZ cut cut.length).getD c.toNat false=uz cut c:=fun c=>by
  rw [l9 cut c _ (Nat.le_refl _),List.take_length];rfl
 have hne:¬cut=[]:=fun e=>by subst e;simp at h2
 refine aC.aO Tryd.func25 rfl (by decide) (by simp [Tryd.f25]) [.tmp 4] rfl fun w0 T0 _=>?_
 simp only [Tryd.f25,aB]
 by_cases h0:s=[]
 ·have e:(dV (uz cut) []).dropWhile (uz cut)=[]:=rfl
  (repeat' with_reducible first|intro _|refine rz ?_|refine ra ?_ ?_|omega|simp only [go_sem,h0])
  refine aZ.auto 0 ?_ rfl ?_<;>simp only [go_sem,Int.natCast_succ,Post,e]
 generalize uz cut=p at *
 (repeat' with_reducible first|intro _|refine rz ?_|refine ra ?_ ?_|omega|simp only [go_sem,h0,hne])
 refine ah.fr (args':=[.str cut]) (jr.kN km (by simp [lW,iM,ni]) rfl) (by simp [aW,bf,aF]) 0 (by simp [Fv.below,aH,je]) (by simp [dL]) ?_
 generalize bZ cut cut.length=tab at hlen hg ⊢
 simp only [go_sem]
 have e1:spl (List.replicate 256 (AV.bool false)) 0 (tab.map .bool)=tab.map .bool:=BO (by simp [hlen])
 refine aS.intro (by simp [hlen]) ?_
 rw [e1]
 refine aS.intro (by omega) ?_
 refine ah.fr (args':=[.str s,.cell (tab.map .bool)]) (jr.kN (yU tab hlen p hg s) rfl rfl) ?_ 0 rfl (by simp [dL]) ?_
 ·exact ⟨_,_,rfl,⟨_,_,⟨_,_,_,rfl,jP _ 4 _,rfl⟩,rfl,rfl⟩,rfl⟩
 simp only [go_sem]
 refine ah.fr (args':=[.str (dV p s),.cell (tab.map .bool)]) (jr.kN (BP tab hlen p hg (dV p s)) rfl rfl) ?_ 0 rfl (by simp [dL]) ?_
 ·exact ⟨_,_,rfl,⟨_,_,⟨_,_,_,rfl,jP _ 4 _,rfl⟩,rfl,rfl⟩,rfl⟩
 simp only [go_sem]
 refine aZ.auto 0 ?_ rfl ?_<;>simp only [go_sem,Int.natCast_succ,Post]
def nameB (c:UInt8):Bool:=decide (97≤c.toNat) && decide (c.toNat≤122) || decide (48≤c.toNat) && decide (c.toNat≤57) || decide (c.toNat=45)
def eH (s:List UInt8):Bool:=decide (s≠[]) && decide (s.length≤40) && (decide (97≤(s.getD 0 0).toNat) && decide ((s.getD 0 0).toNat≤122)) && s.all nameB
set_option maxRecDepth 20000 in
theorem JR:∀ n:Nat,n<256→uz cutset (UInt8.ofNat n)=nameB (UInt8.ofNat n):=by decide
theorem FN:uz cutset=nameB:=funext fun c=>by
 have h:=JR c.toNat c.toNat_lt
 simpa using h
set_option maxHeartbeats 1000000 in
theorem zK (s:List UInt8):aC Tryd.prog 11 [.str s] (.bool (eH s)) []:=by
 have k:=LK s cutset cut_small (by decide)
 rw [FN] at k
 have ht:=LM nameB s
 have hcut:cutset=[97,98,99,100,101,102,103,104,105,106,107,108,109,110,111,112,113,114,115,116,117,118,119,120,121,122,48,49,50,51,52,53,54,55,56,57,45]:=rfl
 unfold eH
 generalize dV nameB s=t at *
 generalize t.dropWhile nameB=t at *
 generalize s.all nameB=a at *
 refine aC.aO Tryd.func11 rfl (by decide) (by simp [Tryd.f11]) [.tmp 2] rfl fun w0 T0 _=>?_
 simp only [Tryd.f11,aB]
 by_cases h0:s=[]
 ·(repeat' with_reducible first|intro _|refine rz ?_|refine ra ?_ ?_|omega|simp only [go_sem,h0])
  refine aZ.auto 0 ?_ rfl ?_<;>simp only [go_sem,Int.natCast_succ,Post]
  all_goals simp
 ·have hlp:0<s.length:=List.length_pos_iff.2 h0
  (repeat' with_reducible first|intro _|refine rz ?_|refine ra ?_ ?_|omega|simp only [go_sem,h0])
  all_goals first
   |(refine ah.fr (args':=[.str s,.str cutset]) (jr.kN k rfl rfl) (by simp [aW,bf,aF,cutset]) 0 rfl (by simp [dL]) ?_
     (repeat' with_reducible first|intro _|exact dn|refine rn ?_|refine ra ?_ ?_)
     refine aZ.auto 0 ?_ rfl ?_<;>simp only [go_sem,Int.natCast_succ,Post])
   |(refine aZ.auto 0 ?_ rfl ?_<;>simp only [go_sem,Int.natCast_succ,Post])
  all_goals
   rw [Bool.eq_iff_iff]
   simp only [Bool.and_eq_true,decide_eq_true_eq,ht,Bool.false_eq_true,false_iff]
   first
    | exact ⟨fun ha=>⟨⟨⟨h0,by omega⟩,by omega,by omega⟩,ha⟩,fun h=>h.2⟩
    |(intro h;omega)
end Go.Fv.R
/- Rules of sorting: what CheckRules and Kind compute, in plain words. -/
namespace Go.Fv.R
open Go Go.Proofs
structure Ru where
 kind:List UInt8
 words:List (List UInt8)
 code:List UInt8
def Ru.av (r:Ru):List AV:=[.str r.kind,.ro (.strs r.words),.str r.code]
def Ru.zero:Ru:=⟨[],[],[]⟩
abbrev iC (l:List Ru):au:=.objs 3 (l.map Ru.av)
instance:CZ Ru.av:=⟨fun _=>rfl⟩
theorem oI (l:List Ru) {i:Nat} (h:i<l.length):(l.map Ru.av).getD i []=[.str (l.getD i Ru.zero).kind,.ro (.strs (l.getD i Ru.zero).words),.str (l.getD i Ru.zero).code]:=by
 simp [List.getD_eq_getElem?_getD,h,Ru.av]
def dJ (w:List UInt8):Bool:=eG w && decide (nM w=w)
def dY (r:Ru):Int:=aG [if eH r.kind=true then 0 else 5,if 20<r.words.length then 4 else 0,if r.words.all dJ=true then 0 else 2,if codeOk r.code=true then 0 else 2,if r.words=[]∧r.code=[] then 9 else 0]
def bn (l:List Ru):Int:=if 100<l.length then 4 else aG (l.map dY)
def keepR (l:List Ru):List Ru:=(l.take 10).filter fun r=>decide (bn [r]=0)
theorem mJ (l:List Ru) {i:Nat} (h:i<l.length):aG ((l.drop i).map dY)=if dY (l.getD i Ru.zero)=0 then aG ((l.drop (i+1)).map dY) else dY (l.getD i Ru.zero):=by
 rw [List.drop_eq_getElem_cons h,getD_lt h];rfl
end Go.Fv.R
/- sameRules at equal rules. -/
namespace Go.Fv.R
open Go Go.Proofs
theorem Jr (r:Ru):aC Tryd.prog 21 [.agg r.av,.agg r.av] (.bool true) []:=by
 unfold Ru.av
 have k:=AP r.words r.words
 refine aC.aO Tryd.func21 rfl (by decide) (by simp [Tryd.f21]) [.tmp 4] rfl fun w0 T0 _=>?_
 simp only [Tryd.f21,aB]
 (repeat' with_reducible first|intro _|exact dn|refine rn ?_|refine ra ?_ ?_)
 refine ah.k k ?_
 (repeat' with_reducible first|intro _|exact dn|refine rn ?_|refine ra ?_ ?_)
 refine aZ.auto 0 ?_ rfl ?_<;>simp only [go_sem,Int.natCast_succ,Post]
theorem FH (l:List Ru):aC Tryd.prog 20 [.ro (iC l),.ro (iC l),.fn 21 []] (.bool true) []:=by
 refine aC.aO Tryd.func20 rfl (by decide) (by simp [Tryd.f20]) [.tmp 6] rfl fun w0 T0 _=>?_
 simp only [Tryd.f20,aB]
 (repeat' with_reducible first|intro _|refine rz ?_|refine ra ?_ ?_|omega|simp only [go_sem,List.length_map])
 refine aU.intro (fun i:Nat=>⟨32,[(0,.ro (iC l)),(1,.ro (iC l)),(2,.fn 21 []),(15,.ro (iC l)),(16,.int .i64 l.length),(17,.int .i64 i)],[],0⟩) (fun i=>i≤l.length) (fun i=>l.length - i) 0 ?_ (Nat.zero_le _) fun i hi=>?_
 ·refine bC.aA rfl ?_ ?_<;>simp only [go_sem,Int.natCast_succ]
 by_cases hlt:i<l.length
 ·have he:=oI l hlt
  have kd:=Jr (l.getD i Ru.zero)
  unfold Ru.av at kd
  (repeat' with_reducible first|intro _|refine rz ?_|refine ra ?_ ?_|omega|simp only [go_sem,eu,he,List.length_map])
  refine ah.k kd ?_
  (repeat' with_reducible first|intro _|exact dn|refine rn ?_|refine ra ?_ ?_)
  refine ⟨i+1,bC.aA rfl ?_ ?_,by omega,by omega⟩<;>simp only [go_sem,Int.natCast_succ]
 ·(repeat' with_reducible first|intro _|exact dn|refine rn ?_|refine ra ?_ ?_)
  refine aZ.auto 0 ?_ rfl ?_<;>simp only [go_sem,Int.natCast_succ,Post]
theorem rJ (l:List Ru):aC Tryd.prog 9 [.ro (iC l),.ro (iC l)] (.bool true) []:=by
 have k1:=FH l
 refine aC.aO Tryd.func9 rfl (by decide) (by simp [Tryd.f9]) [.tmp 4] rfl fun w0 T0 _=>?_
 simp only [Tryd.f9,aB]
 (repeat' with_reducible first|intro _|exact dn|refine rn ?_|refine ra ?_ ?_)
 refine ah.k k1 ?_
 (repeat' with_reducible first|intro _|exact dn|refine rn ?_|refine ra ?_ ?_)
 refine aZ.auto 0 ?_ rfl ?_<;>simp only [go_sem,Int.natCast_succ,Post]
theorem wJ (c:List UInt8):codeOk c=true↔c.length≤80∧∀ j,j<c.length→32≤(c.getD j 0).toNat∧(c.getD j 0).toNat≤126:=by
 unfold codeOk
 rw [Bool.and_eq_true,decide_eq_true_eq,List.all_eq_true]
 refine and_congr_right fun _=>⟨fun h j hj=>?_,fun h b hb=>?_⟩
 ·have:=h (c.getD j 0) (by rw [getD_lt hj];exact List.getElem_mem hj)
  simpa using this
 ·obtain ⟨j,hj,rfl⟩:=List.getElem_of_mem hb
  have:=h j hj
  rw [getD_lt hj] at this
  simpa using this
set_option maxHeartbeats 1000000 in
theorem IY (c:List UInt8):aC Tryd.prog 35 [.str c] (.bool (codeOk c)) []:=by
 have hi:=wJ c
 refine aC.aO Tryd.func35 rfl (by decide) (by simp [Tryd.f35]) [.tmp 2] rfl fun w0 T0 _=>?_
 simp only [Tryd.f35,aB]
 (repeat' with_reducible first|intro _|exact dn|refine rn ?_|refine ra ?_ ?_)
 ·rename_i h1
  have:codeOk c=false:=by rw [←Bool.not_eq_true,hi];omega
  refine aZ.auto 0 ?_ rfl ?_<;>simp only [go_sem,Int.natCast_succ,Post,this]
 ·refine aU.intro (fun i:Nat=>⟨23,[(0,.str c),(8,.int .i64 c.length),(9,.int .i64 i)],[],0⟩) (fun i=>i≤c.length∧∀ j,j<i→32≤(c.getD j 0).toNat∧(c.getD j 0).toNat≤126) (fun i=>c.length - i) 0 ?_ ⟨Nat.zero_le _,fun j hj=>by omega⟩ fun i hI=>?_
  ·refine bC.aA rfl ?_ ?_<;>simp only [go_sem,Int.natCast_succ]
  obtain ⟨hl,hI⟩:=hI
  (repeat' with_reducible first|intro _|exact dn|refine rn ?_|refine ra ?_ ?_)
  ·rename_i h2
   have:codeOk c=false:=by
    rw [←Bool.not_eq_true,hi]
    rintro ⟨_,h⟩
    have:=h i (by omega)
    omega
   refine aZ.auto 0 ?_ rfl ?_<;>simp only [go_sem,Int.natCast_succ,Post,this]
  ·refine ⟨i+1,bC.aA rfl ?_ ?_,⟨by omega,fun j hj=>?_⟩,by omega⟩<;>first|simp only [go_sem,Int.natCast_succ]|skip
   all_goals first
    | rfl
    |(by_cases e:j=i
      ·subst e;omega
      ·exact hI j (by omega))
  ·have:codeOk c=true:=hi.2 ⟨by omega,fun j hj=>hI j (by omega)⟩
   refine aZ.auto 0 ?_ rfl ?_<;>simp only [go_sem,Int.natCast_succ,Post,this]
set_option maxHeartbeats 1000000 in
theorem Gf (c:List UInt8):aC Tryd.prog 31 [.str c] (.bool (codeOk c)) []:=by
 have hi:=wJ c
 refine aC.aO Tryd.func31 rfl (by decide) (by simp [Tryd.f31]) [.tmp 2] rfl fun w0 T0 _=>?_
 simp only [Tryd.f31,aB]
 (repeat' with_reducible first|intro _|exact dn|refine rn ?_|refine ra ?_ ?_)
 refine aU.intro (fun i:Nat=>⟨23,[(0,.str c),(5,.int .i64 c.length),(6,.int .i64 i)],[],0⟩) (fun i=>i≤c.length∧∀ j,j<i→32≤(c.getD j 0).toNat∧(c.getD j 0).toNat≤126) (fun i=>c.length - i) 0 ?_ ⟨Nat.zero_le _,fun j hj=>by omega⟩ fun i hI=>?_
 ·refine bC.aA rfl ?_ ?_<;>simp only [go_sem,Int.natCast_succ]
 obtain ⟨hl,hI⟩:=hI
 (repeat' with_reducible first|intro _|exact dn|refine rn ?_|refine ra ?_ ?_)
 ·rename_i h2
  have:codeOk c=false:=by
   rw [←Bool.not_eq_true,hi]
   rintro ⟨_,h⟩
   have:=h i (by omega)
   omega
  refine aZ.auto 0 ?_ rfl ?_<;>simp only [go_sem,Int.natCast_succ,Post,this]
 ·refine ⟨i+1,bC.aA rfl ?_ ?_,⟨by omega,fun j hj=>?_⟩,by omega⟩<;>first|simp only [go_sem,Int.natCast_succ]|skip
  all_goals first
   | rfl
   |(by_cases e:j=i
     ·subst e;omega
     ·exact hI j (by omega))
 ·have e1:decide (c.length≤80)=codeOk c:=by
   rw [Bool.eq_iff_iff,decide_eq_true_eq,hi]
   exact ⟨fun h=>⟨h,fun j hj=>hI j (by omega)⟩,fun h=>h.1⟩
  refine aZ.auto 0 ?_ rfl ?_<;>simp only [go_sem,Int.natCast_succ,Post]
  rw [←e1];congr 1;apply propext;omega
def firstAt {α:Type} (q:α→Bool):List α→Nat→Int
 | [],_=>-1
 | x::l,i=>if q x=true then i else firstAt q l (i+1)
theorem mG {α:Type} (q:α→Bool):∀ (l:List α) (i:Nat),(0≤firstAt q l i)↔l.any q=true
 | [],i=>by simp [firstAt]
 | x::l,i=>by
  simp only [firstAt,List.any_cons]
  split
  ·rename_i h;simp [h]
  ·rename_i h;simp [h,mG q l (i+1)]
theorem qI {α:Type} (l:List α) (d:α) {i:Nat} (h:i<l.length):l.drop i=l.getD i d::l.drop (i+1):=by
 rw [List.drop_eq_getElem_cons h,getD_lt h]
set_option maxHeartbeats 1000000 in
theorem yN (l:List (List UInt8)) (f:Nat) (caps:List AV) [vY caps] (q:List UInt8→Bool) (hq:∀ s:List UInt8,s∈l→jr Tryd.prog f ([.str s]++caps) (.bool (q s)) []) :
  aC Tryd.prog 53 [.ro (.strs l),.fn f caps] (.int .i64 (firstAt q l 0)) []:=by
 refine aC.aO Tryd.func53 rfl (by decide) (by simp [Tryd.f53]) [.tmp 4] rfl fun w0 T0 _=>?_
 simp only [Tryd.f53,aB]
 (repeat' with_reducible first|intro _|exact dn|refine rn ?_|refine ra ?_ ?_)
 refine aU.intro (fun i:Nat=>⟨19,[(0,.ro (.strs l)),(1,.fn f caps),(7,.int .i64 l.length),(8,.int .i64 i)],[],0⟩) (fun i=>i≤l.length∧firstAt q (l.drop i) i=firstAt q l 0) (fun i=>l.length - i) 0 ?_ ⟨Nat.zero_le _,rfl⟩ fun i hI=>?_
 ·refine bC.aA rfl ?_ ?_<;>simp only [go_sem,Int.natCast_succ]
 obtain ⟨hl,hI⟩:=hI
 (repeat' with_reducible first|intro _|exact dn|refine rn ?_|refine ra ?_ ?_)
 ·have hlt:i<l.length:=by omega
  have hd:=qI l [] hlt
  rw [hd,firstAt] at hI
  refine ah.fr (args':=[.str (l.getD i [])]++caps) (hq _ (by rw [getD_lt hlt];exact List.getElem_mem hlt)) (by simp [aW,bf,aF,Fe]) 0 rfl (by simp [dL]) ?_
  (repeat' with_reducible first|intro _|exact dn|refine rn ?_|refine ra ?_ ?_)
  ·rename_i h2
   rw [if_pos h2] at hI
   refine aZ.auto 0 ?_ rfl ?_<;>simp only [go_sem,Int.natCast_succ,Post]
   rw [←hI]
  ·rename_i h2
   rw [if_neg (by rw [h2];exact Bool.false_ne_true)] at hI
   refine ⟨i+1,bC.aA rfl ?_ ?_,⟨by omega,hI⟩,by omega⟩<;>simp only [go_sem,Int.natCast_succ]
   all_goals rfl
 ·have e:i=l.length:=by omega
  subst e
  rw [List.drop_length] at hI
  refine aZ.auto 0 ?_ rfl ?_<;>simp only [go_sem,Int.natCast_succ,Post]
  rw [←hI];rfl
theorem AA (l:List (List UInt8)) (f:Nat) (caps:List AV) [vY caps] (q:List UInt8→Bool) (hq:∀ s:List UInt8,s∈l→jr Tryd.prog f ([.str s]++caps) (.bool (q s)) []) :
  aC Tryd.prog 32 [.ro (.strs l),.fn f caps] (.bool (l.any q)) []:=by
 have k:=yN l f caps q hq
 have e:l.any q=decide (0≤firstAt q l 0):=by rw [Bool.eq_iff_iff,decide_eq_true_eq,mG]
 rw [e]
 refine aC.aO Tryd.func32 rfl (by decide) (by simp [Tryd.f32]) [.tmp 4] rfl fun w0 T0 _=>?_
 simp only [Tryd.f32,aB]
 (repeat' with_reducible first|intro _|exact dn|refine rn ?_|refine ra ?_ ?_)
 refine ah.fr (args':=[.ro (.strs l),.fn f caps]) (jr.kN k rfl rfl) (by simp [aW,bf,aF,Di]) 0 rfl (by simp [dL]) ?_
 (repeat' with_reducible first|intro _|exact dn|refine rn ?_|refine ra ?_ ?_)
 refine aZ.auto 0 ?_ rfl ?_<;>simp only [go_sem,Int.natCast_succ,Post]
end Go.Fv.R
/- Letters, words, and the trims at one byte. -/
namespace Go.Fv.R
open Go Go.Proofs
theorem J9 (c:UInt8):yI c=decide ((97≤(c.toNat:Int)∧(c.toNat:Int)≤122∨65≤(c.toNat:Int)∧(c.toNat:Int)≤90)∨128≤(c.toNat:Int)):=by
 rw [Bool.eq_iff_iff];simp only [yI,Bool.or_eq_true,Bool.and_eq_true,decide_eq_true_eq];omega
theorem PN (c:UInt8):c=39↔(c.toNat:Int)=39:=by
 constructor
 ·rintro rfl;rfl
 ·intro h;exact UInt8.toNat_inj.1 (by show c.toNat=39;omega)
theorem J7 (c:UInt8):fV c=(yI c || decide ((c.toNat:Int)=39)):=by
 simp only [fV,PN]
theorem tH (c:UInt8):aC Tryd.prog 84 [.int .u8 c.toNat] (.bool (yI c)) []:=by
 refine aC.aO Tryd.func84 rfl (by decide) (by simp [Tryd.f84]) [.tmp 2] rfl fun w0 T0 _=>?_
 simp only [Tryd.f84,aB]
 (repeat' with_reducible first|intro _|exact dn|refine rn ?_|refine ra ?_ ?_)
 refine aZ.auto 0 ?_ rfl ?_<;>simp only [go_sem,Int.natCast_succ,Post,J9]
theorem mX (c:UInt8):aC Tryd.prog 52 [.int .u8 c.toNat] (.bool (yI c)) []:=by
 refine aC.aO Tryd.func52 rfl (by decide) (by simp [Tryd.f52]) [.tmp 2] rfl fun w0 T0 _=>?_
 simp only [Tryd.f52,aB]
 (repeat' with_reducible first|intro _|exact dn|refine rn ?_|refine ra ?_ ?_)
 refine aZ.auto 0 ?_ rfl ?_<;>simp only [go_sem,Int.natCast_succ,Post,J9]
theorem tu (c:UInt8):aC Tryd.prog 71 [.int .u8 c.toNat] (.bool (fV c)) []:=by
 have k:=tH c
 refine aC.aO Tryd.func71 rfl (by decide) (by simp [Tryd.f71]) [.tmp 2] rfl fun w0 T0 _=>?_
 simp only [Tryd.f71,aB]
 (repeat' with_reducible first|intro _|exact dn|refine rn ?_|refine ra ?_ ?_)
 refine ah.k k ?_
 (repeat' with_reducible first|intro _|exact dn|refine rn ?_|refine ra ?_ ?_)
 refine aZ.auto 0 ?_ rfl ?_<;>simp only [go_sem,Int.natCast_succ,Post,J7]
theorem qU:eG []=false:=by simp [eG]
theorem zL {s:List UInt8} (h:40<(s.length:Int)):eG s=false:=by
 have:¬s.length≤40:=by omega
 simp [eG,this]
theorem DU {s:List UInt8} (h0:¬s=[]) (h1:¬40<(s.length:Int)):eG s=(yI (s.getD 0 0) && yI (s.getD (s.length - 1) 0) && s.all fV):=by
 have h:s.length≤40:=by omega
 have e1:s.headD 0=s.getD 0 0:=by cases s<;>rfl
 have e2:s.getLastD 0=s.getD (s.length - 1) 0:=by
  rw [List.getLastD_eq_getLast?,List.getLast?_eq_getElem?];simp [List.getD]
 simp only [eG,e1,e2,h0,h,ne_eq,not_false_eq_true,decide_true,Bool.true_and]
theorem JF {s:List UInt8} (h:∀ j,j<s.length→fV (s.getD j 0)=true):s.all fV=true:=by
 rw [List.all_eq_true];intro x hx
 obtain ⟨j,hj,rfl⟩:=List.getElem_of_mem hx
 have:=h j hj;rwa [getD_lt hj] at this
theorem GR {s:List UInt8} {j:Nat} (hj:j<s.length) (h:fV (s.getD j 0)=false):s.all fV=false:=by
 rw [Bool.eq_false_iff];intro ha
 rw [List.all_eq_true] at ha
 have:=ha _ (List.getElem_mem hj)
 rw [getD_lt hj] at h;rw [h] at this;cases this
set_option maxHeartbeats 2000000 in
theorem FV (s:List UInt8):aC Tryd.prog 72 [.str s] (.bool (eG s)) []:=by
 refine aC.aO Tryd.func72 rfl (by decide) (by simp [Tryd.f72]) [.tmp 2] rfl fun w0 T0 _=>?_
 simp only [Tryd.f72,aB]
 by_cases h0:s=[]
 ·(repeat' with_reducible first|intro _|refine rz ?_|refine ra ?_ ?_|omega|simp only [go_sem,h0])
  refine aZ.auto 0 ?_ rfl ?_<;>simp only [go_sem,Int.natCast_succ,Post,qU]
 ·by_cases h1:40<(s.length:Int)
  ·(repeat' with_reducible first|intro _|refine rz ?_|refine ra ?_ ?_|omega|simp only [go_sem,h0,h1])
   refine aZ.auto 0 ?_ rfl ?_<;>simp only [go_sem,Int.natCast_succ,Post,zL h1]
  ·have hp:0<s.length:=List.length_pos_iff.2 h0
   have hp2:(0:Int)<s.length:=by omega
   have k:=tH (s.getD 0 0)
   have k2:=tH (s.getD (s.length - 1) 0)
   have e:=DU h0 h1
   have et:((s.length:Int) - 1).toNat=s.length - 1:=by omega
   (repeat' with_reducible first|intro _|refine rz ?_|refine ra ?_ ?_|omega|simp only [go_sem,h0,h1,hp2])
   refine ah.k k ?_
   cases hL:yI (s.getD 0 0) with
   | false=>
    (repeat' with_reducible first|intro _|refine rz ?_|refine ra ?_ ?_|omega|simp only [go_sem,hL])
    refine aZ.auto 0 ?_ rfl ?_<;>simp only [go_sem,Int.natCast_succ,Post,e,hL,Bool.false_and]
   | true=>
    (repeat' with_reducible first|intro _|refine rz ?_|refine ra ?_ ?_|omega|simp only [go_sem,hL,et])
    refine ah.k k2 ?_
    cases hL2:yI (s.getD (s.length - 1) 0) with
    | false=>
     (repeat' with_reducible first|intro _|refine rz ?_|refine ra ?_ ?_|omega|simp only [go_sem,hL2])
     refine aZ.auto 0 ?_ rfl ?_<;>simp only [go_sem,Int.natCast_succ,Post,e,hL,hL2,Bool.false_and,Bool.and_false]
    | true=>
     (repeat' with_reducible first|intro _|refine rz ?_|refine ra ?_ ?_|omega|simp only [go_sem,hL2])
     refine aU.intro (fun i:Nat=>⟨37,[(28,.int .i64 i),(27,.int .i64 s.length),(0,.str s)],[],0⟩) (fun i=>i≤s.length∧∀ j,j<i→fV (s.getD j 0)=true) (fun i=>s.length - i) 0 ?_ ⟨Nat.zero_le _,fun j hj=>absurd hj (Nat.not_lt_zero j)⟩ fun i hi=>?_
     ·refine bC.aA rfl ?_ ?_<;>simp only [go_sem,Int.natCast_succ]
     obtain ⟨hi,ha⟩:=hi
     have k3:=tu (s.getD i 0)
     (repeat' with_reducible first|intro _|refine rz ?_|refine ra ?_ ?_|omega|simp only [go_sem,Int.toNat_natCast])
     ·refine ah.k k3 ?_
      cases hW:fV (s.getD i 0) with
      | false=>
       have hf:=GR (by omega) hW
       (repeat' with_reducible first|intro _|refine rz ?_|refine ra ?_ ?_|omega|simp only [go_sem,hW])
       refine aZ.auto 0 ?_ rfl ?_<;>simp only [go_sem,Int.natCast_succ,Post,e,hf,Bool.and_false]
      | true=>
       (repeat' with_reducible first|intro _|refine rz ?_|refine ra ?_ ?_|omega|simp only [go_sem,hW])
       refine ⟨i+1,bC.aA rfl ?_ ?_,⟨by omega,fun j hj=>?_⟩,by omega⟩
       ·simp only [go_sem,Int.natCast_succ]
       ·simp only [go_sem,Int.natCast_succ]
       ·by_cases hji:j=i
        ·rw [hji];exact hW
        ·exact ha j (by omega)
     ·have hf:=JF fun j hj=>ha j (by omega)
      refine aZ.auto 0 ?_ rfl ?_<;>simp only [go_sem,Int.natCast_succ,Post,e,hL,hL2,hf,Bool.and_true]
theorem zM (s:List UInt8) (hs:s.length≤1000000000000):aC Tryd.prog 72 [.str s] (.bool (eG s)) []:=FV s
end Go.Fv.R
