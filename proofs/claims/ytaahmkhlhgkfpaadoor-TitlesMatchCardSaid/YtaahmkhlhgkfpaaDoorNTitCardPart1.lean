/-
  A part of the proof of the claim: walks over the program's functions and the plain laws that these need. No condition of its own.
-/
import Derived.Test.YtaahmkhlhgkfpaaDoorFvPart11
import Derived.Test.YtaahmkhlhgkfpaaDoorProg
import Derived.Test.YtaahmkhlhgkfpaaDoorFvPart10
import Derived.Lib.ItoaNum
import Derived.Test.YtaahmkhlhgkfpaaDoorFvPart5
set_option linter.unusedSimpArgs false
set_option linter.unusedVariables false
set_option maxRecDepth 8000
set_option linter.unnecessarySimpa false
/- Facts about the program's types: each shown by reckoning it out. -/
namespace Go.Fv.N
open Go Go.Proofs
theorem e1:aY Tryd.prog 1 (.nilFunc):=.of (by kernel_rfl) (by kernel_rfl)
theorem c1:Tryd.prog.cellsOf 1=1:=e1.cellsOf
theorem e2:aY Tryd.prog 2 (.int .i64 0):=.of (by kernel_rfl) (by kernel_rfl)
theorem z2:zeroOf Tryd.prog 2=some (.int .i64 0):=e2.zero
theorem c2:Tryd.prog.cellsOf 2=1:=e2.cellsOf
theorem e3:aY Tryd.prog 3 (.int .i64 0):=.of (by kernel_rfl) (by kernel_rfl)
theorem z3:zeroOf Tryd.prog 3=some (.int .i64 0):=e3.zero
theorem c3:Tryd.prog.cellsOf 3=1:=e3.cellsOf
theorem e4:aY Tryd.prog 4 (.bool false):=.of (by kernel_rfl) (by kernel_rfl)
theorem z4:zeroOf Tryd.prog 4=some (.bool false):=e4.zero
theorem c4:Tryd.prog.cellsOf 4=1:=e4.cellsOf
theorem e5:aY Tryd.prog 5 (.int .u8 0):=.of (by kernel_rfl) (by kernel_rfl)
theorem z5:zeroOf Tryd.prog 5=some (.int .u8 0):=e5.zero
theorem c5:Tryd.prog.cellsOf 5=1:=e5.cellsOf
theorem e6:aY Tryd.prog 6 (.int .u8 0):=.of (by kernel_rfl) (by kernel_rfl)
theorem e8:aY Tryd.prog 8 (.agg #[.int .i64 0,.int .i64 0,.bool false,.int .u8 0]):=.of (by kernel_rfl) (by kernel_rfl)
theorem e9:aY Tryd.prog 9 (.string ⟨#[]⟩):=.of (by kernel_rfl) (by kernel_rfl)
theorem z9:zeroOf Tryd.prog 9=some (.string ⟨#[]⟩):=e9.zero
theorem c9:Tryd.prog.cellsOf 9=1:=e9.cellsOf
theorem e12:aY Tryd.prog 12 (.int .u64 0):=.of (by kernel_rfl) (by kernel_rfl)
theorem e17:aY Tryd.prog 17 (.pointer none):=.of (by kernel_rfl) (by kernel_rfl)
theorem e20:aY Tryd.prog 20 (.nilIface):=.of (by kernel_rfl) (by kernel_rfl)
theorem z20:zeroOf Tryd.prog 20=some (.nilIface):=e20.zero
theorem e21:aY Tryd.prog 21 (.int .i32 0):=.of (by kernel_rfl) (by kernel_rfl)
theorem z21:zeroOf Tryd.prog 21=some (.int .i32 0):=e21.zero
theorem e25:aY Tryd.prog 25 (.int .i64 0):=.of (by kernel_rfl) (by kernel_rfl)
theorem z25:zeroOf Tryd.prog 25=some (.int .i64 0):=e25.zero
theorem c25:Tryd.prog.cellsOf 25=1:=e25.cellsOf
theorem e37:aY Tryd.prog 37 (.agg #[.string ⟨#[]⟩,.string ⟨#[]⟩]):=.of (by kernel_rfl) (by kernel_rfl)
theorem z37:zeroOf Tryd.prog 37=some (.agg #[.string ⟨#[]⟩,.string ⟨#[]⟩]):=e37.zero
theorem c37:Tryd.prog.cellsOf 37=2:=e37.cellsOf
theorem e46:aY Tryd.prog 46 (.nilFunc):=.of (by kernel_rfl) (by kernel_rfl)
theorem z46:zeroOf Tryd.prog 46=some (.nilFunc):=e46.zero
theorem e51:aY Tryd.prog 51 (.nilFunc):=.of (by kernel_rfl) (by kernel_rfl)
theorem z51:zeroOf Tryd.prog 51=some (.nilFunc):=e51.zero
theorem e53:aY Tryd.prog 53 (.nilFunc):=.of (by kernel_rfl) (by kernel_rfl)
theorem z53:zeroOf Tryd.prog 53=some (.nilFunc):=e53.zero
theorem KN:aY Tryd.prog 105 (.agg #[.int .u64 0,.int .u64 0,.int .u32 0,.int .u8 0,.int .u8 0,.int .u8 0,.int .u8 0,.nilFunc,.pointer none,.int .i32 0,.int .i32 0]):=.of (by kernel_rfl) (by kernel_rfl)
theorem z105:zeroOf Tryd.prog 105=some (.agg #[.int .u64 0,.int .u64 0,.int .u32 0,.int .u8 0,.int .u8 0,.int .u8 0,.int .u8 0,.nilFunc,.pointer none,.int .i32 0,.int .i32 0]):=KN.zero
theorem f7:eu Tryd.prog 7:=by
 intro d hd;rw [Tryd.underlying7] at hd;cases hd
 intro f hf;simp only [List.mem_cons,List.not_mem_nil,or_false] at hf
 rcases hf with rfl|rfl|rfl|rfl
 ·obtain ⟨i,h,_⟩:=e2.ex;exact ⟨i,h⟩
 ·obtain ⟨i,h,_⟩:=e3.ex;exact ⟨i,h⟩
 ·obtain ⟨i,h,_⟩:=e4.ex;exact ⟨i,h⟩
 ·obtain ⟨i,h,_⟩:=e6.ex;exact ⟨i,h⟩
theorem f8:eu Tryd.prog 8:=by
 intro d hd;rw [Tryd.underlying8] at hd;cases hd
 intro f hf;simp only [List.mem_cons,List.not_mem_nil,or_false] at hf
 rcases hf with rfl|rfl|rfl|rfl
 ·obtain ⟨i,h,_⟩:=e2.ex;exact ⟨i,h⟩
 ·obtain ⟨i,h,_⟩:=e3.ex;exact ⟨i,h⟩
 ·obtain ⟨i,h,_⟩:=e4.ex;exact ⟨i,h⟩
 ·obtain ⟨i,h,_⟩:=e6.ex;exact ⟨i,h⟩
theorem f13:eu Tryd.prog 13:=by
 intro d hd;rw [Tryd.underlying13] at hd;cases hd
 intro f hf;simp only [List.mem_cons,List.not_mem_nil,or_false] at hf
 rcases hf with rfl|rfl
 ·obtain ⟨i,h,_⟩:=e9.ex;exact ⟨i,h⟩
 ·obtain ⟨i,h,_⟩:=e12.ex;exact ⟨i,h⟩
theorem f14:eu Tryd.prog 14:=by
 intro d hd;rw [Tryd.underlying14] at hd;cases hd
 intro f hf;simp only [List.mem_cons,List.not_mem_nil,or_false] at hf
 rcases hf with rfl|rfl
 ·obtain ⟨i,h,_⟩:=e9.ex;exact ⟨i,h⟩
 ·obtain ⟨i,h,_⟩:=e12.ex;exact ⟨i,h⟩
theorem f18:eu Tryd.prog 18:=by
 intro d hd;rw [Tryd.underlying18] at hd;cases hd
 intro f hf;simp only [List.mem_cons,List.not_mem_nil,or_false] at hf
 rcases hf with rfl
 ·obtain ⟨i,h,_⟩:=e17.ex;exact ⟨i,h⟩
theorem f19:eu Tryd.prog 19:=by
 intro d hd;rw [Tryd.underlying19] at hd;cases hd
 intro f hf;simp only [List.mem_cons,List.not_mem_nil,or_false] at hf
 rcases hf with rfl
 ·obtain ⟨i,h,_⟩:=e17.ex;exact ⟨i,h⟩
theorem f36:eu Tryd.prog 36:=by
 intro d hd;rw [Tryd.underlying36] at hd;cases hd
 intro f hf;simp only [List.mem_cons,List.not_mem_nil,or_false] at hf
 rcases hf with rfl|rfl
 ·obtain ⟨i,h,_⟩:=e9.ex;exact ⟨i,h⟩
 ·obtain ⟨i,h,_⟩:=e9.ex;exact ⟨i,h⟩
theorem k1 {K:Prop}:aN (aY Tryd.prog 1 (.nilFunc)) K=K:=pW e1
theorem k2 {K:Prop}:aN (aY Tryd.prog 2 (.int .i64 0)) K=K:=pW e2
theorem k3 {K:Prop}:aN (aY Tryd.prog 3 (.int .i64 0)) K=K:=pW e3
theorem k4 {K:Prop}:aN (aY Tryd.prog 4 (.bool false)) K=K:=pW e4
theorem LH:(aY Tryd.prog 4 (.bool false))=True:=eq_true e4
theorem LJ:(aY Tryd.prog 5 (.int .u8 0))=True:=eq_true e5
theorem k8 {K:Prop}:aN (aY Tryd.prog 8 (.agg #[.int .i64 0,.int .i64 0,.bool false,.int .u8 0])) K=K:=pW e8
theorem k9 {K:Prop}:aN (aY Tryd.prog 9 (.string ⟨#[]⟩)) K=K:=pW e9
theorem LK:(aY Tryd.prog 9 (.string ⟨#[]⟩))=True:=eq_true e9
theorem KT:(aY Tryd.prog 25 (.int .i64 0))=True:=eq_true e25
theorem LM:Maps.Keyed Tryd.prog 9=True:=eq_true (Maps.string_keyed Tryd.underlying9)
theorem KW (s:List UInt8):sG Tryd.prog 9 (.str s)=True:=eq_true (.str Tryd.underlying9 s)
theorem KU (l:List (List UInt8)):sH Tryd.prog 9 (l.map .str)=True:=eq_true (Ep (fun n=>.str Tryd.underlying9 n) l)
attribute [go_sem] Tryd.underlying0 Tryd.underlying1 Tryd.underlying2 Tryd.underlying3 Tryd.underlying4 Tryd.underlying5 Tryd.underlying6 Tryd.underlying7 Tryd.underlying8 Tryd.underlying9
attribute [go_sem] Tryd.underlying10 Tryd.underlying11 Tryd.underlying12 Tryd.underlying13 Tryd.underlying14 Tryd.underlying15 Tryd.underlying16 Tryd.underlying17 Tryd.underlying18 Tryd.underlying19 Tryd.underlying20 Tryd.underlying21
attribute [go_sem] Tryd.underlying22 Tryd.underlying23 Tryd.underlying24 Tryd.underlying25 Tryd.underlying26 Tryd.underlying27 Tryd.underlying28 Tryd.underlying29 Tryd.underlying30 Tryd.underlying31 Tryd.underlying32 Tryd.underlying33
attribute [go_sem] Tryd.underlying34 Tryd.underlying35 Tryd.underlying36 Tryd.underlying37 Tryd.underlying38 Tryd.underlying39 Tryd.underlying40 Tryd.underlying41 Tryd.underlying42 Tryd.underlying43 Tryd.underlying44 Tryd.underlying45
attribute [go_sem] Tryd.underlying46 Tryd.underlying47 Tryd.underlying48 Tryd.underlying49 Tryd.underlying50 Tryd.underlying51 Tryd.underlying52 Tryd.underlying53 Tryd.underlying54 Tryd.underlying55 Tryd.underlying56 Tryd.underlying57
attribute [go_sem] Tryd.underlying58 Tryd.underlying59 Tryd.underlying60 Tryd.underlying61 Tryd.underlying62 Tryd.underlying63 Tryd.underlying64 Tryd.underlying65 Tryd.underlying66 Tryd.underlying67 Tryd.underlying68 Tryd.underlying69
attribute [go_sem] Tryd.underlying70 Tryd.underlying71 Tryd.underlying72 Tryd.underlying73 Tryd.underlying74 Tryd.underlying75 Tryd.underlying76 Tryd.underlying77 Tryd.underlying78 Tryd.underlying79 Tryd.underlying80 Tryd.underlying81
attribute [go_sem] Tryd.underlying82 Tryd.underlying83 Tryd.underlying84 Tryd.underlying85 Tryd.underlying86 Tryd.underlying87 Tryd.underlying88 Tryd.underlying89 Tryd.underlying90 Tryd.underlying91 Tryd.underlying92 Tryd.underlying93
attribute [go_sem] Tryd.underlying94 Tryd.underlying95 Tryd.underlying96 Tryd.underlying97 Tryd.underlying98 Tryd.underlying99 Tryd.underlying100 Tryd.underlying101 Tryd.underlying102 Tryd.underlying103 Tryd.underlying104 Tryd.underlying105
attribute [go_sem] Tryd.underlying106 k1 c1 k2 z2 c2 k3 z3
attribute [go_sem] c3 k4 LH z4 c4 LJ z5 c5
attribute [go_sem] k8 k9 LK z9
attribute [go_sem] c9
attribute [go_sem] z20 z21
attribute [go_sem] KT z25 c25
attribute [go_sem] z37 c37
attribute [go_sem] z46
attribute [go_sem] z51
attribute [go_sem] z53
attribute [go_sem] z105
attribute [go_sem] LM KW KU
theorem BP {tab:List Bool} {n:Nat} (h:n<tab.length):(tab.map AV.bool).drop n=.bool (tab.getD n false)::(tab.map AV.bool).drop (n+1):=by
 rw [List.drop_eq_getElem_cons (by simpa using h)]
 simp [List.getD,h]
set_option maxHeartbeats 1000000 in
theorem zK (tab:List Bool) (b:Int) (hl:tab.length=256) (h0:0≤b) (h1:b<256):aP Tryd.prog 34 [.cell (tab.map .bool),.int .u8 b] (.bool (tab.getD b.toNat false)) []:=by
 refine aP.bH Tryd.func34 rfl (by decide) (by simp [Tryd.f34]) [.tmp 4] rfl fun w0 T0 _=>?_
 simp only [Tryd.f34,aI]
 have hd:=BP (tab:=tab) (n:=b.toNat) (by omega)
 simp only [go_sem,Nat.mul_one,hd]
 (repeat' first|(with_reducible refine vJ.intro fun _=>?_)|((with_reducible refine aN.intro ?_ ?_);(· first|omega|(with_reducible refine aN.intro ?_ ?_<;>omega)|(simp;done)|(simp;omega)))|((with_reducible refine dB.i64 ?_ ?_ ?_);(· omega);(· omega))|((with_reducible refine Ite.decide (fun _=>?_) (fun _=>?_))<;>first|(exfalso;omega)|simp only [go_sem])|((with_reducible refine Ite.bool (fun _=>?_) (fun _=>?_))<;>simp only [go_sem])|(with_reducible refine And.intro ?_ ?_))
 refine bW.auto 0 ?_ rfl ?_<;>simp only [go_sem,Int.natCast_succ,Post]
theorem z59:zeroOf Tryd.prog 59=some (.agg (Array.replicate 256 (.bool false))):=by kernel_rfl
theorem c59:Tryd.prog.cellsOf 59=256:=by kernel_rfl
attribute [go_sem] z59 c59
def bM (s:List UInt8):Nat→List Bool
 | 0=>List.replicate 256 false
 | i+1=>(bM s i).set (s.getD i 0).toNat true
theorem fV (s:List UInt8):∀ i,(bM s i).length=256
 | 0=>by simp [bM]
 | i+1=>by simp [bM,fV s i]
set_option maxHeartbeats 1000000 in
theorem oM (s:List UInt8) (hs:∀ i,i<s.length→(s.getD i 0).toNat<128):aP Tryd.prog 33 [.str s] (.tup [.agg ((bM s s.length).map .bool),.bool true]) []:=by
 refine aP.bH Tryd.func33 rfl (by decide) (by simp [Tryd.f33]) [.cell 2 59,.tmp 3] rfl fun w0 T0 _=>?_
 simp only [Tryd.f33,aI]
 simp only [go_sem]
 refine aT.intro (fun i:Nat=>⟨21,[(0,.str s),(2,.ptr 0 0),(4,.int .i64 i)],[(0,.box 59 ((bM s i).map .bool))],1⟩) (fun i=>i≤s.length) (fun i=>s.length - i) 0 ?_ (Nat.zero_le _) fun i hi=>?_
 ·refine bQ.aC rfl ?_ ?_<;>simp only [go_sem,Int.natCast_succ,bM]
 have hlen:=fV s i
 simp only [go_sem]
 (repeat' first|(with_reducible refine vJ.intro fun _=>?_)|((with_reducible refine aN.intro ?_ ?_);(· first|omega|(with_reducible refine aN.intro ?_ ?_<;>omega)|(simp;done)|(simp;omega)))|((with_reducible refine dB.i64 ?_ ?_ ?_);(· omega);(· omega))|((with_reducible refine Ite.decide (fun _=>?_) (fun _=>?_))<;>first|(exfalso;omega)|simp only [go_sem])|((with_reducible refine Ite.bool (fun _=>?_) (fun _=>?_))<;>simp only [go_sem])|(with_reducible refine And.intro ?_ ?_))
 ·have:=hs i (by omega)
  omega
 ·refine ⟨i+1,bQ.aC rfl ?_ ?_,by omega,by omega⟩
  ·simp only [go_sem,Int.natCast_succ]
  ·simp only [go_sem,Int.natCast_succ,bM]
 ·have e:i=s.length:=by omega
  subst e
  have e2:((bM s s.length).map AV.bool).take 256=(bM s s.length).map AV.bool:=List.take_of_length_le (by simp [hlen])
  have e3:spl ((bM s s.length).map AV.bool) 0 ((bM s s.length).map AV.bool)=(bM s s.length).map AV.bool:=yR rfl
  refine bW.auto 0 ?_ ?_ ?_<;>simp only [go_sem,Int.natCast_succ,Post,e2,e3]
  simp only [go_sem,e2,hlen,List.length_map]
def cutset:List UInt8:=[97,98,99,100,101,102,103,104,105,106,107,108,109,110,111,112,113,114,115,116,117,118,119,120,121,122,48,49,50,51,52,53,54,55,56,57,45]
theorem cut_small:∀ i,i<cutset.length→(cutset.getD i 0).toNat<128:=by decide
end Go.Fv.N
/- strings.Trim at any set of small letters; IsName. -/
namespace Go.Fv.N
open Go Go.Proofs
def dD (p:UInt8→Bool) (s:List UInt8):List UInt8:=(s.reverse.dropWhile p).reverse
def qO (cut:List UInt8) (c:UInt8):Bool:=decide (c∈cut)
theorem kM (s:List UInt8) (c:UInt8):∀ i,i≤s.length→(bM s i).getD c.toNat false=decide (c∈s.take i)
 | 0,_=>by
  have h:c.toNat<256:=c.toNat_lt
  rw [List.take_zero]
  show (List.replicate 256 false).getD c.toNat false=_
  rw [List.getD_eq_getElem?_getD,List.getElem?_replicate,if_pos h]
  simp
 | i+1,h=>by
  have ih:=kM s c i (by omega)
  have hlen:=fV s i
  have hlt:i<s.length:=by omega
  have hc:=c.toNat_lt
  have htk:=List.take_succ_eq_append_getElem hlt
  rw [htk]
  simp only [bM,List.getD_eq_getElem?_getD] at ih ⊢
  rw [List.getElem?_set]
  have e:s[i]?.getD 0=s[i]:=by simp [hlt]
  rw [e]
  by_cases hq:s[i].toNat=c.toNat
  ·have hq2:s[i]=c:=UInt8.toNat_inj.1 hq
   rw [if_pos hq,if_pos (by rw [hlen];omega)]
   simp [hq2]
  ·rw [if_neg hq,ih]
   have hq2:¬c=s[i]:=fun h=>hq (by rw [h])
   rw [Bool.eq_iff_iff,decide_eq_true_eq,decide_eq_true_eq,List.mem_append,List.mem_singleton]
   exact ⟨.inl,fun h=>h.elim id fun h=>absurd h hq2⟩
theorem uh {s:List UInt8} (h0:0<s.length):s=s.take (s.length - 1)++[s.getD (s.length - 1) 0]:=by
 rw [getD_lt (by omega),List.take_append_getElem (by omega),List.take_of_length_le (by omega)]
theorem qL (p:UInt8→Bool) (t:List UInt8) (c:UInt8):dD p (t++[c])=if p c=true then dD p t else t++[c]:=by
 unfold dD
 rw [List.reverse_append,List.reverse_singleton,List.singleton_append,List.dropWhile_cons]
 split<;>simp_all
theorem F7 {p:UInt8→Bool} {s:List UInt8} (h0:0<s.length) (h:p (s.getD (s.length - 1) 0)=true):dD p (s.take (s.length - 1))=dD p s:=by
 conv=>rhs;rw [uh h0,qL,if_pos h]
theorem zN {p:UInt8→Bool} {s:List UInt8} (h:0<s.length→p (s.getD (s.length - 1) 0)=false):dD p s=s:=by
 by_cases h0:0<s.length
 ·conv=>lhs;rw [uh h0,qL,if_neg (by rw [h h0];decide)]
  exact (uh h0).symm
 ·have:s=[]:=List.eq_nil_of_length_eq_zero (by omega)
  subst this;rfl
theorem IB {p:UInt8→Bool} {s:List UInt8} (h0:0<s.length) (h:p (s.getD 0 0)=true):(s.drop 1).dropWhile p=s.dropWhile p:=by
 cases s with
 | nil=>simp at h0
 | cons c t=>
  have h':p c=true:=h
  rw [List.dropWhile_cons,if_pos h'];rfl
theorem DL {p:UInt8→Bool} {s:List UInt8} (h:0<s.length→p (s.getD 0 0)=false):s.dropWhile p=s:=by
 cases s with
 | nil=>rfl
 | cons c t=>rw [List.dropWhile_cons,if_neg (by have:=h (by simp);rw [show (c::t).getD 0 0=c from rfl] at this;rw [this];decide)]
theorem lY {p:UInt8→Bool}:∀ {s:List UInt8},s.dropWhile p=[]↔s.all p=true
 | []=>by simp
 | c::t=>by
  rw [List.dropWhile_cons,List.all_cons]
  cases h:p c with
  | true=>simpa using lY
  | false=>simp
theorem Bd (p:UInt8→Bool) (s:List UInt8):(dD p s).dropWhile p=[]↔s.all p=true:=by
 rw [lY]
 unfold dD
 rw [List.all_reverse,←lY]
 have hd:(s.reverse.dropWhile p).dropWhile p=s.reverse.dropWhile p:=by
  generalize s.reverse=t
  induction t with
  | nil=>rfl
  | cons c t ih=>
   rw [List.dropWhile_cons]
   cases h:p c with
   | true=>simpa using ih
   | false=>simp [List.dropWhile_cons,h]
 rw [hd,lY,List.all_reverse]
theorem jQ (tab:List Bool) (hl:tab.length=256) (c:UInt8):aP Tryd.prog 34 [.cell (tab.map .bool),.int .u8 c.toNat] (.bool (tab.getD c.toNat false)) []:=by
 have h:=zK tab c.toNat hl (by omega) (by have:=c.toNat_lt;omega)
 rwa [Int.toNat_natCast] at h
set_option maxHeartbeats 1000000 in
theorem yS (tab:List Bool) (hl:tab.length=256) (p:UInt8→Bool) (hp:∀ c:UInt8,tab.getD c.toNat false=p c) (s:List UInt8) :
  aP Tryd.prog 41 [.str s,.cell (tab.map .bool)] (.str (s.dropWhile p)) []:=by
 refine aP.bH Tryd.func41 rfl (by decide) (by simp [Tryd.f41]) [.tmp 4] rfl fun w0 T0 _=>?_
 simp only [Tryd.f41,aI]
 (repeat' with_reducible first|intro _|exact dn|refine rn ?_|refine ra ?_ ?_)
 refine aT.intro (fun t:List UInt8=>⟨16,[(0,.str t),(1,.cell (tab.map .bool))],[],0⟩) (fun t=>t.dropWhile p=s.dropWhile p) (fun t=>t.length) s ?_ rfl fun t he=>?_
 ·refine bQ.aC rfl ?_ ?_<;>simp only [go_sem,Int.natCast_succ]
 (repeat' with_reducible first|intro _|exact dn|refine rn ?_|refine ra ?_ ?_)
 ·have k:=jQ tab hl (t.getD 0 0)
  rw [hp] at k
  refine ak.fr (args':=[.cell (tab.map .bool),.int .u8 (t.getD 0 0).toNat]) (gJ.gX k rfl rfl) (by simp [bD,bG,aF]) 0 rfl (by simp [dG]) ?_
  cases hq:p (t.getD 0 0) with
  | true=>
   (repeat' with_reducible first|intro _|exact dn|refine rn ?_|refine ra ?_ ?_)
   refine ⟨t.drop 1,bQ.aC rfl ?_ ?_,?_,?_⟩
   ·simp only [go_sem,Int.natCast_succ]
    all_goals first|rfl|exact List.take_of_length_le (by simp)
   ·simp only [go_sem,Int.natCast_succ]
   ·rw [IB (by omega) hq];exact he
   ·simp;omega
  | false=>
   have e:t=s.dropWhile p:=by rw [←he,DL (fun _=>hq)]
   (repeat' with_reducible first|intro _|exact dn|refine rn ?_|refine ra ?_ ?_)
   refine bW.auto 0 ?_ rfl ?_<;>simp only [go_sem,Int.natCast_succ,Post,e]
 ·have e:t=s.dropWhile p:=by rw [←he,DL (fun h=>by omega)]
  refine bW.auto 0 ?_ rfl ?_<;>simp only [go_sem,Int.natCast_succ,Post,e]
set_option maxHeartbeats 1000000 in
theorem vU (tab:List Bool) (hl:tab.length=256) (p:UInt8→Bool) (hp:∀ c:UInt8,tab.getD c.toNat false=p c) (s:List UInt8) :
  aP Tryd.prog 38 [.str s,.cell (tab.map .bool)] (.str (dD p s)) []:=by
 refine aP.bH Tryd.func38 rfl (by decide) (by simp [Tryd.f38]) [.tmp 4] rfl fun w0 T0 _=>?_
 simp only [Tryd.f38,aI]
 (repeat' with_reducible first|intro _|exact dn|refine rn ?_|refine ra ?_ ?_)
 refine aT.intro (fun t:List UInt8=>⟨22,[(0,.str t),(1,.cell (tab.map .bool))],[],0⟩) (fun t=>dD p t=dD p s) (fun t=>t.length) s ?_ rfl fun t he=>?_
 ·refine bQ.aC rfl ?_ ?_<;>simp only [go_sem,Int.natCast_succ]
 have et:((t.length:Int) - 1).toNat=t.length - 1:=by omega
 (repeat' with_reducible first|intro _|refine rz ?_|refine ra ?_ ?_|omega|simp only [go_sem,et])
 ·have k:=jQ tab hl (t.getD (t.length - 1) 0)
  rw [hp] at k
  refine ak.fr (args':=[.cell (tab.map .bool),.int .u8 (t.getD (t.length - 1) 0).toNat]) (gJ.gX k rfl rfl) (by simp [bD,bG,aF]) 0 rfl (by simp [dG]) ?_
  cases hq:p (t.getD (t.length - 1) 0) with
  | true=>
   (repeat' with_reducible first|intro _|refine rz ?_|refine ra ?_ ?_|omega|simp only [go_sem,et])
   refine ⟨t.take (t.length - 1),bQ.aC rfl ?_ ?_,?_,?_⟩
   ·simp only [go_sem,Int.natCast_succ,et]
    all_goals rfl
   ·simp only [go_sem,Int.natCast_succ]
   ·rw [F7 (by omega) hq];exact he
   ·simp;omega
  | false=>
   have e:t=dD p s:=by rw [←he,zN (fun _=>hq)]
   (repeat' with_reducible first|intro _|exact dn|refine rn ?_|refine ra ?_ ?_)
   refine bW.auto 0 ?_ rfl ?_<;>simp only [go_sem,Int.natCast_succ,Post,e]
 ·have e:t=dD p s:=by rw [←he,zN (fun h=>by omega)]
  refine bW.auto 0 ?_ rfl ?_<;>simp only [go_sem,Int.natCast_succ,Post,e]
set_option maxHeartbeats 1000000 in
theorem Bc (s cut:List UInt8) (hc:∀ i,i<cut.length→(cut.getD i 0).toNat<128) (h2:2≤cut.length) :
  aP Tryd.prog 24 [.str s,.str cut] (.str ((dD (qO cut) s).dropWhile (qO cut))) []:=by
 have hlen:=fV cut cut.length
 have km:=oM cut hc
 have hg:∀ c:UInt8,(bM cut cut.length).getD c.toNat false=qO cut c:=fun c=>by
  rw [kM cut c _ (Nat.le_refl _),List.take_length];rfl
 have hne:¬cut=[]:=fun e=>by subst e;simp at h2
 refine aP.bH Tryd.func24 rfl (by decide) (by simp [Tryd.f24]) [.tmp 4] rfl fun w0 T0 _=>?_
 simp only [Tryd.f24,aI]
 by_cases h0:s=[]
 ·have e:(dD (qO cut) []).dropWhile (qO cut)=[]:=rfl
  (repeat' with_reducible first|intro _|refine rz ?_|refine ra ?_ ?_|omega|simp only [go_sem,h0])
  refine bW.auto 0 ?_ rfl ?_<;>simp only [go_sem,Int.natCast_succ,Post,e]
 generalize qO cut=p at *
 (repeat' with_reducible first|intro _|refine rz ?_|refine ra ?_ ?_|omega|simp only [go_sem,h0,hne])
 refine ak.fr (args':=[.str cut]) (gJ.gX km (by simp [kY,gW,lg]) rfl) (by simp [bD,bG,aF]) 0 (by simp [Fv.below,aB,iy]) (by simp [dG]) ?_
 generalize bM cut cut.length=tab at hlen hg ⊢
 simp only [go_sem]
 have e1:spl (List.replicate 256 (AV.bool false)) 0 (tab.map .bool)=tab.map .bool:=yR (by simp [hlen])
 refine aN.intro (by simp [hlen]) ?_
 rw [e1]
 refine aN.intro (by omega) ?_
 refine ak.fr (args':=[.str s,.cell (tab.map .bool)]) (gJ.gX (vU tab hlen p hg s) rfl rfl) ?_ 0 rfl (by simp [dG]) ?_
 ·exact ⟨_,_,rfl,⟨_,_,⟨_,_,_,rfl,jg _ 4 _,rfl⟩,rfl,rfl⟩,rfl⟩
 simp only [go_sem]
 refine ak.fr (args':=[.str (dD p s),.cell (tab.map .bool)]) (gJ.gX (yS tab hlen p hg (dD p s)) rfl rfl) ?_ 0 rfl (by simp [dG]) ?_
 ·exact ⟨_,_,rfl,⟨_,_,⟨_,_,_,rfl,jg _ 4 _,rfl⟩,rfl,rfl⟩,rfl⟩
 simp only [go_sem]
 refine bW.auto 0 ?_ rfl ?_<;>simp only [go_sem,Int.natCast_succ,Post]
def nameB (c:UInt8):Bool:=decide (97≤c.toNat) && decide (c.toNat≤122) || decide (48≤c.toNat) && decide (c.toNat≤57) || decide (c.toNat=45)
def aX (s:List UInt8):Bool:=decide (s≠[]) && decide (s.length≤40) && (decide (97≤(s.getD 0 0).toNat) && decide ((s.getD 0 0).toNat≤122)) && s.all nameB
set_option maxRecDepth 20000 in
theorem FX:∀ n:Nat,n<256→qO cutset (UInt8.ofNat n)=nameB (UInt8.ofNat n):=by decide
theorem tK:qO cutset=nameB:=funext fun c=>by
 have h:=FX c.toNat c.toNat_lt
 simpa using h
set_option maxHeartbeats 1000000 in
theorem qm (s:List UInt8):aP Tryd.prog 12 [.str s] (.bool (aX s)) []:=by
 have k:=Bc s cutset cut_small (by decide)
 rw [tK] at k
 have ht:=Bd nameB s
 have hcut:cutset=[97,98,99,100,101,102,103,104,105,106,107,108,109,110,111,112,113,114,115,116,117,118,119,120,121,122,48,49,50,51,52,53,54,55,56,57,45]:=rfl
 unfold aX
 generalize dD nameB s=t at *
 generalize t.dropWhile nameB=t at *
 generalize s.all nameB=a at *
 refine aP.bH Tryd.func12 rfl (by decide) (by simp [Tryd.f12]) [.tmp 2] rfl fun w0 T0 _=>?_
 simp only [Tryd.f12,aI]
 by_cases h0:s=[]
 ·(repeat' with_reducible first|intro _|refine rz ?_|refine ra ?_ ?_|omega|simp only [go_sem,h0])
  refine bW.auto 0 ?_ rfl ?_<;>simp only [go_sem,Int.natCast_succ,Post]
  all_goals simp
 ·have hlp:0<s.length:=List.length_pos_iff.2 h0
  (repeat' with_reducible first|intro _|refine rz ?_|refine ra ?_ ?_|omega|simp only [go_sem,h0])
  all_goals first
   |(refine ak.fr (args':=[.str s,.str cutset]) (gJ.gX k rfl rfl) (by simp [bD,bG,aF,cutset]) 0 rfl (by simp [dG]) ?_
     (repeat' with_reducible first|intro _|exact dn|refine rn ?_|refine ra ?_ ?_)
     refine bW.auto 0 ?_ rfl ?_<;>simp only [go_sem,Int.natCast_succ,Post])
   |(refine bW.auto 0 ?_ rfl ?_<;>simp only [go_sem,Int.natCast_succ,Post])
  all_goals
   rw [Bool.eq_iff_iff]
   simp only [Bool.and_eq_true,decide_eq_true_eq,ht,Bool.false_eq_true,false_iff]
   first
    | exact ⟨fun ha=>⟨⟨⟨h0,by omega⟩,by omega,by omega⟩,ha⟩,fun h=>h.2⟩
    |(intro h;omega)
end Go.Fv.N
/- The reference's NameOf. -/
namespace Go.Fv.N
open Go Go.Proofs
def tJ (s:List UInt8) (j:Nat):Prop:=(97≤(s.getD j 0).toNat∧(s.getD j 0).toNat≤122)∨(j≠0∧((48≤(s.getD j 0).toNat∧(s.getD j 0).toNat≤57)∨(s.getD j 0).toNat=45))
theorem l9 (c:UInt8):nameB c=true↔(97≤c.toNat∧c.toNat≤122)∨(48≤c.toNat∧c.toNat≤57)∨c.toNat=45:=by
 simp only [nameB,Bool.or_eq_true,Bool.and_eq_true,decide_eq_true_eq];omega
theorem uz (s:List UInt8):aX s=true↔s≠[]∧s.length≤40∧∀ j,j<s.length→tJ s j:=by
 unfold aX tJ
 simp only [Bool.and_eq_true,decide_eq_true_eq,List.all_eq_true]
 constructor
 ·rintro ⟨⟨⟨h0,h1⟩,h2⟩,h3⟩
  refine ⟨h0,h1,fun j hj=>?_⟩
  by_cases e:j=0
  ·subst e;exact .inl h2
  ·have:=h3 (s.getD j 0) (by rw [getD_lt hj];exact List.getElem_mem hj)
   rw [l9] at this
   rcases this with h|h
   ·exact .inl h
   ·exact .inr ⟨e,h⟩
 ·rintro ⟨h0,h1,h2⟩
  have hp:0<s.length:=List.length_pos_iff.2 h0
  refine ⟨⟨⟨h0,h1⟩,?_⟩,fun c hc=>?_⟩
  ·rcases h2 0 hp with h|h
   ·exact h
   ·exact absurd rfl h.1
  ·obtain ⟨j,hj,rfl⟩:=List.getElem_of_mem hc
   have:=h2 j hj
   rw [getD_lt hj] at this
   rw [l9]
   rcases this with h|h
   ·exact .inl h
   ·exact .inr h.2
set_option maxHeartbeats 1000000 in
theorem wY (s:List UInt8):aP Tryd.prog 18 [.str s] (.bool (aX s)) []:=by
 have hi:=uz s
 refine aP.bH Tryd.func18 rfl (by decide) (by simp [Tryd.f18]) [.tmp 2] rfl fun w0 T0 _=>?_
 simp only [Tryd.f18,aI]
 (repeat' with_reducible first|intro _|exact dn|refine rn ?_|refine ra ?_ ?_)
 refine aT.intro (fun i:Nat=>⟨45,[(7,.int .i64 i),(6,.int .i64 s.length),(0,.str s)],[],0⟩) (fun i=>i≤s.length∧∀ j,j<i→tJ s j) (fun i=>s.length - i) 0 ?_ ⟨Nat.zero_le _,fun j hj=>by omega⟩ fun i hI=>?_
 ·refine bQ.aC rfl ?_ ?_<;>simp only [go_sem,Int.natCast_succ]
 obtain ⟨hl,hI⟩:=hI
 (repeat' with_reducible first|intro _|refine rz ?_|refine ra ?_ ?_|omega|simp only [go_sem,Int.toNat_natCast])
 ·rename_i h2
  have:aX s=false:=by
   rw [←Bool.not_eq_true,hi]
   rintro ⟨_,_,h⟩
   have:=h i (by omega)
   unfold tJ at this
   omega
  refine bW.auto 0 ?_ rfl ?_<;>simp only [go_sem,Int.natCast_succ,Post,this]
 ·rename_i h2
  refine ⟨i+1,bQ.aC rfl ?_ ?_,⟨by omega,fun j hj=>?_⟩,by omega⟩
  ·simp only [go_sem,Int.natCast_succ]
  ·simp only [go_sem,Int.natCast_succ]
  ·by_cases e:j=i
   ·subst e;unfold tJ;omega
   ·exact hI j (by omega)
 all_goals
  have e:aX s=decide (¬s=[]∧(s.length:Int)≤40):=by
   rw [Bool.eq_iff_iff,decide_eq_true_eq,hi]
   exact ⟨fun h=>⟨h.1,by omega⟩,fun h=>⟨h.1,by omega,fun j hj=>hI j (by omega)⟩⟩
  refine bW.auto 0 ?_ rfl ?_<;>simp only [go_sem,Int.natCast_succ,Post,e]
end Go.Fv.N
/- Tokens of a text: what Split and its reference compute, in plain words. -/
namespace Go.Fv.N
open Go
abbrev Bytes:=List UInt8
end Go.Fv.N
/- A text is one word just where its tokens are that word alone; small letters. -/
namespace Go.Fv.N
open Go
def iU (c:UInt8):UInt8:=if 65≤c.toNat∧c.toNat≤90 then c+32 else c
def bK (s:Bytes):Bytes:=s.map iU
end Go.Fv.N
/- Titles, in plain words. -/
namespace Go.Fv.N
open Go Go.Proofs
def jo (c:UInt8):Bool:=(decide (97≤c.toNat) && decide (c.toNat≤122)) || (decide (48≤c.toNat) && decide (c.toNat≤57))
def Dc (c:UInt8):Bool:=jo c || decide (c.toNat=45)
def sU (b:Bytes):UInt8:=b.getD (b.length - 1) 0
def Ia (b:Bytes) (c:UInt8):Bytes:=if jo c=true then b++[c] else if b≠[]∧sU b≠45 then b++[45] else b
def gK (s:Bytes):Nat→Bytes
 | 0=>[]
 | i+1=>Ia (gK s i) (s.getD i 0)
theorem oz (s:Bytes):∀ i,(gK s i).length≤i
 | 0=>Nat.le_refl _
 | i+1=>by
  have ih:=oz s i
  show (Ia _ _).length≤_
  unfold Ia
  split
  ·simp;omega
  ·split
   ·simp;omega
   ·omega
def lM (s:Bytes):Bytes:=(s.reverse.dropWhile (fun c=>decide (c=45))).reverse
def iO (s:Bytes):Bytes:=lM ((gK (bK s) s.length).take 80)
def inB (out:List Bytes):Bool:=decide (out.length%2=0)
def lastB (out:List Bytes):Bytes:=out.getD (out.length - 1) []
def pS (out:List Bytes) (c:UInt8):Option (List Bytes):=
 if c.toNat=123∧inB out=false then some (out++[[]])
 else if c.toNat=125∧inB out=true∧aX (lastB out)=true then some (out++[[]])
 else if c.toNat=123∨c.toNat=125 then none
 else some (out.set (out.length - 1) (lastB out++[c]))
def pF (out:List Bytes):Bytes→Option (List Bytes)
 | []=>some out
 | c::t=>match pS out c with
  | none=>none
  | some out=>pF out t
def nP (t:Bytes):List Bytes × Bool:=match pF [[]] t with
 | none=>([],false)
 | some out=>(out,decide (out.length%2=1))
def nb (c:UInt8):Bool:=!decide (c.toNat=123) && !decide (c.toNat=125)
theorem G5 {out out':List Bytes} {c:UInt8} (h:pS out c=some out') (h0:out≠[]):out'.length≤out.length+1∧out'≠[]:=by
 unfold pS at h
 split at h
 ·cases h;simp
 ·split at h
  ·cases h;simp
  ·split at h
   ·cases h
   ·cases h
    refine ⟨by simp,fun h=>h0 ?_⟩
    have:=congrArg List.length h
    exact List.eq_nil_of_length_eq_zero (by simpa using this)
theorem ug (out:List Bytes) (x:Bytes):lastB (out++[x])=x:=by unfold lastB;simp [List.getD_eq_getElem?_getD]
theorem Kz {out out':List Bytes} {c:UInt8} {k:Nat} (h:pS out c=some out') (h0:out≠[]) (hk:∀ p,p∈out→p.length≤k):∀ p,p∈out'→p.length≤k+1:=by
 have hl:(lastB out).length≤k:=by
  have h1:out.length - 1<out.length:=by have:=List.length_pos_iff.2 h0;omega
  unfold lastB
  rw [getD_lt h1]
  exact hk _ (List.getElem_mem h1)
 unfold pS at h
 intro p hp
 split at h
 ·cases h
  rcases List.mem_append.1 hp with hp|hp
  ·have:=hk p hp;omega
  ·rw [List.mem_singleton.1 hp];exact Nat.zero_le _
 ·split at h
  ·cases h
   rcases List.mem_append.1 hp with hp|hp
   ·have:=hk p hp;omega
   ·rw [List.mem_singleton.1 hp];exact Nat.zero_le _
  ·split at h
   ·cases h
   ·cases h
    rcases List.mem_or_eq_of_mem_set hp with hp|hp
    ·have:=hk p hp;omega
    ·rw [hp,List.length_append];simp;omega
theorem Jm:∀ (t:Bytes) (out out':List Bytes) (k:Nat),pF out t=some out'→out≠[]→(∀ p,p∈out→p.length≤k)→(∀ p,p∈out'→p.length≤k+t.length)∧out'.length≤out.length+t.length
 | [],out,out',k,h,_,hk=>by cases h;exact ⟨hk,Nat.le_refl _⟩
 | c::t,out,out',k,h,h0,hk=>by
  have h':(match pS out c with|none=>none|some out=>pF out t)=some out':=h
  cases hS:pS out c with
  | none=>rw [hS] at h';cases h'
  | some o2=>
   rw [hS] at h'
   have l2:=G5 hS h0
   have ih:=Jm t o2 out' (k+1) h' l2.2 (Kz hS h0 hk)
   refine ⟨fun p hp=>?_,?_⟩
   ·have:=ih.1 p hp
    rw [List.length_cons];omega
   ·rw [List.length_cons];omega
theorem IZ (t:Bytes):(∀ p,p∈(nP t).1→p.length≤t.length)∧(nP t).1.length≤t.length+1:=by
 unfold nP
 cases h:pF [[]] t with
 | none=>exact ⟨fun p hp=>(by cases hp),Nat.zero_le _⟩
 | some out=>
  have:=Jm t [[]] out 0 h (by simp) (fun p hp=>by rw [List.mem_singleton.1 hp];exact Nat.le_refl _)
  exact ⟨fun p hp=>by have:=this.1 p hp;omega,by have:=this.2;simp at this;dsimp only;omega⟩
theorem oU (pre:List Bytes):∀ (u:Bytes) (cur t:Bytes),u.all nb=true→pF (pre++[cur]) (u++t)=pF (pre++[cur++u]) t
 | [],cur,t,_=>by simp
 | c::u,cur,t,h=>by
  rw [List.all_cons,Bool.and_eq_true] at h
  obtain ⟨h1,h2⟩:=h
  unfold nb at h1
  simp only [Bool.and_eq_true,Bool.not_eq_true',decide_eq_false_iff_not] at h1
  have hS:pS (pre++[cur]) c=some (pre++[cur++[c]]):=by
   unfold pS
   rw [if_neg (by omega),if_neg (by omega),if_neg (by omega)]
   have e1:lastB (pre++[cur])=cur:=by unfold lastB;simp [List.getD_eq_getElem?_getD]
   rw [e1]
   simp
  show (match pS (pre++[cur]) c with|none=>none|some out=>pF out (u++t))=_
  rw [hS]
  dsimp only
  rw [oU pre u (cur++[c]) t h2]
  simp
def spl:Nat→Bytes→Option (List (Bytes × Bytes) × Bytes)
 | 0,_=>none
 | n+1,t=>match t.dropWhile nb with
  | []=>some ([],t)
  | c::r=>if c.toNat=125 then none else
   match r.dropWhile nb with
   | []=>none
   | d::r2=>if d.toNat=125∧aX (r.takeWhile nb)=true then
     match spl n r2 with
     | none=>none
     | some (l,z)=>some ((t.takeWhile nb,r.takeWhile nb)::l,z)
    else none
theorem H7 (s:Bytes):(s.takeWhile nb).all nb=true:=by
 induction s with
 | nil=>rfl
 | cons c s ih=>
  rw [List.takeWhile_cons]
  split
  ·rename_i h;rw [List.all_cons,h,ih];rfl
  ·rfl
theorem dw_head {s:Bytes} {c:UInt8} {r:Bytes} (h:s.dropWhile nb=c::r):nb c=false:=by
 induction s with
 | nil=>cases h
 | cons x s ih=>
  rw [List.dropWhile_cons] at h
  split at h
  ·exact ih h
  ·rename_i hx
   cases h
   simpa using hx
theorem Dj (s:Bytes):s.takeWhile nb++s.dropWhile nb=s:=List.takeWhile_append_dropWhile
theorem CS:∀ (n:Nat) (t:Bytes) (pre:List Bytes) (cur:Bytes),t.length<n→pre.length%2=0 →
  (match spl n t with
   | none=>(match pF (pre++[cur]) t with|none=>True|some out=>out.length%2=0)
   | some (l,z)=>(match l with
    | []=>pF (pre++[cur]) t=some (pre++[cur++z])
    |(a,b)::l'=>pF (pre++[cur]) t=some (pre++(cur++a)::b::(l'.flatMap (fun p=>[p.1,p.2])++[z]))∧a=t.takeWhile nb)):=by
 intro n
 induction n with
 | zero=>
  intro t pre cur h _
  omega
 | succ n ih=>
  intro t pre cur hn hp
  have happ:=Dj t
  have hall:=H7 t
  unfold spl
  cases h:t.dropWhile nb with
  | nil=>
   rw [h,List.append_nil] at happ
   rw [happ] at hall
   dsimp only
   have:=oU pre t cur [] hall
   rw [List.append_nil] at this
   rw [this];rfl
  | cons c r=>
   have hc:=dw_head h
   have hc2:c.toNat=123∨c.toNat=125:=by unfold nb at hc;simp at hc;omega
   rw [h] at happ
   have hT:=oU pre (t.takeWhile nb) cur (c::r) hall
   rw [happ] at hT
   have hlr:r.length+1≤t.length:=by
    have:=congrArg List.length happ
    simp at this;omega
   have hlen:(pre++[cur++t.takeWhile nb]).length%2=1:=by simp;omega
   have hin:inB (pre++[cur++t.takeWhile nb])=false:=by unfold inB;rw [hlen];rfl
   by_cases h125:c.toNat=125
   ·dsimp only
    rw [if_pos h125]
    dsimp only
    rw [hT]
    show (match (match pS (pre++[cur++t.takeWhile nb]) c with|none=>none|some out=>pF out r) with|none=>True|some out=>_)
    unfold pS
    rw [if_neg (by omega),hin,if_neg (by simp),if_pos (by omega)]
    trivial
   ·dsimp only
    rw [if_neg h125]
    have hS:pS (pre++[cur++t.takeWhile nb]) c=some ((pre++[cur++t.takeWhile nb])++[[]]):=by
     unfold pS
     rw [if_pos ⟨by omega,hin⟩]
    have hT2:pF (pre++[cur]) t=pF ((pre++[cur++t.takeWhile nb])++[[]]) r:=by
     rw [hT]
     show (match pS (pre++[cur++t.takeWhile nb]) c with|none=>none|some out=>pF out r)=_
     rw [hS]
    have happ2:=Dj r
    have hall2:=H7 r
    cases h2:r.dropWhile nb with
    | nil=>
     rw [h2,List.append_nil] at happ2
     rw [happ2] at hall2
     dsimp only
     have:=oU (pre++[cur++t.takeWhile nb]) r [] [] hall2
     rw [List.append_nil] at this
     rw [hT2,this]
     show (_:List Bytes).length%2=0
     simp;omega
    | cons d r2=>
     have hd:=dw_head h2
     have hd2:d.toNat=123∨d.toNat=125:=by unfold nb at hd;simp at hd;omega
     rw [h2] at happ2
     have hT3:=oU (pre++[cur++t.takeWhile nb]) (r.takeWhile nb) [] (d::r2) hall2
     rw [happ2,List.nil_append] at hT3
     have hlen2:((pre++[cur++t.takeWhile nb])++[r.takeWhile nb]).length%2=0:=by simp;omega
     have hin2:inB ((pre++[cur++t.takeWhile nb])++[r.takeWhile nb])=true:=by unfold inB;rw [hlen2];rfl
     have hla:lastB ((pre++[cur++t.takeWhile nb])++[r.takeWhile nb])=r.takeWhile nb:=by unfold lastB;simp [List.getD_eq_getElem?_getD]
     have hlr2:r2.length+1≤r.length:=by
      have:=congrArg List.length happ2
      simp at this;omega
     by_cases hok:d.toNat=125∧aX (r.takeWhile nb)=true
     ·dsimp only
      rw [if_pos hok]
      have hS2:pS ((pre++[cur++t.takeWhile nb])++[r.takeWhile nb]) d=some (((pre++[cur++t.takeWhile nb])++[r.takeWhile nb])++[[]]):=by
       unfold pS
       rw [if_neg (by omega),if_pos ⟨hok.1,hin2,by rw [hla];exact hok.2⟩]
      have hT4:pF (pre++[cur]) t=pF (((pre++[cur++t.takeWhile nb])++[r.takeWhile nb])++[[]]) r2:=by
       rw [hT2,hT3]
       show (match pS ((pre++[cur++t.takeWhile nb])++[r.takeWhile nb]) d with|none=>none|some out=>pF out r2)=_
       rw [hS2]
      have ih2:=ih r2 ((pre++[cur++t.takeWhile nb])++[r.takeWhile nb]) [] (by omega) hlen2
      cases hs:spl n r2 with
      | none=>
       rw [hs] at ih2
       dsimp only at ih2 ⊢
       rw [hT4]
       exact ih2
      | some q=>
       obtain ⟨l,z⟩:=q
       rw [hs] at ih2
       dsimp only at ih2 ⊢
       refine ⟨?_,rfl⟩
       rw [hT4]
       cases l with
       | nil=>
        dsimp only at ih2
        rw [ih2]
        simp
       | cons p l'=>
        obtain ⟨a,b⟩:=p
        dsimp only at ih2
        rw [ih2.1]
        simp
     ·dsimp only
      rw [if_neg hok]
      dsimp only
      rw [hT2,hT3]
      show (match (match pS ((pre++[cur++t.takeWhile nb])++[r.takeWhile nb]) d with|none=>none|some out=>pF out r2) with|none=>True|some out=>_)
      unfold pS
      rw [hin2,hla,if_neg (by simp),if_neg (fun h=>hok ⟨h.1,h.2.2⟩),if_pos hd2]
      trivial
structure Fc where
 (n t:Bytes)
def Fc.av (x:Fc):List AV:=[.str x.n,.str x.t]
def Fc.zero:Fc:=⟨[],[]⟩
abbrev JB (l:List Fc):au:=.objs 2 (l.map Fc.av)
instance:FC Fc.av:=⟨fun _=>rfl⟩
theorem rO (l:List Fc) {i:Nat} (h:i<l.length):(l.map Fc.av).getD i []=[.str (l.getD i Fc.zero).n,.str (l.getD i Fc.zero).t]:=by
 simp [List.getD_eq_getElem?_getD,h,Fc.av]
def oD (l:List Fc):Nat→Int
 | 0=>0
 | i+1=>if oD l i≠0 then oD l i else if aX (l.getD i Fc.zero).n=true then (if (l.getD i Fc.zero).n∈(l.map Fc.n).take i then 6 else if 1000<(l.getD i Fc.zero).t.length then 4 else 0) else 5
theorem BX {l:List Fc} {i n:Nat} (h:oD l i≠0) (hn:i≤n):oD l n=oD l i:=by
 have key:∀ j,oD l (i+j)=oD l i:=by
  intro j
  induction j with
  | zero=>rfl
  | succ j ih=>
   show (if oD l (i+j)≠0 then oD l (i+j) else _)=_
   rw [ih,if_pos h]
 have:=key (n - i)
 rwa [show i+(n - i)=n by omega] at this
theorem sZ {l:List Fc}:∀ i,i≤l.length→oD l i=0→∀ x,x∈l.take i→x.t.length≤1000
 | 0,_,_,x,hx=>by simp at hx
 | i+1,hi,h,x,hx=>by
  have h0:oD l i=0:=Classical.byContradiction fun h2=>h2 ((BX h2 (Nat.le_succ i)).symm.trans h)
  have hil:i<l.length:=by omega
  rw [List.take_succ_eq_append_getElem hil] at hx
  rcases List.mem_append.1 hx with hx|hx
  ·exact sZ i (by omega) h0 x hx
  ·have hs:oD l (i+1)=if oD l i≠0 then oD l i else if aX (l.getD i Fc.zero).n=true then (if (l.getD i Fc.zero).n∈(l.map Fc.n).take i then 6 else if 1000<(l.getD i Fc.zero).t.length then 4 else 0) else 5:=rfl
   rw [h0,if_neg (by simp),h] at hs
   rw [List.mem_singleton.1 hx,←getD_lt (d:=Fc.zero) hil]
   split at hs
   ·split at hs
    ·cases hs
    ·split at hs
     ·cases hs
     ·omega
   ·cases hs
def dV (F:List Fc) (p:Bytes):Option Bytes:=(F.find? fun x=>decide (x.n=p)).map Fc.t
theorem DU:∀ (F:List Fc) (p:Bytes),F.find? (fun x=>decide (x.n=p))=(kJ (F.map Fc.n) p).bind fun j=>F[j]?
 | [],p=>rfl
 | x::F,p=>by
  rw [List.find?_cons,List.map_cons]
  unfold kJ
  by_cases h:x.n=p
  ·rw [decide_eq_true h,if_pos h];rfl
  ·rw [decide_eq_false h,if_neg h]
   dsimp only
   rw [DU F p]
   cases kJ (F.map Fc.n) p<;>rfl
theorem EF (F:List Fc) (p:Bytes):yt ((F.map Fc.n).map .str) ((F.map Fc.t).map .str) (.str p)=(dV F p).getD []∧(bF ((F.map Fc.n).map .str) (.str p)).isSome=(dV F p).isSome:=by
 unfold yt jC dV
 rw [ji,DU]
 cases h:kJ (F.map Fc.n) p with
 | none=>exact ⟨rfl,rfl⟩
 | some j=>
  have hj:=fJ h
  rw [List.getElem?_map] at hj
  cases hf:F[j]? with
  | none=>rw [hf] at hj;cases hj
  | some x=>
   dsimp only [Option.bind]
   rw [List.getElem?_map,List.getElem?_map,hf]
   exact ⟨rfl,rfl⟩
def ttl (F:List Fc) (P:List Bytes):Nat→Option Bytes
 | 0=>some []
 | i+1=>match ttl F P i with
  | none=>none
  | some s=>if i%2=1 then (match dV F (P.getD i []) with|none=>none|some t=>some (s++t)) else some (s++P.getD i [])
theorem H6 {F:List Fc} {P:List Bytes} {i:Nat} (h:ttl F P i=none):∀ j,ttl F P (i+j)=none
 | 0=>h
 | j+1=>by
  show (match ttl F P (i+j) with|none=>none|some s=>_)=none
  rw [H6 h j]
theorem JO {F:List Fc} {P:List Bytes} {i n:Nat} (h:ttl F P i=none) (hn:i≤n):ttl F P n=none:=by
 have:=H6 h (n - i)
 rwa [show i+(n - i)=n by omega] at this
theorem wQ {F:List Fc} (hF:∀ x,x∈F→x.t.length≤1000) {p t:Bytes} (h:dV F p=some t):t.length≤1000:=by
 unfold dV at h
 cases hf:F.find? (fun x=>decide (x.n=p)) with
 | none=>rw [hf] at h;cases h
 | some x=>
  rw [hf] at h
  cases h
  exact hF x (List.mem_of_find?_eq_some hf)
theorem Em {F:List Fc} {P:List Bytes} (hF:∀ x,x∈F→x.t.length≤1000) (hP:∀ p,p∈P→p.length≤1000):∀ i s,i≤P.length→ttl F P i=some s→s.length≤1000*i
 | 0,s,_,h=>by cases h;exact Nat.zero_le _
 | i+1,s,hi,h=>by
  have h':(match ttl F P i with|none=>none|some s=>if i%2=1 then (match dV F (P.getD i []) with|none=>none|some t=>some (s++t)) else some (s++P.getD i []))=some s:=h
  cases hs:ttl F P i with
  | none=>rw [hs] at h';cases h'
  | some s0=>
   rw [hs] at h'
   have ih:=Em hF hP i s0 (by omega) hs
   dsimp only at h'
   split at h'
   ·cases ht:dV F (P.getD i []) with
    | none=>rw [ht] at h';cases h'
    | some t=>
     rw [ht] at h'
     cases h'
     have:=wQ hF ht
     rw [List.length_append];omega
   ·cases h'
    have:=hP (P.getD i []) (by rw [getD_lt (by omega)];exact List.getElem_mem (by omega))
    rw [List.length_append];omega
def jZ (t:Bytes) (F:List Fc):Bytes × Int:=
 if 50<F.length∨200<t.length then ([],4)
 else if oD F F.length≠0 then ([],oD F F.length)
 else if (nP t).2=false then ([],8)
 else match ttl F (nP t).1 (nP t).1.length with
  | none=>([],10)
  | some s=>if iO s=[] then ([],9) else (iO s,0)
end Go.Fv.N
/- Small letters: the bytes on the way. -/
namespace Go.Fv.N
open Go Go.Proofs
theorem iD (l:List UInt8):(aK l).length=l.length:=by simp [aK]
theorem jy (l:List UInt8):bytesOf (aK l)=l:=by
 unfold bytesOf aK
 rw [List.map_map]
 conv=>rhs;rw [←List.map_id l]
 refine List.map_congr_left fun b _=>?_
 simp
def cO (s:List UInt8) (i:Nat):List Int:=aK ((s.take i).map iU++s.drop i)
theorem o7 (s:List UInt8):cO s 0=aK s:=by simp [cO]
theorem qX (s:List UInt8):bytesOf (cO s s.length)=bK s:=by
 unfold cO
 rw [jy];simp [bK]
theorem lK (s:List UInt8) (i:Nat):(cO s i).length=s.length:=by
 simp [cO,aK];omega
theorem lJ {s:List UInt8} {i:Nat} (h:i<s.length):(cO s i).getD i 0=((s.getD i 0).toNat:Int):=by
 unfold cO aK
 simp only [List.getD_eq_getElem?_getD,List.getElem?_map]
 rw [List.getElem?_append_right (by simp;omega)]
 have e:i - ((s.take i).map iU).length=0:=by simp;omega
 rw [e,List.getElem?_drop]
 simp [h]
theorem CY (c:UInt8):((iU c).toNat:Int)=if 65≤c.toNat∧c.toNat≤90 then (c.toNat:Int)+32 else c.toNat:=by
 unfold iU
 split
 ·rw [UInt8.toNat_add]
  have:(32:UInt8).toNat=32:=rfl
  rw [this];omega
 ·rfl
theorem oZ {s:List UInt8} {i:Nat} (h:i<s.length):cO s (i+1)=if 65≤(s.getD i 0).toNat∧(s.getD i 0).toNat≤90 then (cO s i).set i (((s.getD i 0).toNat:Int)+32) else cO s i:=by
 have hb:=CY (s.getD i 0)
 have e1:cO s (i+1)=(cO s i).set i ((iU (s.getD i 0)).toNat:Int):=by
  unfold cO aK
  rw [List.take_succ_eq_append_getElem h,getD_lt h]
  have hd:s.drop i=s[i]::s.drop (i+1):=List.drop_eq_getElem_cons h
  rw [hd]
  simp only [List.map_append,List.map_cons,List.map_nil]
  have hl:(((s.take i).map iU).map fun b=>(b.toNat:Int)).length=i:=by simp;omega
  rw [List.set_append_right (h:=by omega),hl,Nat.sub_self,List.set_cons_zero]
  simp
 rw [e1,hb]
 split
 ·rfl
 ·have hg:=lJ h
  rw [←hg]
  apply List.ext_getElem?
  intro j
  rw [List.getElem?_set]
  split
  ·rename_i e;subst e
   have hl:=lK s i
   simp [List.getD_eq_getElem?_getD,hl,h]
  ·rfl
end Go.Fv.N
/- Small letters. -/
namespace Go.Fv.N
open Go Go.Proofs
set_option maxHeartbeats 1000000 in
theorem Hu (s:List UInt8):aP Tryd.prog 27 [.str s] (.str (bK s)) []:=by
 have h0:=o7 s
 have hz:=qX s
 refine aP.bH Tryd.func27 rfl (by decide) (by simp [Tryd.f27]) [.tmp 2] rfl fun w0 T0 _=>?_
 simp only [Tryd.f27,aI]
 (repeat' with_reducible first|intro _|refine rz ?_|refine ra ?_ ?_|omega|simp only [go_sem,iD])
 refine aT.intro (fun i:Nat=>⟨30,[(10,.int .i64 i),(9,.int .i64 s.length),(8,.own 0),(3,.own 0)],[(0,.row 5 (.ints .u8 (cO s i)))],1⟩) (fun i=>i≤s.length) (fun i=>s.length - i) 0 ?_ (Nat.zero_le _) fun i hi=>?_
 ·refine bQ.aC rfl ?_ ?_<;>simp only [go_sem,Int.natCast_succ,h0]
 by_cases hlt:i<s.length
 ·have hg:=lJ hlt
  have hst:=oZ hlt
  have hl:=lK s i
  have hc2:=(s.getD i 0).toNat_lt
  generalize s.getD i 0=c at *
  by_cases hc:65≤c.toNat∧c.toNat≤90
  ·rw [if_pos hc] at hst
   have e1:(c.toNat:Int)+97 - 65=(c.toNat:Int)+32:=by omega
   (repeat' with_reducible first|intro _|refine rz ?_|refine ra ?_ ?_|omega|simp only [go_sem,Int.toNat_natCast,hg,hl,e1])
   refine ⟨i+1,bQ.aC rfl ?_ ?_,by omega,by omega⟩<;>simp only [go_sem,Int.natCast_succ,hst]
  ·rw [if_neg hc] at hst
   (repeat' with_reducible first|intro _|refine rz ?_|refine ra ?_ ?_|omega|simp only [go_sem,Int.toNat_natCast,hg,hl])
   refine ⟨i+1,bQ.aC rfl ?_ ?_,by omega,by omega⟩<;>simp only [go_sem,Int.natCast_succ,hst]
 ·have e:i=s.length:=by omega
  subst e
  (repeat' with_reducible first|intro _|refine rz ?_|refine ra ?_ ?_|omega|simp only [go_sem,hz])
  refine bW.auto 0 ?_ rfl ?_<;>simp only [go_sem,Int.natCast_succ,Post]
  all_goals exact hz
set_option maxHeartbeats 1000000 in
theorem AQ (s:List UInt8):aP Tryd.prog 21 [.str s] (.str (bK s)) []:=by
 have h0:=o7 s
 have hz:=qX s
 refine aP.bH Tryd.func21 rfl (by decide) (by simp [Tryd.f21]) [.tmp 2] rfl fun w0 T0 _=>?_
 simp only [Tryd.f21,aI]
 (repeat' with_reducible first|intro _|refine rz ?_|refine ra ?_ ?_|omega|simp only [go_sem,iD])
 refine aT.intro (fun i:Nat=>⟨29,[(10,.int .i64 i),(9,.int .i64 s.length),(8,.own 0),(3,.own 0)],[(0,.row 5 (.ints .u8 (cO s i)))],1⟩) (fun i=>i≤s.length) (fun i=>s.length - i) 0 ?_ (Nat.zero_le _) fun i hi=>?_
 ·refine bQ.aC rfl ?_ ?_<;>simp only [go_sem,Int.natCast_succ,h0]
 by_cases hlt:i<s.length
 ·have hg:=lJ hlt
  have hst:=oZ hlt
  have hl:=lK s i
  have hc2:=(s.getD i 0).toNat_lt
  generalize s.getD i 0=c at *
  by_cases hc:65≤c.toNat∧c.toNat≤90
  ·rw [if_pos hc] at hst
   have e1:(c.toNat:Int)+97 - 65=(c.toNat:Int)+32:=by omega
   (repeat' with_reducible first|intro _|refine rz ?_|refine ra ?_ ?_|omega|simp only [go_sem,Int.toNat_natCast,hg,hl,e1])
   refine ⟨i+1,bQ.aC rfl ?_ ?_,by omega,by omega⟩<;>simp only [go_sem,Int.natCast_succ,hst]
  ·rw [if_neg hc] at hst
   (repeat' with_reducible first|intro _|refine rz ?_|refine ra ?_ ?_|omega|simp only [go_sem,Int.toNat_natCast,hg,hl])
   refine ⟨i+1,bQ.aC rfl ?_ ?_,by omega,by omega⟩<;>simp only [go_sem,Int.natCast_succ,hst]
 ·have e:i=s.length:=by omega
  subst e
  (repeat' with_reducible first|intro _|refine rz ?_|refine ra ?_ ?_|omega|simp only [go_sem,hz])
  refine bW.auto 0 ?_ rfl ?_<;>simp only [go_sem,Int.natCast_succ,Post]
  all_goals exact hz
end Go.Fv.N
