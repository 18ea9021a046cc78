/-
  A part of the proof of the claim: walks over the program's functions and the plain laws that these need. No condition of its own.
-/
import Derived.Test.YtkigppimkbkjoaaDoorFvPart12
import Derived.Test.YtkigppimkbkjoaaDoorProg
import Derived.Test.YtkigppimkbkjoaaDoorFvPart11
import Derived.Shelf.Strings.Shaped
import Derived.Test.YtkigppimkbkjoaaDoorFvPart5
import Derived.Test.YtkigppimkbkjoaaDoorFvPart6
set_option linter.unusedSimpArgs false
set_option linter.unusedVariables false
set_option maxRecDepth 8000
set_option linter.unnecessarySimpa false
/- Facts about the program's types: each shown by reckoning it out. -/
namespace Go.Fv.J
open Go Go.Proofs
theorem e1:bK Tryd.prog 1 (.nilFunc):=.of (by kernel_rfl) (by kernel_rfl)
theorem e2:bK Tryd.prog 2 (.int .i64 0):=.of (by kernel_rfl) (by kernel_rfl)
theorem c2:Tryd.prog.cellsOf 2=1:=e2.cellsOf
theorem e3:bK Tryd.prog 3 (.int .i64 0):=.of (by kernel_rfl) (by kernel_rfl)
theorem z3:zeroOf Tryd.prog 3=some (.int .i64 0):=e3.zero
theorem c3:Tryd.prog.cellsOf 3=1:=e3.cellsOf
theorem e4:bK Tryd.prog 4 (.bool false):=.of (by kernel_rfl) (by kernel_rfl)
theorem z4:zeroOf Tryd.prog 4=some (.bool false):=e4.zero
theorem c4:Tryd.prog.cellsOf 4=1:=e4.cellsOf
theorem e6:bK Tryd.prog 6 (.int .u8 0):=.of (by kernel_rfl) (by kernel_rfl)
theorem e8:bK Tryd.prog 8 (.agg #[.int .i64 0,.int .i64 0,.bool false,.int .u8 0]):=.of (by kernel_rfl) (by kernel_rfl)
theorem c8:Tryd.prog.cellsOf 8=4:=e8.cellsOf
theorem e9:bK Tryd.prog 9 (.string ⟨#[]⟩):=.of (by kernel_rfl) (by kernel_rfl)
theorem z9:zeroOf Tryd.prog 9=some (.string ⟨#[]⟩):=e9.zero
theorem c9:Tryd.prog.cellsOf 9=1:=e9.cellsOf
theorem e12:bK Tryd.prog 12 (.int .u64 0):=.of (by kernel_rfl) (by kernel_rfl)
theorem e17:bK Tryd.prog 17 (.pointer none):=.of (by kernel_rfl) (by kernel_rfl)
theorem e20:bK Tryd.prog 20 (.nilIface):=.of (by kernel_rfl) (by kernel_rfl)
theorem z20:zeroOf Tryd.prog 20=some (.nilIface):=e20.zero
theorem e22:bK Tryd.prog 22 (.slice none 0 0):=.of (by kernel_rfl) (by kernel_rfl)
theorem z22:zeroOf Tryd.prog 22=some (.slice none 0 0):=e22.zero
theorem e24:bK Tryd.prog 24 (.int .i64 0):=.of (by kernel_rfl) (by kernel_rfl)
theorem z24:zeroOf Tryd.prog 24=some (.int .i64 0):=e24.zero
theorem c24:Tryd.prog.cellsOf 24=1:=e24.cellsOf
theorem e25:bK Tryd.prog 25 (.slice none 0 0):=.of (by kernel_rfl) (by kernel_rfl)
theorem z25:zeroOf Tryd.prog 25=some (.slice none 0 0):=e25.zero
theorem c25:Tryd.prog.cellsOf 25=1:=e25.cellsOf
theorem e27:bK Tryd.prog 27 (.agg #[.string ⟨#[]⟩,.slice none 0 0]):=.of (by kernel_rfl) (by kernel_rfl)
theorem z27:zeroOf Tryd.prog 27=some (.agg #[.string ⟨#[]⟩,.slice none 0 0]):=e27.zero
theorem NK:Tryd.prog.cellsOf 27=2:=e27.cellsOf
theorem f7:dX Tryd.prog 7:=by
 intro d hd;rw [Tryd.underlying7] at hd;cases hd
 intro f hf;simp only [List.mem_cons,List.not_mem_nil,or_false] at hf
 rcases hf with rfl|rfl|rfl|rfl
 ·obtain ⟨i,h,_⟩:=e2.ex;exact ⟨i,h⟩
 ·obtain ⟨i,h,_⟩:=e3.ex;exact ⟨i,h⟩
 ·obtain ⟨i,h,_⟩:=e4.ex;exact ⟨i,h⟩
 ·obtain ⟨i,h,_⟩:=e6.ex;exact ⟨i,h⟩
theorem f8:dX Tryd.prog 8:=by
 intro d hd;rw [Tryd.underlying8] at hd;cases hd
 intro f hf;simp only [List.mem_cons,List.not_mem_nil,or_false] at hf
 rcases hf with rfl|rfl|rfl|rfl
 ·obtain ⟨i,h,_⟩:=e2.ex;exact ⟨i,h⟩
 ·obtain ⟨i,h,_⟩:=e3.ex;exact ⟨i,h⟩
 ·obtain ⟨i,h,_⟩:=e4.ex;exact ⟨i,h⟩
 ·obtain ⟨i,h,_⟩:=e6.ex;exact ⟨i,h⟩
theorem f13:dX Tryd.prog 13:=by
 intro d hd;rw [Tryd.underlying13] at hd;cases hd
 intro f hf;simp only [List.mem_cons,List.not_mem_nil,or_false] at hf
 rcases hf with rfl|rfl
 ·obtain ⟨i,h,_⟩:=e9.ex;exact ⟨i,h⟩
 ·obtain ⟨i,h,_⟩:=e12.ex;exact ⟨i,h⟩
theorem f14:dX Tryd.prog 14:=by
 intro d hd;rw [Tryd.underlying14] at hd;cases hd
 intro f hf;simp only [List.mem_cons,List.not_mem_nil,or_false] at hf
 rcases hf with rfl|rfl
 ·obtain ⟨i,h,_⟩:=e9.ex;exact ⟨i,h⟩
 ·obtain ⟨i,h,_⟩:=e12.ex;exact ⟨i,h⟩
theorem f18:dX Tryd.prog 18:=by
 intro d hd;rw [Tryd.underlying18] at hd;cases hd
 intro f hf;simp only [List.mem_cons,List.not_mem_nil,or_false] at hf
 rcases hf with rfl
 ·obtain ⟨i,h,_⟩:=e17.ex;exact ⟨i,h⟩
theorem f19:dX Tryd.prog 19:=by
 intro d hd;rw [Tryd.underlying19] at hd;cases hd
 intro f hf;simp only [List.mem_cons,List.not_mem_nil,or_false] at hf
 rcases hf with rfl
 ·obtain ⟨i,h,_⟩:=e17.ex;exact ⟨i,h⟩
theorem f26:dX Tryd.prog 26:=by
 intro d hd;rw [Tryd.underlying26] at hd;cases hd
 intro f hf;simp only [List.mem_cons,List.not_mem_nil,or_false] at hf
 rcases hf with rfl|rfl
 ·obtain ⟨i,h,_⟩:=e9.ex;exact ⟨i,h⟩
 ·obtain ⟨i,h,_⟩:=e25.ex;exact ⟨i,h⟩
theorem f27:dX Tryd.prog 27:=by
 intro d hd;rw [Tryd.underlying27] at hd;cases hd
 intro f hf;simp only [List.mem_cons,List.not_mem_nil,or_false] at hf
 rcases hf with rfl|rfl
 ·obtain ⟨i,h,_⟩:=e9.ex;exact ⟨i,h⟩
 ·obtain ⟨i,h,_⟩:=e25.ex;exact ⟨i,h⟩
theorem k1 {K:Prop}:aO (bK Tryd.prog 1 (.nilFunc)) K=K:=zy e1
theorem k2 {K:Prop}:aO (bK Tryd.prog 2 (.int .i64 0)) K=K:=zy e2
theorem k3 {K:Prop}:aO (bK Tryd.prog 3 (.int .i64 0)) K=K:=zy e3
theorem N9:(bK Tryd.prog 3 (.int .i64 0))=True:=eq_true e3
theorem k4 {K:Prop}:aO (bK Tryd.prog 4 (.bool false)) K=K:=zy e4
theorem Oa:(bK Tryd.prog 4 (.bool false))=True:=eq_true e4
theorem Nl:(bK Tryd.prog 24 (.int .i64 0))=True:=eq_true e24
theorem Np:(bK Tryd.prog 25 (.slice none 0 0))=True:=eq_true e25
theorem Nq:(bK Tryd.prog 27 (.agg #[.string ⟨#[]⟩,.slice none 0 0]))=True:=eq_true e27
theorem Ns:(dX Tryd.prog 27)=True:=eq_true f27
theorem Ob:Maps.Keyed Tryd.prog 3=True:=eq_true (Maps.int_keyed Tryd.underlying3)
theorem Nu (n:Int):vH Tryd.prog 3 (.int .i64 n)=True:=eq_true (.int Tryd.underlying3 n)
theorem Nr (l:List Int):vI Tryd.prog 3 (l.map (.int .i64))=True:=eq_true (F7 (fun n=>.int Tryd.underlying3 n) l)
attribute [go_sem] Tryd.underlying0 Tryd.underlying1 Tryd.underlying2 Tryd.underlying3 Tryd.underlying4 Tryd.underlying5 Tryd.underlying6 Tryd.underlying7 Tryd.underlying8 Tryd.underlying9 Tryd.underlying10 Tryd.underlying11
attribute [go_sem] Tryd.underlying12 Tryd.underlying13 Tryd.underlying14 Tryd.underlying15 Tryd.underlying16 Tryd.underlying17 Tryd.underlying18 Tryd.underlying19 Tryd.underlying20 Tryd.underlying21 Tryd.underlying22 Tryd.underlying23
attribute [go_sem] Tryd.underlying24 Tryd.underlying25 Tryd.underlying26 Tryd.underlying27 Tryd.underlying28 Tryd.underlying29 Tryd.underlying30 Tryd.underlying31 Tryd.underlying32 Tryd.underlying33 Tryd.underlying34 Tryd.underlying35
attribute [go_sem] Tryd.underlying36 Tryd.underlying37 Tryd.underlying38 Tryd.underlying39 Tryd.underlying40 Tryd.underlying41 Tryd.underlying42 Tryd.underlying43 Tryd.underlying44 Tryd.underlying45 Tryd.underlying46 Tryd.underlying47
attribute [go_sem] Tryd.underlying48 Tryd.underlying49 Tryd.underlying50 Tryd.underlying51 Tryd.underlying52 Tryd.underlying53 Tryd.underlying54 Tryd.underlying55 Tryd.underlying56 Tryd.underlying57 Tryd.underlying58 Tryd.underlying59
attribute [go_sem] Tryd.underlying60 Tryd.underlying61 Tryd.underlying62 Tryd.underlying63 Tryd.underlying64 Tryd.underlying65 Tryd.underlying66 Tryd.underlying67 Tryd.underlying68 Tryd.underlying69 Tryd.underlying70 Tryd.underlying71
attribute [go_sem] Tryd.underlying72 Tryd.underlying73 Tryd.underlying74 Tryd.underlying75 Tryd.underlying76 Tryd.underlying77 Tryd.underlying78 Tryd.underlying79 Tryd.underlying80 Tryd.underlying81 Tryd.underlying82 Tryd.underlying83
attribute [go_sem] Tryd.underlying84 Tryd.underlying85 Tryd.underlying86 Tryd.underlying87 Tryd.underlying88 Tryd.underlying89 Tryd.underlying90 Tryd.underlying91 Tryd.underlying92 Tryd.underlying93 Tryd.underlying94 Tryd.underlying95
attribute [go_sem] Tryd.underlying96 Tryd.underlying97 Tryd.underlying98 Tryd.underlying99 Tryd.underlying100 Tryd.underlying101 k1 k2
attribute [go_sem] c2 k3 N9 z3 c3 k4 Oa z4 c4
attribute [go_sem] c8 z9 c9
attribute [go_sem] z20 z22
attribute [go_sem] Nl z24 c24 Np z25 c25
attribute [go_sem] Nq z27 NK
attribute [go_sem] Ns
attribute [go_sem] Ob Nu Nr
theorem l9 (b:Bool) (e:Int):aN Tryd.prog 14 [.bool b,.int .i64 e] (.int .i64 (if b=true then e else 0)) []:=by
 refine aN.bZ Tryd.func14 rfl (by decide) (by simp [Tryd.f14]) [.tmp 4] rfl fun w0 T0 _=>?_
 simp only [Tryd.f14,aH]
 cases b<;>simp only [go_sem]<;>(refine dM.auto 0 ?_ rfl ?_<;>simp only [go_sem,Int.natCast_succ,Post])
def aA:List Int→Int
 | []=>0
 | e::l=>if e=0 then aA l else e
set_option maxHeartbeats 2000000 in
theorem kU (l:List Int) (hl:l.length≤1000):aN Tryd.prog 5 [.ro (.ints .i64 l)] (.int .i64 (aA l)) []:=by
 refine aN.bZ Tryd.func5 rfl (by decide) (by simp [Tryd.f5]) [.tmp 2] rfl fun w0 T0 _=>?_
 simp only [Tryd.f5,aH]
 (repeat' with_reducible first|intro _|exact dn|refine rn ?_|refine ra ?_ ?_)
 refine bY.intro (fun i:Nat=>⟨15,[(7,.int .i64 i),(6,.int .i64 l.length),(5,.ro (.ints .i64 l))],[],0⟩) (fun i=>i≤l.length∧aA (l.drop i)=aA l) (fun i=>l.length - i) 0 ?_ ⟨Nat.zero_le _,rfl⟩ fun i hi=>?_
 ·refine bJ.bG rfl ?_ ?_<;>simp only [go_sem,Int.natCast_succ]
 obtain ⟨hi,he⟩:=hi
 (repeat' with_reducible first|intro _|exact dn|refine rn ?_|refine ra ?_ ?_)
 ·have hlt:i<l.length:=by omega
  have hd:l.drop i=l.getD i 0::l.drop (i+1):=by rw [List.drop_eq_getElem_cons hlt,getD_lt hlt]
  rw [hd,aA,if_neg (by omega)] at he
  rw [←he]
  refine dM.auto 0 ?_ rfl ?_<;>simp only [go_sem,Int.natCast_succ,Post]
 ·have hlt:i<l.length:=by omega
  have hd:l.drop i=l.getD i 0::l.drop (i+1):=by rw [List.drop_eq_getElem_cons hlt,getD_lt hlt]
  rw [hd,aA,if_pos (by omega)] at he
  refine ⟨i+1,bJ.bG rfl ?_ ?_,⟨by omega,he⟩,by omega⟩<;>simp only [go_sem,Int.natCast_succ]
  all_goals rfl
 ·have e:i=l.length:=by omega
  subst e
  rw [List.drop_length] at he
  rw [←he]
  refine dM.auto 0 ?_ rfl ?_<;>simp only [go_sem,Int.natCast_succ,Post,aA]
structure Sh where
 W:Int
 H:Int
 p:List Bool
 codes:List (List UInt8)
 text:List UInt8
def Sh.av (s:Sh):List AV:=[.int .i64 s.W,.int .i64 s.H,.ro (.bools s.p),.ro (.strs s.codes),.str s.text]
def Sh.zero:Sh:=⟨0,0,[],[],[]⟩
instance:yH Sh.av:=⟨fun _=>rfl⟩
theorem qL (a b:List Int):aA (a++b)=if aA a=0 then aA b else aA a:=by
 induction a with
 | nil=>simp [aA]
 | cons x a ih=>
  simp only [List.cons_append,aA]
  split
  ·exact ih
  ·rfl
end Go.Fv.J
/- Tokens of a text: what Split and its reference compute, in plain words. -/
namespace Go.Fv.J
open Go
abbrev Bytes:=List UInt8
abbrev Tok:=Bytes × Bool
end Go.Fv.J
/- A text is one word just where its tokens are that word alone; small letters. -/
namespace Go.Fv.J
open Go
open Go Go.Proofs
theorem D8 {tab:List Bool} {n:Nat} (h:n<tab.length):(tab.map AV.bool).drop n=.bool (tab.getD n false)::(tab.map AV.bool).drop (n+1):=by
 rw [List.drop_eq_getElem_cons (by simpa using h)]
 simp [List.getD,h]
set_option maxHeartbeats 1000000 in
theorem BH (tab:List Bool) (b:Int) (hl:tab.length=256) (h0:0≤b) (h1:b<256):aN Tryd.prog 46 [.cell (tab.map .bool),.int .u8 b] (.bool (tab.getD b.toNat false)) []:=by
 refine aN.bZ Tryd.func46 rfl (by decide) (by simp [Tryd.f46]) [.tmp 4] rfl fun w0 T0 _=>?_
 simp only [Tryd.f46,aH]
 have hd:=D8 (tab:=tab) (n:=b.toNat) (by omega)
 simp only [go_sem,Nat.mul_one,hd]
 (repeat' first|(with_reducible refine xW.intro fun _=>?_)|((with_reducible refine aO.intro ?_ ?_);(· first|omega|(with_reducible refine aO.intro ?_ ?_<;>omega)|(simp;done)|(simp;omega)))|((with_reducible refine dZ.i64 ?_ ?_ ?_);(· omega);(· omega))|((with_reducible refine Ite.decide (fun _=>?_) (fun _=>?_))<;>first|(exfalso;omega)|simp only [go_sem])|((with_reducible refine Ite.bool (fun _=>?_) (fun _=>?_))<;>simp only [go_sem])|(with_reducible refine And.intro ?_ ?_))
 refine dM.auto 0 ?_ rfl ?_<;>simp only [go_sem,Int.natCast_succ,Post]
theorem z65:zeroOf Tryd.prog 65=some (.agg (Array.replicate 256 (.bool false))):=by kernel_rfl
theorem NW:Tryd.prog.cellsOf 65=256:=by kernel_rfl
attribute [go_sem] z65 NW
def dG (s:List UInt8):Nat→List Bool
 | 0=>List.replicate 256 false
 | i+1=>(dG s i).set (s.getD i 0).toNat true
theorem jV (s:List UInt8):∀ i,(dG s i).length=256
 | 0=>by simp [dG]
 | i+1=>by simp [dG,jV s i]
set_option maxHeartbeats 1000000 in
theorem Ac (s:List UInt8) (hs:∀ i,i<s.length→(s.getD i 0).toNat<128):aN Tryd.prog 40 [.str s] (.tup [.agg ((dG s s.length).map .bool),.bool true]) []:=by
 refine aN.bZ Tryd.func40 rfl (by decide) (by simp [Tryd.f40]) [.cell 2 65,.tmp 3] rfl fun w0 T0 _=>?_
 simp only [Tryd.f40,aH]
 simp only [go_sem]
 refine bY.intro (fun i:Nat=>⟨21,[(0,.str s),(2,.ptr 0 0),(4,.int .i64 i)],[(0,.box 65 ((dG s i).map .bool))],1⟩) (fun i=>i≤s.length) (fun i=>s.length - i) 0 ?_ (Nat.zero_le _) fun i hi=>?_
 ·refine bJ.bG rfl ?_ ?_<;>simp only [go_sem,Int.natCast_succ,dG]
 have hlen:=jV s i
 simp only [go_sem]
 (repeat' first|(with_reducible refine xW.intro fun _=>?_)|((with_reducible refine aO.intro ?_ ?_);(· first|omega|(with_reducible refine aO.intro ?_ ?_<;>omega)|(simp;done)|(simp;omega)))|((with_reducible refine dZ.i64 ?_ ?_ ?_);(· omega);(· omega))|((with_reducible refine Ite.decide (fun _=>?_) (fun _=>?_))<;>first|(exfalso;omega)|simp only [go_sem])|((with_reducible refine Ite.bool (fun _=>?_) (fun _=>?_))<;>simp only [go_sem])|(with_reducible refine And.intro ?_ ?_))
 ·have:=hs i (by omega)
  omega
 ·refine ⟨i+1,bJ.bG rfl ?_ ?_,by omega,by omega⟩
  ·simp only [go_sem,Int.natCast_succ]
  ·simp only [go_sem,Int.natCast_succ,dG]
 ·have e:i=s.length:=by omega
  subst e
  have e2:((dG s s.length).map AV.bool).take 256=(dG s s.length).map AV.bool:=List.take_of_length_le (by simp [hlen])
  have e3:spl ((dG s s.length).map AV.bool) 0 ((dG s s.length).map AV.bool)=(dG s s.length).map AV.bool:=FV rfl
  refine dM.auto 0 ?_ ?_ ?_<;>simp only [go_sem,Int.natCast_succ,Post,e2,e3]
  simp only [go_sem,e2,hlen,List.length_map]
def cutset:List UInt8:=[97,98,99,100,101,102,103,104,105,106,107,108,109,110,111,112,113,114,115,116,117,118,119,120,121,122,48,49,50,51,52,53,54,55,56,57,45]
theorem cut_small:∀ i,i<cutset.length→(cutset.getD i 0).toNat<128:=by decide
end Go.Fv.J
/- strings.Trim at any set of small letters; IsName. -/
namespace Go.Fv.J
open Go Go.Proofs
def eu (p:UInt8→Bool) (s:List UInt8):List UInt8:=(s.reverse.dropWhile p).reverse
def uj (cut:List UInt8) (c:UInt8):Bool:=decide (c∈cut)
theorem uf (s:List UInt8) (c:UInt8):∀ i,i≤s.length→(dG s i).getD c.toNat false=decide (c∈s.take i)
 | 0,_=>by
  have h:c.toNat<256:=c.toNat_lt
  rw [List.take_zero]
  show (List.replicate 256 false).getD c.toNat false=_
  rw [List.getD_eq_getElem?_getD,List.getElem?_replicate,if_pos h]
  simp
 | i+1,h=>by
  have ih:=uf s c i (by omega)
  have hlen:=jV s i
  have hlt:i<s.length:=by omega
  have hc:=c.toNat_lt
  have htk:=List.take_succ_eq_append_getElem hlt
  rw [htk]
  simp only [dG,List.getD_eq_getElem?_getD] at ih ⊢
  rw [List.getElem?_set]
  have e:s[i]?.getD 0=s[i]:=by simp [hlt]
  rw [e]
  by_cases hq:s[i].toNat=c.toNat
  ·have hq2:s[i]=c:=UInt8.toNat_inj.1 hq
   rw [if_pos hq,if_pos (by rw [hlen];omega)]
   simp [hq2]
  ·rw [if_neg hq,ih]
   have hq2:¬c=s[i]:=fun h=>hq (by rw [h])
   rw [Bool.eq_iff_iff,decide_eq_true_eq,decide_eq_true_eq,List.mem_append,List.mem_singleton]
   exact ⟨.inl,fun h=>h.elim id fun h=>absurd h hq2⟩
theorem wO {s:List UInt8} (h0:0<s.length):s=s.take (s.length - 1)++[s.getD (s.length - 1) 0]:=by
 rw [getD_lt (by omega),List.take_append_getElem (by omega),List.take_of_length_le (by omega)]
theorem uh (p:UInt8→Bool) (t:List UInt8) (c:UInt8):eu p (t++[c])=if p c=true then eu p t else t++[c]:=by
 unfold eu
 rw [List.reverse_append,List.reverse_singleton,List.singleton_append,List.dropWhile_cons]
 split<;>simp_all
theorem Il {p:UInt8→Bool} {s:List UInt8} (h0:0<s.length) (h:p (s.getD (s.length - 1) 0)=true):eu p (s.take (s.length - 1))=eu p s:=by
 conv=>rhs;rw [wO h0,uh,if_pos h]
theorem BM {p:UInt8→Bool} {s:List UInt8} (h:0<s.length→p (s.getD (s.length - 1) 0)=false):eu p s=s:=by
 by_cases h0:0<s.length
 ·conv=>lhs;rw [wO h0,uh,if_neg (by rw [h h0];decide)]
  exact (wO h0).symm
 ·have:s=[]:=List.eq_nil_of_length_eq_zero (by omega)
  subst this;rfl
theorem JX {p:UInt8→Bool} {s:List UInt8} (h0:0<s.length) (h:p (s.getD 0 0)=true):(s.drop 1).dropWhile p=s.dropWhile p:=by
 cases s with
 | nil=>simp at h0
 | cons c t=>
  have h':p c=true:=h
  rw [List.dropWhile_cons,if_pos h'];rfl
theorem EZ {p:UInt8→Bool} {s:List UInt8} (h:0<s.length→p (s.getD 0 0)=false):s.dropWhile p=s:=by
 cases s with
 | nil=>rfl
 | cons c t=>rw [List.dropWhile_cons,if_neg (by have:=h (by simp);rw [show (c::t).getD 0 0=c from rfl] at this;rw [this];decide)]
theorem oI {p:UInt8→Bool}:∀ {s:List UInt8},s.dropWhile p=[]↔s.all p=true
 | []=>by simp
 | c::t=>by
  rw [List.dropWhile_cons,List.all_cons]
  cases h:p c with
  | true=>simpa using oI
  | false=>simp
theorem Jv (p:UInt8→Bool) (s:List UInt8):(eu p s).dropWhile p=[]↔s.all p=true:=by
 rw [oI]
 unfold eu
 rw [List.all_reverse,←oI]
 have hd:(s.reverse.dropWhile p).dropWhile p=s.reverse.dropWhile p:=by
  generalize s.reverse=t
  induction t with
  | nil=>rfl
  | cons c t ih=>
   rw [List.dropWhile_cons]
   cases h:p c with
   | true=>simpa using ih
   | false=>simp [List.dropWhile_cons,h]
 rw [hd,oI,List.all_reverse]
theorem qH (tab:List Bool) (hl:tab.length=256) (c:UInt8):aN Tryd.prog 46 [.cell (tab.map .bool),.int .u8 c.toNat] (.bool (tab.getD c.toNat false)) []:=by
 have h:=BH tab c.toNat hl (by omega) (by have:=c.toNat_lt;omega)
 rwa [Int.toNat_natCast] at h
set_option maxHeartbeats 1000000 in
theorem Am (tab:List Bool) (hl:tab.length=256) (p:UInt8→Bool) (hp:∀ c:UInt8,tab.getD c.toNat false=p c) (s:List UInt8) :
  aN Tryd.prog 41 [.str s,.cell (tab.map .bool)] (.str (s.dropWhile p)) []:=by
 refine aN.bZ Tryd.func41 rfl (by decide) (by simp [Tryd.f41]) [.tmp 4] rfl fun w0 T0 _=>?_
 simp only [Tryd.f41,aH]
 (repeat' with_reducible first|intro _|exact dn|refine rn ?_|refine ra ?_ ?_)
 refine bY.intro (fun t:List UInt8=>⟨16,[(0,.str t),(1,.cell (tab.map .bool))],[],0⟩) (fun t=>t.dropWhile p=s.dropWhile p) (fun t=>t.length) s ?_ rfl fun t he=>?_
 ·refine bJ.bG rfl ?_ ?_<;>simp only [go_sem,Int.natCast_succ]
 (repeat' with_reducible first|intro _|exact dn|refine rn ?_|refine ra ?_ ?_)
 ·have k:=qH tab hl (t.getD 0 0)
  rw [hp] at k
  refine ak.fr (args':=[.cell (tab.map .bool),.int .u8 (t.getD 0 0).toNat]) (gJ.gU k rfl rfl) (by simp [aW,aZ,aB]) 0 rfl (by simp [dK]) ?_
  cases hq:p (t.getD 0 0) with
  | true=>
   (repeat' with_reducible first|intro _|exact dn|refine rn ?_|refine ra ?_ ?_)
   refine ⟨t.drop 1,bJ.bG rfl ?_ ?_,?_,?_⟩
   ·simp only [go_sem,Int.natCast_succ]
    all_goals first|rfl|exact List.take_of_length_le (by simp)
   ·simp only [go_sem,Int.natCast_succ]
   ·rw [JX (by omega) hq];exact he
   ·simp;omega
  | false=>
   have e:t=s.dropWhile p:=by rw [←he,EZ (fun _=>hq)]
   (repeat' with_reducible first|intro _|exact dn|refine rn ?_|refine ra ?_ ?_)
   refine dM.auto 0 ?_ rfl ?_<;>simp only [go_sem,Int.natCast_succ,Post,e]
 ·have e:t=s.dropWhile p:=by rw [←he,EZ (fun h=>by omega)]
  refine dM.auto 0 ?_ rfl ?_<;>simp only [go_sem,Int.natCast_succ,Post,e]
set_option maxHeartbeats 1000000 in
theorem yh (tab:List Bool) (hl:tab.length=256) (p:UInt8→Bool) (hp:∀ c:UInt8,tab.getD c.toNat false=p c) (s:List UInt8) :
  aN Tryd.prog 42 [.str s,.cell (tab.map .bool)] (.str (eu p s)) []:=by
 refine aN.bZ Tryd.func42 rfl (by decide) (by simp [Tryd.f42]) [.tmp 4] rfl fun w0 T0 _=>?_
 simp only [Tryd.f42,aH]
 (repeat' with_reducible first|intro _|exact dn|refine rn ?_|refine ra ?_ ?_)
 refine bY.intro (fun t:List UInt8=>⟨22,[(0,.str t),(1,.cell (tab.map .bool))],[],0⟩) (fun t=>eu p t=eu p s) (fun t=>t.length) s ?_ rfl fun t he=>?_
 ·refine bJ.bG rfl ?_ ?_<;>simp only [go_sem,Int.natCast_succ]
 have et:((t.length:Int) - 1).toNat=t.length - 1:=by omega
 (repeat' with_reducible first|intro _|refine rz ?_|refine ra ?_ ?_|omega|simp only [go_sem,et])
 ·have k:=qH tab hl (t.getD (t.length - 1) 0)
  rw [hp] at k
  refine ak.fr (args':=[.cell (tab.map .bool),.int .u8 (t.getD (t.length - 1) 0).toNat]) (gJ.gU k rfl rfl) (by simp [aW,aZ,aB]) 0 rfl (by simp [dK]) ?_
  cases hq:p (t.getD (t.length - 1) 0) with
  | true=>
   (repeat' with_reducible first|intro _|refine rz ?_|refine ra ?_ ?_|omega|simp only [go_sem,et])
   refine ⟨t.take (t.length - 1),bJ.bG rfl ?_ ?_,?_,?_⟩
   ·simp only [go_sem,Int.natCast_succ,et]
    all_goals rfl
   ·simp only [go_sem,Int.natCast_succ]
   ·rw [Il (by omega) hq];exact he
   ·simp;omega
  | false=>
   have e:t=eu p s:=by rw [←he,BM (fun _=>hq)]
   (repeat' with_reducible first|intro _|exact dn|refine rn ?_|refine ra ?_ ?_)
   refine dM.auto 0 ?_ rfl ?_<;>simp only [go_sem,Int.natCast_succ,Post,e]
 ·have e:t=eu p s:=by rw [←he,BM (fun h=>by omega)]
  refine dM.auto 0 ?_ rfl ?_<;>simp only [go_sem,Int.natCast_succ,Post,e]
set_option maxHeartbeats 1000000 in
theorem Ju (s cut:List UInt8) (hc:∀ i,i<cut.length→(cut.getD i 0).toNat<128) (h2:2≤cut.length) :
  aN Tryd.prog 33 [.str s,.str cut] (.str ((eu (uj cut) s).dropWhile (uj cut))) []:=by
 have hlen:=jV cut cut.length
 have km:=Ac cut hc
 have hg:∀ c:UInt8,(dG cut cut.length).getD c.toNat false=uj cut c:=fun c=>by
  rw [uf cut c _ (Nat.le_refl _),List.take_length];rfl
 have hne:¬cut=[]:=fun e=>by subst e;simp at h2
 refine aN.bZ Tryd.func33 rfl (by decide) (by simp [Tryd.f33]) [.tmp 4] rfl fun w0 T0 _=>?_
 simp only [Tryd.f33,aH]
 by_cases h0:s=[]
 ·have e:(eu (uj cut) []).dropWhile (uj cut)=[]:=rfl
  (repeat' with_reducible first|intro _|refine rz ?_|refine ra ?_ ?_|omega|simp only [go_sem,h0])
  refine dM.auto 0 ?_ rfl ?_<;>simp only [go_sem,Int.natCast_succ,Post,e]
 generalize uj cut=p at *
 (repeat' with_reducible first|intro _|refine rz ?_|refine ra ?_ ?_|omega|simp only [go_sem,h0,hne])
 refine ak.fr (args':=[.str cut]) (gJ.gU km (by simp [pz,jQ,uG]) rfl) (by simp [aW,aZ,aB]) 0 (by simp [Fv.below,aC,lJ]) (by simp [dK]) ?_
 generalize dG cut cut.length=tab at hlen hg ⊢
 simp only [go_sem]
 have e1:spl (List.replicate 256 (AV.bool false)) 0 (tab.map .bool)=tab.map .bool:=FV (by simp [hlen])
 refine aO.intro (by simp [hlen]) ?_
 rw [e1]
 refine aO.intro (by omega) ?_
 refine ak.fr (args':=[.str s,.cell (tab.map .bool)]) (gJ.gU (yh tab hlen p hg s) rfl rfl) ?_ 0 rfl (by simp [dK]) ?_
 ·exact ⟨_,_,rfl,⟨_,_,⟨_,_,_,rfl,mV _ 4 _,rfl⟩,rfl,rfl⟩,rfl⟩
 simp only [go_sem]
 refine ak.fr (args':=[.str (eu p s),.cell (tab.map .bool)]) (gJ.gU (Am tab hlen p hg (eu p s)) rfl rfl) ?_ 0 rfl (by simp [dK]) ?_
 ·exact ⟨_,_,rfl,⟨_,_,⟨_,_,_,rfl,mV _ 4 _,rfl⟩,rfl,rfl⟩,rfl⟩
 simp only [go_sem]
 refine dM.auto 0 ?_ rfl ?_<;>simp only [go_sem,Int.natCast_succ,Post]
def nameB (c:UInt8):Bool:=decide (97≤c.toNat) && decide (c.toNat≤122) || decide (48≤c.toNat) && decide (c.toNat≤57) || decide (c.toNat=45)
def fA (s:List UInt8):Bool:=decide (s≠[]) && decide (s.length≤40) && (decide (97≤(s.getD 0 0).toNat) && decide ((s.getD 0 0).toNat≤122)) && s.all nameB
set_option maxRecDepth 20000 in
theorem Ih:∀ n:Nat,n<256→uj cutset (UInt8.ofNat n)=nameB (UInt8.ofNat n):=by decide
theorem Ed:uj cutset=nameB:=funext fun c=>by
 have h:=Ih c.toNat c.toNat_lt
 simpa using h
set_option maxHeartbeats 1000000 in
theorem yR (s:List UInt8):aN Tryd.prog 18 [.str s] (.bool (fA s)) []:=by
 have k:=Ju s cutset cut_small (by decide)
 rw [Ed] at k
 have ht:=Jv nameB s
 have hcut:cutset=[97,98,99,100,101,102,103,104,105,106,107,108,109,110,111,112,113,114,115,116,117,118,119,120,121,122,48,49,50,51,52,53,54,55,56,57,45]:=rfl
 unfold fA
 generalize eu nameB s=t at *
 generalize t.dropWhile nameB=t at *
 generalize s.all nameB=a at *
 refine aN.bZ Tryd.func18 rfl (by decide) (by simp [Tryd.f18]) [.tmp 2] rfl fun w0 T0 _=>?_
 simp only [Tryd.f18,aH]
 by_cases h0:s=[]
 ·(repeat' with_reducible first|intro _|refine rz ?_|refine ra ?_ ?_|omega|simp only [go_sem,h0])
  refine dM.auto 0 ?_ rfl ?_<;>simp only [go_sem,Int.natCast_succ,Post]
  all_goals simp
 ·have hlp:0<s.length:=List.length_pos_iff.2 h0
  (repeat' with_reducible first|intro _|refine rz ?_|refine ra ?_ ?_|omega|simp only [go_sem,h0])
  all_goals first
   |(refine ak.fr (args':=[.str s,.str cutset]) (gJ.gU k rfl rfl) (by simp [aW,aZ,aB,cutset]) 0 rfl (by simp [dK]) ?_
     (repeat' with_reducible first|intro _|exact dn|refine rn ?_|refine ra ?_ ?_)
     refine dM.auto 0 ?_ rfl ?_<;>simp only [go_sem,Int.natCast_succ,Post])
   |(refine dM.auto 0 ?_ rfl ?_<;>simp only [go_sem,Int.natCast_succ,Post])
  all_goals
   rw [Bool.eq_iff_iff]
   simp only [Bool.and_eq_true,decide_eq_true_eq,ht,Bool.false_eq_true,false_iff]
   first
    | exact ⟨fun ha=>⟨⟨⟨h0,by omega⟩,by omega,by omega⟩,ha⟩,fun h=>h.2⟩
    |(intro h;omega)
end Go.Fv.J
/- Rules of sorting: what CheckRules and Kind compute, in plain words. -/
namespace Go.Fv.J
open Go Go.Proofs
structure Ru where
 kind:List UInt8
 words:List (List UInt8)
 code:List UInt8
def Ru.av (r:Ru):List AV:=[.str r.kind,.ro (.strs r.words),.str r.code]
def Ru.zero:Ru:=⟨[],[],[]⟩
instance:yH Ru.av:=⟨fun _=>rfl⟩
def firstAt {α:Type} (q:α→Bool):List α→Nat→Int
 | [],_=>-1
 | x::l,i=>if q x=true then i else firstAt q l (i+1)
theorem ny {α:Type} (q:α→Bool):∀ (l:List α) (i:Nat),(0≤firstAt q l i)↔l.any q=true
 | [],i=>by simp [firstAt]
 | x::l,i=>by
  simp only [firstAt,List.any_cons]
  split
  ·rename_i h;simp [h]
  ·rename_i h;simp [h,ny q l (i+1)]
theorem Ii {α:Type} (l:List α) (d:α) {i:Nat} (h:i<l.length):l.drop i=l.getD i d::l.drop (i+1):=by
 rw [List.drop_eq_getElem_cons h,getD_lt h]
theorem qM (a b:Int):aA [a,b]=if a=0 then b else a:=by
 simp only [aA]
 split
 ·split<;>simp_all
 ·rfl
end Go.Fv.J
/- Letters, words, and the trims at one byte. -/
namespace Go.Fv.J
open Go Go.Proofs
end Go.Fv.J
/- The trims at the quote. -/
namespace Go.Fv.J
open Go Go.Proofs
end Go.Fv.J
/- The closures that put tokens. -/
namespace Go.Fv.J
open Go Go.Proofs
def Ny (t:Tok):List AV:=[.str t.1,.bool t.2]
instance:yH Ny:=⟨fun _=>rfl⟩
end Go.Fv.J
/- strings.Index, strings.Count, by the contracts of the shelf. -/
namespace Go.Fv.J
open Go Go.Proofs
end Go.Fv.J
/- The steps of the tokens, by places of the text. -/
namespace Go.Fv.J
open Go
def sub (s:Bytes) (a b:Nat):Bytes:=(s.drop a).take (b - a)
theorem sub_self (s:Bytes) (a:Nat):sub s a a=[]:=by simp [sub]
end Go.Fv.J
/- Split. -/
namespace Go.Fv.J
open Go Go.Proofs
end Go.Fv.J
/- Small letters: the bytes on the way. -/
namespace Go.Fv.J
open Go Go.Proofs
end Go.Fv.J
/- Small letters. -/
namespace Go.Fv.J
open Go Go.Proofs
end Go.Fv.J
/- CheckRules. -/
namespace Go.Fv.J
open Go Go.Proofs
end Go.Fv.J
/- The reference's IsWord. -/
namespace Go.Fv.J
open Go Go.Proofs
end Go.Fv.J
/- The reference's NameOf. -/
namespace Go.Fv.J
open Go Go.Proofs
def wE (s:List UInt8) (j:Nat):Prop:=(97≤(s.getD j 0).toNat∧(s.getD j 0).toNat≤122)∨(j≠0∧((48≤(s.getD j 0).toNat∧(s.getD j 0).toNat≤57)∨(s.getD j 0).toNat=45))
theorem yZ (c:UInt8):nameB c=true↔(97≤c.toNat∧c.toNat≤122)∨(48≤c.toNat∧c.toNat≤57)∨c.toNat=45:=by
 simp only [nameB,Bool.or_eq_true,Bool.and_eq_true,decide_eq_true_eq];omega
theorem Em (s:List UInt8):fA s=true↔s≠[]∧s.length≤40∧∀ j,j<s.length→wE s j:=by
 unfold fA wE
 simp only [Bool.and_eq_true,decide_eq_true_eq,List.all_eq_true]
 constructor
 ·rintro ⟨⟨⟨h0,h1⟩,h2⟩,h3⟩
  refine ⟨h0,h1,fun j hj=>?_⟩
  by_cases e:j=0
  ·subst e;exact .inl h2
  ·have:=h3 (s.getD j 0) (by rw [getD_lt hj];exact List.getElem_mem hj)
   rw [yZ] at this
   rcases this with h|h
   ·exact .inl h
   ·exact .inr ⟨e,h⟩
 ·rintro ⟨h0,h1,h2⟩
  have hp:0<s.length:=List.length_pos_iff.2 h0
  refine ⟨⟨⟨h0,h1⟩,?_⟩,fun c hc=>?_⟩
  ·rcases h2 0 hp with h|h
   ·exact h
   ·exact absurd rfl h.1
  ·obtain ⟨j,hj,rfl⟩:=List.getElem_of_mem hc
   have:=h2 j hj
   rw [getD_lt hj] at this
   rw [yZ]
   rcases this with h|h
   ·exact .inl h
   ·exact .inr h.2
set_option maxHeartbeats 1000000 in
theorem GU (s:List UInt8):aN Tryd.prog 19 [.str s] (.bool (fA s)) []:=by
 have hi:=Em s
 refine aN.bZ Tryd.func19 rfl (by decide) (by simp [Tryd.f19]) [.tmp 2] rfl fun w0 T0 _=>?_
 simp only [Tryd.f19,aH]
 (repeat' with_reducible first|intro _|exact dn|refine rn ?_|refine ra ?_ ?_)
 refine bY.intro (fun i:Nat=>⟨45,[(7,.int .i64 i),(6,.int .i64 s.length),(0,.str s)],[],0⟩) (fun i=>i≤s.length∧∀ j,j<i→wE s j) (fun i=>s.length - i) 0 ?_ ⟨Nat.zero_le _,fun j hj=>by omega⟩ fun i hI=>?_
 ·refine bJ.bG rfl ?_ ?_<;>simp only [go_sem,Int.natCast_succ]
 obtain ⟨hl,hI⟩:=hI
 (repeat' with_reducible first|intro _|refine rz ?_|refine ra ?_ ?_|omega|simp only [go_sem,Int.toNat_natCast])
 ·rename_i h2
  have:fA s=false:=by
   rw [←Bool.not_eq_true,hi]
   rintro ⟨_,_,h⟩
   have:=h i (by omega)
   unfold wE at this
   omega
  refine dM.auto 0 ?_ rfl ?_<;>simp only [go_sem,Int.natCast_succ,Post,this]
 ·rename_i h2
  refine ⟨i+1,bJ.bG rfl ?_ ?_,⟨by omega,fun j hj=>?_⟩,by omega⟩
  ·simp only [go_sem,Int.natCast_succ]
  ·simp only [go_sem,Int.natCast_succ]
  ·by_cases e:j=i
   ·subst e;unfold wE;omega
   ·exact hI j (by omega)
 all_goals
  have e:fA s=decide (¬s=[]∧(s.length:Int)≤40):=by
   rw [Bool.eq_iff_iff,decide_eq_true_eq,hi]
   exact ⟨fun h=>⟨h.1,by omega⟩,fun h=>⟨h.1,by omega,fun j hj=>hI j (by omega)⟩⟩
  refine dM.auto 0 ?_ rfl ?_<;>simp only [go_sem,Int.natCast_succ,Post,e]
end Go.Fv.J
/- The reference's RulesError. -/
namespace Go.Fv.J
open Go Go.Proofs
end Go.Fv.J
/- Documents, as data. -/
namespace Go.Fv.J
open Go Go.Proofs
structure Dc where
 kind:List UInt8
 pages:List Int
def Dc.av (d:Dc):List AV:=[.str d.kind,.ro (.ints .i64 d.pages)]
def Dc.zero:Dc:=⟨[],[]⟩
abbrev jD (l:List Dc):au:=.objs 2 (l.map Dc.av)
instance:yH Dc.av:=⟨fun _=>rfl⟩
theorem dH (l:List Dc) {i:Nat} (h:i<l.length):(l.map Dc.av).getD i []=[.str (l.getD i Dc.zero).kind,.ro (.ints .i64 (l.getD i Dc.zero).pages)]:=by
 simp [List.getD_eq_getElem?_getD,h,Dc.av]
end Go.Fv.J
/- Documents: what is right of them. -/
namespace Go.Fv.J
open Go Go.Proofs
def nU (l:List Int) (i:Nat):Int:=if l.getD i 0<0 then 3 else if l.getD i 0∈l.take i then 6 else 0
def jy (l:List Int) (i:Nat):Int:=aA ((List.range i).map (nU l))
def oH (d:Dc):Int:=aA [if d.kind≠[]∧fA d.kind=false then 2 else 0,if d.pages=[] then 9 else 0]
def aI (d:Dc):Int:=aA [oH d,jy d.pages d.pages.length]
def aT (l:List Dc):Int:=aA (l.map aI)
theorem oN (l:List Int) (i:Nat):jy l (i+1)=if jy l i=0 then nU l i else jy l i:=by
 unfold jy
 rw [List.range_succ,List.map_append,qL]
 simp only [List.map_cons,List.map_nil,aA]
 split<;>(try split)<;>simp_all
theorem y9 (l:List Int) (i:Nat) (h:jy l i≠0):∀ n,i≤n→jy l n=jy l i
 | 0,hn=>by rw [Nat.le_zero.1 hn]
 | n+1,hn=>by
  by_cases e:i=n+1
  ·rw [e]
  ·have ih:=y9 l i h n (by omega)
   rw [oN,if_neg (by rw [ih];exact h),ih]
theorem KE (l:List Int) (i n:Nat) (h:jy l i=0) (hi:i<n) (h1:nU l i≠0):jy l n=nU l i:=by
 have e:=oN l i
 rw [if_pos h] at e
 rw [y9 l (i+1) (by rw [e];exact h1) n (by omega),e]
def mO {α:Type} [DecidableEq α] (l:List α):List α:=l.foldl uO []
theorem Gu {α:Type} [DecidableEq α] (l:List α) (x:α):mO (l++[x])=uO (mO l) x:=by simp [mO]
theorem yT {α:Type} [DecidableEq α] (x:α):∀ (l s:List α),x∈l.foldl uO s↔x∈s∨x∈l
 | [],s=>by simp
 | y::l,s=>by rw [List.foldl_cons,yT x l,IY,List.mem_cons,or_assoc]
theorem CV {α:Type} [DecidableEq α] (l:List α) (x:α):x∈mO l↔x∈l:=by
 unfold mO;rw [yT];simp
theorem yQ {α:Type} [DecidableEq α] (l:List α) (z:α) {i:Nat} (h:i<l.length):mO (l.take (i+1))=uO (mO (l.take i)) (l.getD i z):=by
 rw [List.take_succ_eq_append_getElem h,Gu,getD_lt h]
set_option maxHeartbeats 4000000 in
theorem BG (d:Dc):aN Tryd.prog 34 [.agg d.av] (.int .i64 (aI d)) []:=by
 have k1:=yR d.kind
 unfold Dc.av aI oH
 obtain ⟨kd,l⟩:=d
 dsimp only at *
 generalize fA kd=q at *
 refine aN.bZ Tryd.func34 rfl (by decide) (by simp [Tryd.f34]) [.tmp 2] rfl fun w0 T0 _=>?_
 simp only [Tryd.f34,aH]
 by_cases hq:kd≠[]∧q=false
 ·obtain ⟨h1,rfl⟩:=hq
  have e:aA [aA [if kd≠[]∧false=false then 2 else 0,if l=[] then 9 else 0],jy l l.length]=2:=by
   rw [if_pos ⟨h1,rfl⟩];simp [aA]
  rw [e]
  (repeat' with_reducible first|intro _|refine rz ?_|refine ra ?_ ?_|omega|simp only [go_sem,h1])
  refine ak.k k1 ?_
  (repeat' with_reducible first|intro _|exact dn|refine rn ?_|refine ra ?_ ?_)
  refine dM.auto 0 ?_ rfl ?_<;>simp only [go_sem,Int.natCast_succ,Post]
 rw [if_neg hq]
 by_cases hk:kd=[]
 case' pos=>
  subst hk
  (repeat' with_reducible first|intro _|exact dn|refine rn ?_|refine ra ?_ ?_)
 case' neg=>
  have hq1:q=true:=by
   cases q with
   | true=>rfl
   | false=>exact absurd ⟨hk,rfl⟩ hq
  subst hq1
  (repeat' with_reducible first|intro _|refine rz ?_|refine ra ?_ ?_|omega|simp only [go_sem,hk])
  refine ak.k k1 ?_
  (repeat' with_reducible first|intro _|exact dn|refine rn ?_|refine ra ?_ ?_)
 all_goals first
 |(rename_i h0
   have h00:l=[]:=List.eq_nil_of_length_eq_zero (by omega)
   subst h00
   refine dM.auto 0 ?_ rfl ?_<;>simp only [go_sem,Int.natCast_succ,Post]
   all_goals (first|rfl|simp [aA]))
 | skip
 all_goals
  rename_i hne _
  have hl0:l≠[]:=by intro e;subst e;exact hne rfl
  rw [if_neg hl0]
  have hF:aA [aA [(0:Int),0],jy l l.length]=jy l l.length:=by simp only [aA];(repeat' split)<;>first|rfl|omega
  rw [hF]
  refine bY.intro (fun i:Nat=>⟨37,[(25,.int .i64 i),(24,.int .i64 l.length),(23,.ro (.ints .i64 l)),(3,.own 1)],[(1,.map ((mO (l.take i)).map (.int .i64)) ((mO (l.take i)).map fun _=>.bool true))],2⟩) (fun i=>i≤l.length∧jy l i=0) (fun i=>l.length - i) 0 ?_ ⟨Nat.zero_le _,rfl⟩ fun i hI=>?_
  ·refine bJ.bG rfl ?_ ?_<;>simp only [go_sem,Int.natCast_succ,mO,List.foldl_nil,List.map_nil]
  obtain ⟨hi,hI⟩:=hI
  by_cases hlt:i<l.length
  ·have hst:=yQ l 0 hlt
   have hsu:=oN l i
   rw [if_pos hI] at hsu
   have hat:=KE l i l.length hI hlt
   have hE:nU l i=if l.getD i 0<0 then 3 else if l.getD i 0∈mO (l.take i) then 6 else 0:=by
    unfold nU;simp only [CV]
   generalize mO (l.take i)=z at *
   by_cases h1:l.getD i 0<0
   ·rw [if_pos h1] at hE
    have hat:=hat (by rw [hE];decide)
    rw [hE] at hat
    (repeat' with_reducible first|intro _|refine rz ?_|refine ra ?_ ?_|omega|simp only [go_sem,h1])
    refine dM.auto 0 ?_ rfl ?_<;>simp only [go_sem,Int.natCast_succ,Post,hat]
   ·rw [if_neg h1] at hE
    by_cases h2:l.getD i 0∈z
    ·rw [if_pos h2] at hE
     have hat:=hat (by rw [hE];decide)
     rw [hE] at hat
     (repeat' with_reducible first|intro _|refine rz ?_|refine ra ?_ ?_|omega|simp only [go_sem,h1,h2])
     refine dM.auto 0 ?_ rfl ?_<;>simp only [go_sem,Int.natCast_succ,Post,hat]
    ·rw [if_neg h2] at hE
     (repeat' with_reducible first|intro _|refine rz ?_|refine ra ?_ ?_|omega|simp only [go_sem,h1,h2])
     refine ⟨i+1,bJ.bG rfl ?_ ?_,⟨by omega,by rw [hsu,hE]⟩,by omega⟩<;>simp only [go_sem,Int.natCast_succ,hst]
  ·have e:i=l.length:=by omega
   subst e
   (repeat' with_reducible first|intro _|exact dn|refine rn ?_|refine ra ?_ ?_)
   refine dM.auto 0 ?_ rfl ?_<;>simp only [go_sem,Int.natCast_succ,Post,hI]
theorem zL (l:List Dc) {i:Nat} (h:i<l.length):aA ((l.drop i).map aI)=if aI (l.getD i Dc.zero)=0 then aA ((l.drop (i+1)).map aI) else aI (l.getD i Dc.zero):=by
 rw [List.drop_eq_getElem_cons h,getD_lt h];rfl
set_option maxHeartbeats 4000000 in
theorem dS (l:List Dc):aN Tryd.prog 20 [.ro (jD l)] (.int .i64 (aT l)) []:=by
 unfold aT
 refine aN.bZ Tryd.func20 rfl (by decide) (by simp [Tryd.f20]) [.tmp 2] rfl fun w0 T0 _=>?_
 simp only [Tryd.f20,aH]
 (repeat' with_reducible first|intro _|refine rz ?_|refine ra ?_ ?_|omega|simp only [go_sem,List.length_map])
 refine bY.intro (fun i:Nat=>⟨18,[(6,.ro (jD l)),(7,.int .i64 l.length),(8,.int .i64 i)],[],0⟩) (fun i=>i≤l.length∧aA ((l.drop i).map aI)=aA (l.map aI)) (fun i=>l.length - i) 0 ?_ ⟨Nat.zero_le _,rfl⟩ fun i hI=>?_
 ·refine bJ.bG rfl ?_ ?_<;>simp only [go_sem,Int.natCast_succ]
 obtain ⟨hi,hI⟩:=hI
 by_cases hlt:i<l.length
 ·have he:=dH l hlt
  rw [zL l hlt] at hI
  have k1:=BG (l.getD i Dc.zero)
  unfold Dc.av at k1
  generalize aI (l.getD i Dc.zero)=a at *
  generalize l.getD i Dc.zero=r at *
  (repeat' with_reducible first|intro _|refine rz ?_|refine ra ?_ ?_|omega|simp only [go_sem,he,List.length_map])
  refine ak.k k1 ?_
  (repeat' with_reducible first|intro _|exact dn|refine rn ?_|refine ra ?_ ?_)
  ·rename_i h1
   rw [if_neg h1] at hI
   refine dM.auto 0 ?_ rfl ?_<;>simp only [go_sem,Int.natCast_succ,Post,hI]
  ·rename_i h1
   rw [if_pos (by omega)] at hI
   refine ⟨i+1,bJ.bG rfl ?_ ?_,⟨by omega,hI⟩,by omega⟩<;>simp only [go_sem,Int.natCast_succ]
 ·have e:i=l.length:=by omega
  subst e
  rw [List.drop_length] at hI
  (repeat' with_reducible first|intro _|refine rz ?_|refine ra ?_ ?_|omega|simp only [go_sem,List.length_map])
  refine dM.auto 0 ?_ rfl ?_<;>simp only [go_sem,Int.natCast_succ,Post]
  all_goals rw [←hI];rfl
set_option maxHeartbeats 8000000 in
theorem ni (d:Dc):aN Tryd.prog 6 [.agg d.av] (.int .i64 (aI d)) []:=by
 have k1:=GU d.kind
 have hdh:oH d=aA [if d.kind≠[]∧fA d.kind=false then 2 else 0,if d.pages=[] then 9 else 0]:=rfl
 unfold Dc.av aI
 generalize oH d=hd at *
 obtain ⟨kd,l⟩:=d
 dsimp only at *
 generalize fA kd=q at *
 have hl0:l=[]↔(l.length:Int)=0:=by rw [←List.length_eq_zero_iff];omega
 have w2:=l9 (decide ((l.length:Int)=0)) 9
 have e2:(if decide ((l.length:Int)=0)=true then (9:Int) else 0)=if l=[] then 9 else 0:=by
  simp only [decide_eq_true_eq,hl0]
 rw [e2] at w2
 generalize (if l=[] then (9:Int) else 0)=b at *
 refine aN.bZ Tryd.func6 rfl (by decide) (by simp [Tryd.f6]) [.tmp 2] rfl fun w0 T0 _=>?_
 simp only [Tryd.f6,aH]
 by_cases hk:kd=[]
 case' pos=>
  subst hk
  have w1:=l9 false 2
  rw [if_neg (by decide)] at w1
  rw [if_neg (fun h=>h.1 rfl)] at hdh
  have f1:=kU [0,b] (by simp)
  rw [←hdh] at f1
  (repeat' with_reducible first|intro _|exact dn|refine rn ?_|refine ra ?_ ?_)
  refine bT.lex [15] [] (by kernel_rfl) (by kernel_rfl) ?_
  (repeat' with_reducible first|intro _|exact dn|refine rn ?_|refine ra ?_ ?_)
  refine QV.intro (.bool true) ?_ ?_
  ·(repeat' with_reducible first|intro _|exact dn|refine rn ?_|refine ra ?_ ?_)
  (repeat' with_reducible first|intro _|exact dn|refine rn ?_|refine ra ?_ ?_)
  (refine QV.intro (.int .i64 0) ?_ ?_;focus ((repeat' with_reducible first|intro _|exact dn|refine rn ?_|refine ra ?_ ?_);refine ak.k (w1) ?_;(repeat' with_reducible first|intro _|exact dn|refine rn ?_|refine ra ?_ ?_)))
  (repeat' with_reducible first|intro _|exact dn|refine rn ?_|refine ra ?_ ?_)
  (refine QV.intro (.int .i64 b) ?_ ?_;focus ((repeat' with_reducible first|intro _|exact dn|refine rn ?_|refine ra ?_ ?_);refine ak.k (w2) ?_;(repeat' with_reducible first|intro _|exact dn|refine rn ?_|refine ra ?_ ?_)))
  (repeat' with_reducible first|intro _|exact dn|refine rn ?_|refine ra ?_ ?_)
  (refine QV.intro (.int .i64 hd) ?_ ?_;focus ((repeat' with_reducible first|intro _|exact dn|refine rn ?_|refine ra ?_ ?_);refine ak.k (f1) ?_;(repeat' with_reducible first|intro _|exact dn|refine rn ?_|refine ra ?_ ?_)))
  (repeat' with_reducible first|intro _|exact dn|refine rn ?_|refine ra ?_ ?_)
 case' neg=>
  have w1:=l9 (!q) 2
  have e1:(if (!q)=true then (2:Int) else 0)=if kd≠[]∧q=false then 2 else 0:=by
   cases q<;>simp [hk]
  rw [e1] at w1
  generalize (if kd≠[]∧q=false then (2:Int) else 0)=a at *
  have f1:=kU [a,b] (by simp)
  rw [←hdh] at f1
  (repeat' with_reducible first|intro _|exact dn|refine rn ?_|refine ra ?_ ?_)
  refine bT.lex [15] [] (by kernel_rfl) (by kernel_rfl) ?_
  (repeat' with_reducible first|intro _|refine rz ?_|refine ra ?_ ?_|omega|simp only [go_sem,hk])
  (refine QV.intro (.bool q) ?_ ?_;focus ((repeat' with_reducible first|intro _|exact dn|refine rn ?_|refine ra ?_ ?_);refine ak.k (k1) ?_;(repeat' with_reducible first|intro _|exact dn|refine rn ?_|refine ra ?_ ?_)))
  (repeat' with_reducible first|intro _|exact dn|refine rn ?_|refine ra ?_ ?_)
  (refine QV.intro (.int .i64 a) ?_ ?_;focus ((repeat' with_reducible first|intro _|exact dn|refine rn ?_|refine ra ?_ ?_);refine ak.k (w1) ?_;(repeat' with_reducible first|intro _|exact dn|refine rn ?_|refine ra ?_ ?_)))
  (repeat' with_reducible first|intro _|exact dn|refine rn ?_|refine ra ?_ ?_)
  (refine QV.intro (.int .i64 b) ?_ ?_;focus ((repeat' with_reducible first|intro _|exact dn|refine rn ?_|refine ra ?_ ?_);refine ak.k (w2) ?_;(repeat' with_reducible first|intro _|exact dn|refine rn ?_|refine ra ?_ ?_)))
  (repeat' with_reducible first|intro _|exact dn|refine rn ?_|refine ra ?_ ?_)
  (refine QV.intro (.int .i64 hd) ?_ ?_;focus ((repeat' with_reducible first|intro _|exact dn|refine rn ?_|refine ra ?_ ?_);refine ak.k (f1) ?_;(repeat' with_reducible first|intro _|exact dn|refine rn ?_|refine ra ?_ ?_)))
  (repeat' with_reducible first|intro _|exact dn|refine rn ?_|refine ra ?_ ?_)
 all_goals
  refine bY.intro (fun i:Nat=>⟨46,[(28,.int .i64 i),(27,.int .i64 l.length),(26,.ro (.ints .i64 l)),(4,.own 0),(3,.int .i64 (aA [hd,jy l i]))],[(0,.map ((mO (l.take i)).map (.int .i64)) ((mO (l.take i)).map fun _=>.bool true))],1⟩) (fun i=>i≤l.length) (fun i=>l.length - i) 0 ?_ (Nat.zero_le _) fun i hi=>?_
  ·have e0:aA [hd,jy l 0]=hd:=by rw [show jy l 0=0 from rfl,qM];split<;>omega
   refine bJ.bG rfl ?_ ?_<;>simp only [go_sem,Int.natCast_succ,mO,List.foldl_nil,List.map_nil,e0]
  by_cases hlt:i<l.length
  ·have hst:=yQ l 0 hlt
   have hsu:=oN l i
   have hE:nU l i=if l.getD i 0<0 then 3 else if l.getD i 0∈mO (l.take i) then 6 else 0:=by
    unfold nU;simp only [CV]
   have v1:=l9 (decide (l.getD i 0<0)) 3
   have v2:=l9 (decide (l.getD i 0∈mO (l.take i))) 6
   generalize mO (l.take i)=z at *
   simp only [decide_eq_true_eq] at v1 v2
   have hG:aA [aA [hd,jy l i],if l.getD i 0<0 then 3 else 0,if l.getD i 0∈z then 6 else 0]=aA [hd,jy l (i+1)]:=by
    rw [hsu,hE]
    simp only [aA];(repeat' split)<;>first|rfl|omega
   have f2:=kU [aA [hd,jy l i],if l.getD i 0<0 then 3 else 0,if l.getD i 0∈z then 6 else 0] (by simp)
   rw [hG] at f2
   generalize hr:aA [hd,jy l (i+1)]=r at *
   generalize aA [hd,jy l i]=e at *
   generalize (if l.getD i 0<0 then (3:Int) else 0)=u1 at *
   generalize (if l.getD i 0∈z then (6:Int) else 0)=u2 at *
   (repeat' with_reducible first|intro _|exact dn|refine rn ?_|refine ra ?_ ?_)
   refine bT.lex [8] [] (by kernel_rfl) (by kernel_rfl) ?_
   (repeat' with_reducible first|intro _|exact dn|refine rn ?_|refine ra ?_ ?_)
   (refine QV.intro (.int .i64 u1) ?_ ?_;focus ((repeat' with_reducible first|intro _|exact dn|refine rn ?_|refine ra ?_ ?_);refine ak.k (v1) ?_;(repeat' with_reducible first|intro _|exact dn|refine rn ?_|refine ra ?_ ?_)))
   (repeat' with_reducible first|intro _|exact dn|refine rn ?_|refine ra ?_ ?_)
   (refine QV.intro (.int .i64 u2) ?_ ?_;focus ((repeat' with_reducible first|intro _|exact dn|refine rn ?_|refine ra ?_ ?_);refine ak.k (v2) ?_;(repeat' with_reducible first|intro _|exact dn|refine rn ?_|refine ra ?_ ?_)))
   (repeat' with_reducible first|intro _|exact dn|refine rn ?_|refine ra ?_ ?_)
   (refine QV.intro (.int .i64 r) ?_ ?_;focus ((repeat' with_reducible first|intro _|exact dn|refine rn ?_|refine ra ?_ ?_);refine ak.k (f2) ?_;(repeat' with_reducible first|intro _|exact dn|refine rn ?_|refine ra ?_ ?_)))
   (repeat' with_reducible first|intro _|exact dn|refine rn ?_|refine ra ?_ ?_)
   refine ⟨i+1,bJ.bG rfl ?_ ?_,by omega,by omega⟩<;>simp only [go_sem,Int.natCast_succ,hst]
   exact hr.symm
  ·have e:i=l.length:=by omega
   subst e
   (repeat' with_reducible first|intro _|exact dn|refine rn ?_|refine ra ?_ ?_)
   refine dM.auto 0 ?_ rfl ?_<;>simp only [go_sem,Int.natCast_succ,Post]
end Go.Fv.J
/- What the law asks of the documents. -/
namespace Go.Fv.J
open Go Go.Proofs
set_option maxHeartbeats 1000000 in
theorem sN (a b:List Int):aN Tryd.prog 15 [.ro (.ints .i64 a),.ro (.ints .i64 b)] (.bool (decide (a=b))) []:=by
 refine aN.bZ Tryd.func15 rfl (by decide) (by simp [Tryd.f15]) [.tmp 4] rfl fun w0 T0 _=>?_
 simp only [Tryd.f15,aH]
 simp only [go_sem]
 refine xW.intro fun _=>xW.intro fun _=>Ite.decide (fun h=>?_) fun h=>?_
 ·simp only [go_sem]
  refine dM.auto 0 ?_ rfl (by simp [eP])
  have:a≠b:=by intro e;subst e;exact h rfl
  simp only [go_sem,Int.natCast_succ,Post,this,decide_false,decide_true]
 have hl:a.length=b.length:=by omega
 simp only [go_sem]
 refine xW.intro fun _=>bY.intro (fun i:Nat=>⟨26,[(0,.ro (.ints .i64 a)),(1,.ro (.ints .i64 b)),(12,.int .i64 a.length),(13,.int .i64 i)],[],0⟩) (fun i=>i≤a.length∧∀ j,j<i→a.getD j 0=b.getD j 0) (fun i=>a.length - i) 0 ?_ ⟨by omega,fun j hj=>by omega⟩ fun i hi=>?_
 ·refine bJ.bG rfl ?_ ?_<;>simp only [go_sem,Int.natCast_succ]
 simp only [go_sem]
 refine Ite.decide (fun h1=>?_) (fun h1=>?_)
 ·simp only [go_sem]
  refine bT.lex [] [] (by kernel_rfl) (by kernel_rfl) ?_
  simp only [go_sem]
  (repeat' first|(with_reducible refine xW.intro fun _=>?_)|((with_reducible refine aO.intro ?_ ?_);(· first|omega|(with_reducible refine aO.intro ?_ ?_<;>omega)|(simp;done)|(simp;omega)))|((with_reducible refine dZ.i64 ?_ ?_ ?_);(· omega);(· omega))|((with_reducible refine Ite.decide (fun _=>?_) (fun _=>?_))<;>first|(exfalso;omega)|simp only [go_sem])|((with_reducible refine Ite.bool (fun _=>?_) (fun _=>?_))<;>simp only [go_sem])|(with_reducible refine And.intro ?_ ?_))
  ·rename_i h2
   refine dM.auto 0 ?_ rfl (by simp [eP])
   have:a≠b:=by intro e;subst e;exact h2 rfl
   simp only [go_sem,Int.natCast_succ,Post,this]
  ·rename_i h2
   refine ⟨i+1,bJ.bG rfl ?_ ?_,⟨by omega,fun j hj=>?_⟩,by omega⟩
   ·simp only [go_sem,Int.natCast_succ]
    all_goals omega
   ·simp only [go_sem,Int.natCast_succ]
   ·by_cases e:j=i
    ·subst e;exact Decidable.of_not_not h2
    ·exact hi.2 j (by omega)
 ·simp only [go_sem]
  refine dM.auto 0 ?_ rfl (by simp [eP])
  have:a=b:=Ea 0 hl fun j hj=>hi.2 j (by omega)
  simp only [go_sem,Int.natCast_succ,Post,this,decide_false,decide_true]
theorem jr (l:List Int) (hl:l.length≤137438953472):aN Tryd.prog 21 [.ro (.ints .i64 l)] (.own 0) [(0,.row 3 (.ints .i64 l))]:=by
 refine aN.bZ Tryd.func21 rfl (by decide) (by simp [Tryd.f21]) [.tmp 2] rfl fun w0 T0 _=>?_
 simp only [Tryd.f21,aH]
 (repeat' with_reducible first|intro _|exact dn|refine rn ?_|refine ra ?_ ?_)
 ·rename_i h
  have:l=[]:=List.eq_nil_of_length_eq_zero h
  refine dM.auto 1 ?_ rfl ?_<;>simp only [go_sem,Int.natCast_succ,Post,this]
 ·refine dM.auto 1 ?_ rfl ?_<;>simp only [go_sem,Int.natCast_succ,Post]
theorem Ez (d:Dc):aN Tryd.prog 28 [.agg d.av,.agg d.av] (.bool true) []:=by
 have k1:=sN d.pages d.pages
 rw [decide_eq_true rfl] at k1
 unfold Dc.av
 refine aN.bZ Tryd.func28 rfl (by decide) (by simp [Tryd.f28]) [.tmp 4] rfl fun w0 T0 _=>?_
 simp only [Tryd.f28,aH]
 (repeat' with_reducible first|intro _|exact dn|refine rn ?_|refine ra ?_ ?_)
 refine ak.k k1 ?_
 (repeat' with_reducible first|intro _|exact dn|refine rn ?_|refine ra ?_ ?_)
 refine dM.auto 0 ?_ rfl ?_<;>simp only [go_sem,Int.natCast_succ,Post]
theorem Gj (l:List Dc):aN Tryd.prog 27 [.ro (jD l),.ro (jD l),.fn 28 []] (.bool true) []:=by
 refine aN.bZ Tryd.func27 rfl (by decide) (by simp [Tryd.f27]) [.tmp 6] rfl fun w0 T0 _=>?_
 simp only [Tryd.f27,aH]
 (repeat' with_reducible first|intro _|refine rz ?_|refine ra ?_ ?_|omega|simp only [go_sem,List.length_map])
 refine bY.intro (fun i:Nat=>⟨32,[(0,.ro (jD l)),(1,.ro (jD l)),(2,.fn 28 []),(15,.ro (jD l)),(16,.int .i64 l.length),(17,.int .i64 i)],[],0⟩) (fun i=>i≤l.length) (fun i=>l.length - i) 0 ?_ (Nat.zero_le _) fun i hi=>?_
 ·refine bJ.bG rfl ?_ ?_<;>simp only [go_sem,Int.natCast_succ]
 by_cases hlt:i<l.length
 ·have he:=dH l hlt
  have kd:=Ez (l.getD i Dc.zero)
  unfold Dc.av at kd
  (repeat' with_reducible first|intro _|refine rz ?_|refine ra ?_ ?_|omega|simp only [go_sem,bg,he,List.length_map])
  refine ak.k kd ?_
  (repeat' with_reducible first|intro _|exact dn|refine rn ?_|refine ra ?_ ?_)
  refine ⟨i+1,bJ.bG rfl ?_ ?_,by omega,by omega⟩<;>simp only [go_sem,Int.natCast_succ]
 ·(repeat' with_reducible first|intro _|exact dn|refine rn ?_|refine ra ?_ ?_)
  refine dM.auto 0 ?_ rfl ?_<;>simp only [go_sem,Int.natCast_succ,Post]
theorem Dw (l:List Dc):aN Tryd.prog 9 [.ro (jD l),.ro (jD l)] (.bool true) []:=by
 have k1:=Gj l
 refine aN.bZ Tryd.func9 rfl (by decide) (by simp [Tryd.f9]) [.tmp 4] rfl fun w0 T0 _=>?_
 simp only [Tryd.f9,aH]
 (repeat' with_reducible first|intro _|exact dn|refine rn ?_|refine ra ?_ ?_)
 refine ak.k k1 ?_
 (repeat' with_reducible first|intro _|exact dn|refine rn ?_|refine ra ?_ ?_)
 refine dM.auto 0 ?_ rfl ?_<;>simp only [go_sem,Int.natCast_succ,Post]
end Go.Fv.J
/- slices.Delete of pages and of documents; slices.DeleteFunc of documents. -/
namespace Go.Fv.J
open Go Go.Proofs
theorem qg {a:Item}:∀ j,j<1→∃ it,lk [(0,a)] j=some it
 | 0,_=>⟨_,rfl⟩
 | _+1,h=>absurd h (by omega)
theorem vY {α:Type} (l:List α) (i:Nat) (hi:i<l.length) (B:List α):(((l.take i++(l.drop (i+1)).take (l.length - (i+1)))++B).take (l.length - 1))=l.eraseIdx i:=by
 have h1:(l.drop (i+1)).take (l.length - (i+1))=l.drop (i+1):=List.take_of_length_le (by rw [List.length_drop];exact Nat.le_refl _)
 rw [h1,List.eraseIdx_eq_take_drop_succ]
 exact List.take_left' (by simp only [List.length_append,List.length_take,List.length_drop];omega)
set_option maxHeartbeats 4000000 in
theorem vU (l:List Int) (i:Nat) (hi:i<l.length) (hl:l.length≤5000000):rZ Tryd.prog 22 [.own 0,.int .i64 i,.int .i64 ((i:Int)+1)] [(0,.row 3 (.ints .i64 l))] 1 (.own 1) [(1,.row 3 (.ints .i64 (l.eraseIdx i)))]:=by
 refine rZ.of_run Tryd.func22 rfl (by decide) (by simp [Tryd.f22]) qg [.tmp 6] rfl fun w0 T0=>aG.ent (bJ.mark [1000021,2000024]) (aG.of ?_)
 simp only [Tryd.f22,aH,marks]
 have g1:((i:Int)=i+1)=False:=eq_false (by omega)
 have h0:((i:Int)+1).toNat=i+1:=by omega
 have h1:i+1+(l.length - (i+1)) - (i+1)=l.length - (i+1):=by omega
 have h2:i+(l.length - (i+1))=l.length - 1:=by omega
 have h3:((l.drop (i+1)).take (l.length - (i+1))).length=l.length - (i+1):=by simp only [List.length_take,List.length_drop];omega
 have h4:(l.drop (l.length - 1)).take (l.length - (l.length - 1))=l.drop (l.length - 1):=List.take_of_length_le (by rw [List.length_drop];exact Nat.le_refl _)
 have h5:(((l.take i)++(l.drop (i+1)).take (l.length - (i+1)))++l.drop (l.length - 1)).length=l.length:=by
  simp only [List.length_append,List.length_take,List.length_drop];omega
 (repeat' with_reducible first|intro _|refine rz ?_|refine ra ?_ ?_|omega|simp only [go_sem,g1,Nat.sub_zero])
 refine bT.cut (.first 0 (.first 1 (.first 3 (.first 4 (.cons 2 (.cons 5 (.cons 6 (.first 7 .done) .stop) .stop) (.cons 5 (.cons 2 (.cons 6 (.first 7 .done) .stop) .stop) .stop)))))) (by kernel_rfl) (by kernel_rfl) (by kernel_rfl)
  ⟨33,[(0,.pre 0 (l.length - 1)),(7,.int .i64 l.length)],[(0,.row 3 (.ints .i64 (((l.take i)++(l.drop (i+1)).take (l.length - (i+1)))++l.drop (l.length - 1))))],1⟩ ?_ ?_
 ·(repeat' with_reducible first|intro _|refine rz ?_|refine ra ?_ ?_|omega|simp only [go_sem,Nat.sub_zero])
  all_goals
   simp only [h0,h1,h2,h3,h4,Nat.sub_zero,Nat.sub_zero]
   refine bJ.Bj 1 rfl (Nat.le_refl 1) ?_ ?_<;>simp only [go_sem,Int.natCast_succ,iV]
 have h6:=vY l i hi (l.drop (l.length - 1))
 have h7:(l.eraseIdx i).length=l.length - 1:=by rw [List.length_eraseIdx_of_lt hi]
 have h8:List.take (l.length - 1 - 0) (((l.take i)++(l.drop (i+1)).take (l.length - (i+1)))++l.drop (l.length - 1))=l.eraseIdx i:=h6
 (repeat' with_reducible first|intro _|refine rz ?_|refine ra ?_ ?_|omega|simp only [go_sem,h8,Nat.sub_zero])
 refine kH.ent (bJ.D6 6 0 (l.length - 1) rfl rfl ?_) (kH.auto 2 (by omega) ?_ rfl ?_)
 ·simp only [au.len,List.length_append,List.length_map,List.length_take,List.length_drop,List.length_replicate];omega
 all_goals simp only [go_sem,Int.natCast_succ,iV]
 simp only [Nat.sub_zero,h6]
 try simp only [List.append_assoc]
 exact List.take_left' (by first|exact h7|(rw [List.length_map];exact h7))
set_option maxHeartbeats 4000000 in
theorem D7 (l:List Dc) (i:Nat) (hi:i<l.length) (hl:l.length≤5000000):rZ Tryd.prog 24 [.own 0,.int .i64 i,.int .i64 ((i:Int)+1)] [(0,.row 27 (jD l))] 1 (.own 1) [(1,.row 27 (jD (l.eraseIdx i)))]:=by
 refine rZ.of_run Tryd.func24 rfl (by decide) (by simp [Tryd.f24]) qg [.tmp 6] rfl fun w0 T0=>aG.ent (bJ.mark [1000021,2000024]) (aG.of ?_)
 simp only [Tryd.f24,aH,marks]
 have g1:((i:Int)=i+1)=False:=eq_false (by omega)
 have h0:((i:Int)+1).toNat=i+1:=by omega
 have h1:i+1+(l.length - (i+1)) - (i+1)=l.length - (i+1):=by omega
 have h2:i+(l.length - (i+1))=l.length - 1:=by omega
 have h3:((l.drop (i+1)).take (l.length - (i+1))).length=l.length - (i+1):=by simp only [List.length_take,List.length_drop];omega
 have h4:(l.drop (l.length - 1)).take (l.length - (l.length - 1))=l.drop (l.length - 1):=List.take_of_length_le (by rw [List.length_drop];exact Nat.le_refl _)
 have h5:(((l.take i)++(l.drop (i+1)).take (l.length - (i+1)))++l.drop (l.length - 1)).length=l.length:=by
  simp only [List.length_append,List.length_take,List.length_drop];omega
 (repeat' with_reducible first|intro _|refine rz ?_|refine ra ?_ ?_|omega|simp only [go_sem,g1,Nat.sub_zero,←List.map_take,←List.map_drop,List.length_map,←List.map_append])
 refine bT.cut (.first 0 (.first 1 (.first 3 (.first 4 (.cons 2 (.cons 5 (.cons 6 (.first 7 .done) .stop) .stop) (.cons 5 (.cons 2 (.cons 6 (.first 7 .done) .stop) .stop) .stop)))))) (by kernel_rfl) (by kernel_rfl) (by kernel_rfl)
  ⟨33,[(0,.pre 0 (l.length - 1)),(7,.int .i64 l.length)],[(0,.row 27 (.objs 2 ((((l.take i)++(l.drop (i+1)).take (l.length - (i+1)))++l.drop (l.length - 1)).map Dc.av)))],1⟩ ?_ ?_
 ·(repeat' with_reducible first|intro _|refine rz ?_|refine ra ?_ ?_|omega|simp only [go_sem,Nat.sub_zero,←List.map_take,←List.map_drop,List.length_map,←List.map_append])
  all_goals
   simp only [h0,h1,h2,h3,h4,Nat.sub_zero,Nat.sub_zero,←List.map_take,←List.map_drop,List.length_map,←List.map_append]
   refine bJ.Bj 1 rfl (Nat.le_refl 1) ?_ ?_<;>simp only [go_sem,Int.natCast_succ,iV]
 have h6:=vY l i hi (l.drop (l.length - 1))
 have h7:(l.eraseIdx i).length=l.length - 1:=by rw [List.length_eraseIdx_of_lt hi]
 have h8:List.take (l.length - 1 - 0) (((l.take i)++(l.drop (i+1)).take (l.length - (i+1)))++l.drop (l.length - 1))=l.eraseIdx i:=h6
 (repeat' with_reducible first|intro _|refine rz ?_|refine ra ?_ ?_|omega|simp only [go_sem,h8,Nat.sub_zero,←List.map_take,←List.map_drop,List.length_map,←List.map_append])
 refine kH.ent (bJ.D6 6 0 (l.length - 1) rfl rfl ?_) (kH.auto 2 (by omega) ?_ rfl ?_)
 ·simp only [au.len,List.length_append,List.length_map,List.length_take,List.length_drop,List.length_replicate];omega
 all_goals simp only [go_sem,Int.natCast_succ,iV]
 simp only [Nat.sub_zero,h6]
 try simp only [List.append_assoc]
 exact List.take_left' (by first|exact h7|(rw [List.length_map];exact h7))
end Go.Fv.J
