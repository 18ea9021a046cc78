/-
  A part of the proof of the claim: walks over the program's functions and the plain laws that these need. No condition of its own.
-/
import Derived.Test.YtbdhkdcppljmnaaDoorRRpCardPart1
import Derived.Test.YtbdhkdcppljmnaaDoorFvPart11
import Derived.Test.YtbdhkdcppljmnaaDoorFvPart10
import Derived.Shelf.Strings.Shaped
import Derived.Test.YtbdhkdcppljmnaaDoorFvPart5
import Derived.Test.YtbdhkdcppljmnaaDoorFvPart6
set_option linter.unusedSimpArgs false
set_option linter.unusedVariables false
set_option linter.unnecessarySimpa false
set_option maxRecDepth 8000
/- The trims at the quote. -/
namespace Go.Fv.R
open Go Go.Proofs
theorem MO {s:List UInt8} (h0:0<s.length) (h:(s.getD 0 0).toNat=39):bV (s.drop 1)=bV s:=by
 cases s with
 | nil=>simp at h0
 | cons c t=>
  have hc:c=39:=UInt8.toNat_inj.1 h
  subst hc;rfl
theorem MN {s:List UInt8} (h:0<s.length→¬((s.getD 0 0).toNat=39)):bV s=s:=by
 cases s with
 | nil=>rfl
 | cons c t=>
  have hc:¬c=39:=fun e=>h (by simp) (by subst e;rfl)
  simp [bV,qu,hc]
theorem jC (t:List UInt8) (c:UInt8):fO (t++[c])=if c=39 then fO t else t++[c]:=by
 unfold fO
 rw [List.reverse_append,List.reverse_singleton,List.singleton_append,List.dropWhile_cons]
 by_cases h:c=39
 ·simp [qu,h]
 ·simp [qu,h]
theorem vN {s:List UInt8} (h0:0<s.length):s=s.take (s.length - 1)++[s.getD (s.length - 1) 0]:=by
 rw [getD_lt (by omega)]
 rw [List.take_append_getElem (by omega)]
 rw [List.take_of_length_le (by omega)]
theorem MQ {s:List UInt8} (h0:0<s.length) (h:(s.getD (s.length - 1) 0).toNat=39):fO (s.take (s.length - 1))=fO s:=by
 have hc:s.getD (s.length - 1) 0=39:=UInt8.toNat_inj.1 h
 conv=>rhs;rw [vN h0,jC,if_pos hc]
theorem MP {s:List UInt8} (h:0<s.length→¬((s.getD (s.length - 1) 0).toNat=39)):fO s=s:=by
 by_cases h0:0<s.length
 ·have hc:¬s.getD (s.length - 1) 0=39:=fun e=>h h0 (by rw [e];rfl)
  conv=>lhs;rw [vN h0,jC,if_neg hc]
  exact (vN h0).symm
 ·have:s=[]:=List.eq_nil_of_length_eq_zero (by omega)
  subst this;rfl
theorem FB (t:List UInt8) (c:UInt8) (h:¬c=39):bV (t++[c])=bV t++[c]:=by
 induction t with
 | nil=>simp [bV,qu,h]
 | cons d t ih=>
  by_cases hd:d=39
  ·subst hd;exact ih
  ·simp [bV,qu,hd]
theorem IB (t:List UInt8):bV (t++[39])=if bV t=[] then [] else bV t++[39]:=by
 induction t with
 | nil=>simp [bV,qu]
 | cons d t ih=>
  by_cases hd:d=39
  ·subst hd;exact ih
  ·simp [bV,qu,hd]
theorem zy:∀ (n:Nat) (s:List UInt8),s.length≤n→bV (fO s)=fO (bV s)
 | 0,s,h=>by
  have:s=[]:=List.eq_nil_of_length_eq_zero (by omega)
  subst this;rfl
 | n+1,s,h=>by
  by_cases h0:0<s.length
  ·rw [vN h0]
   generalize hc:s.getD (s.length - 1) 0=c
   have hl:(s.take (s.length - 1)).length≤n:=by simp;omega
   generalize s.take (s.length - 1)=t at hl
   rw [jC]
   by_cases h39:c=39
   ·subst h39
    rw [if_pos rfl,IB,zy n t hl]
    by_cases hq:bV t=[]
    ·rw [if_pos hq,hq]
    ·rw [if_neg hq,jC,if_pos rfl]
   ·rw [if_neg h39,FB t c h39,jC,if_neg h39]
  ·have:s=[]:=List.eq_nil_of_length_eq_zero (by omega)
   subst this;rfl
theorem Np (s:List UInt8):bV (fO s)=dA s:=zy s.length s (Nat.le_refl _)
theorem uZ (s:List UInt8) (hs:s.length≤1000000000000):aC Tryd.prog 45 [.str s,.int .u8 39] (.str (bV s)) []:=by
 refine aC.aO Tryd.func45 rfl (by decide) (by simp [Tryd.f45]) [.tmp 4] rfl fun w0 T0 _=>?_
 simp only [Tryd.f45,aB]
 (repeat' with_reducible first|intro _|exact dn|refine rn ?_|refine ra ?_ ?_)
 refine aU.intro (fun t:List UInt8=>⟨17,[(0,.str t),(1,.int .u8 39)],[],0⟩) (fun t=>t.length≤1000000000000∧bV t=bV s) (fun t=>t.length) s ?_ ⟨hs,rfl⟩ fun t ht=>?_
 ·refine bC.aA rfl ?_ ?_<;>simp only [go_sem,Int.natCast_succ]
 obtain ⟨hl,he⟩:=ht
 (repeat' with_reducible first|intro _|exact dn|refine rn ?_|refine ra ?_ ?_)
 ·refine ⟨t.drop 1,bC.aA rfl ?_ ?_,⟨?_,?_⟩,?_⟩
  ·simp only [go_sem,Int.natCast_succ]
   exact List.take_of_length_le (by simp)
  ·simp only [go_sem,Int.natCast_succ]
  ·simp;omega
  ·rw [MO (by omega) (by omega)];exact he
  ·simp;omega
 ·have e:t=bV s:=by rw [←he,MN (fun h=>by omega)]
  refine aZ.auto 0 ?_ rfl ?_<;>simp only [go_sem,Int.natCast_succ,Post,e]
theorem uf (s:List UInt8) (hs:s.length≤1000000000000):aC Tryd.prog 46 [.str s,.int .u8 39] (.str (fO s)) []:=by
 refine aC.aO Tryd.func46 rfl (by decide) (by simp [Tryd.f46]) [.tmp 4] rfl fun w0 T0 _=>?_
 simp only [Tryd.f46,aB]
 (repeat' with_reducible first|intro _|exact dn|refine rn ?_|refine ra ?_ ?_)
 refine aU.intro (fun t:List UInt8=>⟨23,[(0,.str t),(1,.int .u8 39)],[],0⟩) (fun t=>t.length≤1000000000000∧fO t=fO s) (fun t=>t.length) s ?_ ⟨hs,rfl⟩ fun t ht=>?_
 ·refine bC.aA rfl ?_ ?_<;>simp only [go_sem,Int.natCast_succ]
 obtain ⟨hl,he⟩:=ht
 have et:((t.length:Int) - 1).toNat=t.length - 1:=by omega
 (repeat' with_reducible first|intro _|refine rz ?_|refine ra ?_ ?_|omega|simp only [go_sem,et])
 ·refine ⟨t.take (t.length - 1),bC.aA rfl ?_ ?_,⟨?_,?_⟩,?_⟩
  ·simp only [go_sem,Int.natCast_succ,et]
   rfl
  ·simp only [go_sem,Int.natCast_succ]
  ·simp;omega
  ·rw [MQ (by omega) (by omega)];exact he
  ·simp;omega
 ·have e:t=fO s:=by rw [←he,MP (fun h=>by omega)]
  refine aZ.auto 0 ?_ rfl ?_<;>simp only [go_sem,Int.natCast_succ,Post,e]
theorem IC (s:List UInt8):(fO s).length≤s.length:=by
 unfold fO
 have:=kR qu s.reverse
 simp at this ⊢;omega
theorem Ik (s:List UInt8) (hs:s.length≤1000000000000):aC Tryd.prog 25 [.str s,.str [39]] (.str (dA s)) []:=by
 have k:=uf s hs
 have k2:=uZ (fO s) (Nat.le_trans (IC s) hs)
 rw [Np] at k2
 have one:((1:Nat):Int)=1:=rfl
 have q39:((([39]:List UInt8).getD 0 0).toNat:Int)=39:=rfl
 have l39:(39:Int)<128:=by decide
 refine aC.aO Tryd.func25 rfl (by decide) (by simp [Tryd.f25]) [.tmp 4] rfl fun w0 T0 _=>?_
 simp only [Tryd.f25,aB]
 by_cases h0:s=[]
 ·have e:dA []=[]:=rfl
  (repeat' with_reducible first|intro _|refine rz ?_|refine ra ?_ ?_|omega|simp only [go_sem,h0])
  refine aZ.auto 0 ?_ rfl ?_<;>simp only [go_sem,Int.natCast_succ,Post,e]
 ·(repeat' with_reducible first|intro _|refine rz ?_|refine ra ?_ ?_|omega|simp only [go_sem,h0,one,q39,l39])
  refine dN.lex [] [] (by kernel_rfl) (by kernel_rfl) ?_
  (repeat' with_reducible first|intro _|refine rz ?_|refine ra ?_ ?_|omega|simp only [go_sem,one,q39])
  refine QV.intro (.str (fO s)) ?_ ?_
  ·(repeat' with_reducible first|intro _|exact dn|refine rn ?_|refine ra ?_ ?_)
   refine ah.k k ?_
   (repeat' with_reducible first|intro _|exact dn|refine rn ?_|refine ra ?_ ?_)
  (repeat' with_reducible first|intro _|refine rz ?_|refine ra ?_ ?_|omega|simp only [go_sem,one,q39])
  refine QV.intro (.str (dA s)) ?_ ?_
  ·(repeat' with_reducible first|intro _|exact dn|refine rn ?_|refine ra ?_ ?_)
   refine ah.k k2 ?_
   (repeat' with_reducible first|intro _|exact dn|refine rn ?_|refine ra ?_ ?_)
  (repeat' with_reducible first|intro _|exact dn|refine rn ?_|refine ra ?_ ?_)
  refine aZ.auto 0 ?_ rfl ?_<;>simp only [go_sem,Int.natCast_succ,Post]
end Go.Fv.R
/- The closures that put tokens. -/
namespace Go.Fv.R
open Go Go.Proofs
def rP (t:Tok):List AV:=[.str t.1,.bool t.2]
instance:CZ rP:=⟨fun _=>rfl⟩
def kS (l:List Tok):au:=.objs 2 (l.map rP)
theorem NP (l:List Tok) {i:Nat} (h:i<l.length):(l.map rP).getD i []=[.str (l.getD i ([],false)).1,.bool (l.getD i ([],false)).2]:=by
 rw [getD_lt (by simpa using h),getD_lt h,List.getElem_map];rfl
theorem zx {a b:Item}:∀ j,j<2→∃ it,lk [(0,a),(1,b)] j=some it
 | 0,_=>⟨_,rfl⟩
 | 1,_=>⟨_,rfl⟩
 | _+2,h=>absurd h (by omega)
def qB (out:List Tok) (s:Bytes) (w:Bool):List Tok:=if s=[] then out else out++[(s,w)]
theorem qC (out:List Tok) (s:Bytes) (w:Bool):(qB out s w).length≤out.length+1:=by
 unfold qB;split
 ·omega
 ·simp
def GI (out:List Tok):Prop:=0<out.length→(out.getD (out.length - 1) ([],false)).2=true
set_option maxHeartbeats 2000000 in
theorem wC (out:List Tok) (s:Bytes) (w:Bool) (hl:out.length≤1000000000) (hw:w=false→GI out) :
  jv Tryd.prog 70 [.str s,.bool w,.ptr 0 0] [(0,.box 80 [.own 1]),(1,.row 83 (kS out))] 2 (.tup []) [(0,.box 80 [.own 2]),(2,.row 83 (kS (qB out s w)))]:=by
 refine jv.aO Tryd.func70 rfl (by decide) (by simp [Tryd.f70]) zx [] rfl fun w0 T0 _=>?_
 simp only [Tryd.f70,aB]
 by_cases h0:s=[]
 ·have e:qB out [] w=out:=if_pos rfl
  (repeat' with_reducible first|intro _|refine rz ?_|refine ra ?_ ?_|omega|simp only [go_sem,h0,kS,List.length_map])
  rw [e]
  refine jA.of [(2,1)] 3 (by decide) (by decide) ?_ rfl ?_<;>simp only [go_sem,Int.natCast_succ]
 ·have e:qB out s w=out++[(s,w)]:=if_neg h0
  have e2:(out++[(s,w)]).map rP=out.map rP++[[.str s,.bool w]]:=by simp [rP]
  rw [e]
  by_cases h1:0<out.length
  ·have h2:(0:Int)≤(out.length:Int) - 1:=by omega
   have h3:=NP out (i:=out.length - 1) (by omega)
   have h4:((out.length:Int) - 1).toNat=out.length - 1:=by omega
   cases w with
   | true=>
    (repeat' with_reducible first|intro _|refine rz ?_|refine ra ?_ ?_|omega|simp only [go_sem,h0,h2,h3,h4,kS,List.length_map])
    refine jA.of [(2,3)] 3 (by decide) (by decide) ?_ rfl ?_<;>simp only [go_sem,Int.natCast_succ,e2,rP]
   | false=>
    rw [hw rfl h1] at h3
    (repeat' with_reducible first|intro _|refine rz ?_|refine ra ?_ ?_|omega|simp only [go_sem,h0,h2,h3,h4,kS,List.length_map])
    refine jA.of [(2,3)] 3 (by decide) (by decide) ?_ rfl ?_<;>simp only [go_sem,Int.natCast_succ,e2,rP]
  ·have h2:out=[]:=List.eq_nil_of_length_eq_zero (by omega)
   subst h2
   have h6:∀ n,([]:List (List AV)).getD n []=[]:=fun n=>by simp
   have h5:¬(0:Int)≤(([]:List Tok).length:Int) - 1:=by simp
   cases w with
   | true=>
    (repeat' with_reducible first|intro _|refine rz ?_|refine ra ?_ ?_|omega|simp only [go_sem,h0,h5,h6,List.drop_nil,kS,List.length_map])
    refine jA.of [(2,3)] 3 (by decide) (by decide) ?_ rfl ?_<;>simp only [go_sem,Int.natCast_succ,e2,rP]
   | false=>
    (repeat' with_reducible first|intro _|refine rz ?_|refine ra ?_ ?_|omega|simp only [go_sem,h0,h5,h6,List.drop_nil,kS,List.length_map])
    refine jA.of [(2,3)] 3 (by decide) (by decide) ?_ rfl ?_<;>simp only [go_sem,Int.natCast_succ,e2,rP]
end Go.Fv.R
/- strings.Index, strings.Count, by the contracts of the shelf. -/
namespace Go.Proofs
open Go.Shelf
def Tryd.uH:Go.Shelf.Ren:=⟨fun|143=>59|219=>58|217=>74|225=>75|224=>76|267=>77|266=>85|314=>86|n=>n,fun|9=>9|3=>3|4=>4|5=>5|46=>96|146=>100|51=>99|n=>n,fun|1=>0|n=>n⟩
theorem Tryd.lays143:Go.Proofs.LaysM.n143 Tryd.prog Tryd.uH:={
 mixed:=by kernel_rfl
 f143:=Tryd.func59.trans (congrArg some (by kernel_rfl))
 f217:=Tryd.func74.trans (congrArg some (by kernel_rfl))
 f219:=Tryd.func58.trans (congrArg some (by kernel_rfl))
 f224:=Tryd.func76.trans (congrArg some (by kernel_rfl))
 f225:=Tryd.func75.trans (congrArg some (by kernel_rfl))
 f266:=Tryd.func85.trans (congrArg some (by kernel_rfl))
 f267:=Tryd.func77.trans (congrArg some (by kernel_rfl))
 f314:=Tryd.func86.trans (congrArg some (by kernel_rfl))
 t3:=Tryd.underlying3
 a3:=Tryd.isAgg3
 z3:=Tryd.sizeOf3
 v3:=Tryd.zeroValue3
 t4:=Tryd.underlying4
 a4:=Tryd.isAgg4
 z4:=Tryd.sizeOf4
 v4:=Tryd.zeroValue4
 t5:=Tryd.underlying5
 a5:=Tryd.isAgg5
 z5:=Tryd.sizeOf5
 v5:=Tryd.zeroValue5
 t9:=Tryd.underlying9
 a9:=Tryd.isAgg9
 z9:=Tryd.sizeOf9
 v9:=Tryd.zeroValue9
 t46:=Tryd.underlying96
 a46:=Tryd.isAgg96
 z46:=Tryd.sizeOf96
 v46:=Tryd.zeroValue96
 t51:=Tryd.underlying99
 a51:=Tryd.isAgg99
 z51:=Tryd.sizeOf99
 v51:=Tryd.zeroValue99
 t146:=Tryd.underlying100
 a146:=Tryd.isAgg100
 z146:=Tryd.sizeOf100
 v146:=Tryd.zeroValue100
 g1:=by kernel_rfl
 i3:=by kernel_rfl
 i4:=by kernel_rfl
 i5:=by kernel_rfl
 i9:=by kernel_rfl
 i46:=by kernel_rfl
 i51:=by kernel_rfl
 i146:=by kernel_rfl
 m1:=by kernel_rfl
 s1_3:=fun w h=>Go.Proofs.cell_of_shapedOpen_int (zero:=#[.int .i64 0]) (t:=3) h (of_decide_eq_true (by kernel_rfl)) (by kernel_rfl) rfl (by kernel_rfl) (by kernel_rfl) Tryd.underlying3 }
def Tryd.DZ:Go.Shelf.Ren:=⟨fun|138=>63|195=>78|218=>79|143=>59|219=>58|217=>74|225=>75|224=>76|267=>77|266=>85|314=>86|n=>n,fun|9=>9|3=>3|4=>4|5=>5|0=>0|46=>96|146=>100|51=>99|n=>n,fun|1=>0|n=>n⟩
theorem Tryd.lays138:Go.Proofs.LaysM.n138 Tryd.prog Tryd.DZ:={
 mixed:=by kernel_rfl
 f138:=Tryd.func63.trans (congrArg some (by kernel_rfl))
 f143:=Tryd.func59.trans (congrArg some (by kernel_rfl))
 f195:=Tryd.func78.trans (congrArg some (by kernel_rfl))
 f217:=Tryd.func74.trans (congrArg some (by kernel_rfl))
 f218:=Tryd.func79.trans (congrArg some (by kernel_rfl))
 f219:=Tryd.func58.trans (congrArg some (by kernel_rfl))
 f224:=Tryd.func76.trans (congrArg some (by kernel_rfl))
 f225:=Tryd.func75.trans (congrArg some (by kernel_rfl))
 f266:=Tryd.func85.trans (congrArg some (by kernel_rfl))
 f267:=Tryd.func77.trans (congrArg some (by kernel_rfl))
 f314:=Tryd.func86.trans (congrArg some (by kernel_rfl))
 t0:=Tryd.underlying0
 a0:=Tryd.isAgg0
 z0:=Tryd.sizeOf0
 v0:=Tryd.zeroValue0
 t3:=Tryd.underlying3
 a3:=Tryd.isAgg3
 z3:=Tryd.sizeOf3
 v3:=Tryd.zeroValue3
 t4:=Tryd.underlying4
 a4:=Tryd.isAgg4
 z4:=Tryd.sizeOf4
 v4:=Tryd.zeroValue4
 t5:=Tryd.underlying5
 a5:=Tryd.isAgg5
 z5:=Tryd.sizeOf5
 v5:=Tryd.zeroValue5
 t9:=Tryd.underlying9
 a9:=Tryd.isAgg9
 z9:=Tryd.sizeOf9
 v9:=Tryd.zeroValue9
 t46:=Tryd.underlying96
 a46:=Tryd.isAgg96
 z46:=Tryd.sizeOf96
 v46:=Tryd.zeroValue96
 t51:=Tryd.underlying99
 a51:=Tryd.isAgg99
 z51:=Tryd.sizeOf99
 v51:=Tryd.zeroValue99
 t146:=Tryd.underlying100
 a146:=Tryd.isAgg100
 z146:=Tryd.sizeOf100
 v146:=Tryd.zeroValue100
 g1:=by kernel_rfl
 i0:=by kernel_rfl
 i3:=by kernel_rfl
 i4:=by kernel_rfl
 i5:=by kernel_rfl
 i9:=by kernel_rfl
 i46:=by kernel_rfl
 i51:=by kernel_rfl
 i146:=by kernel_rfl
 m1:=by kernel_rfl
 s1_3:=fun w h=>Go.Proofs.cell_of_shapedOpen_int (zero:=#[.int .i64 0]) (t:=3) h (of_decide_eq_true (by kernel_rfl)) (by kernel_rfl) rfl (by kernel_rfl) (by kernel_rfl) Tryd.underlying3 }
end Go.Proofs
namespace Go.Fv.R
open Go Go.Proofs
theorem qR (s t:List UInt8) (hs:s.length≤100000000):aC Tryd.prog 59 [.str s,.str t] (.int .i64 (Lib.index s t)) []:=by
 refine ⟨⟨_,Tryd.func59,by kernel_rfl,by kernel_rfl⟩,fun w T vals hg hv=>?_⟩
 obtain ⟨m,t0,_,hm⟩:=hg.int (g:=0) (k:=.i64) (by kernel_rfl)
 cases hv with
 | cons _ _ _ _ h1 hv=>cases hv with
  | cons _ _ _ _ h2 hv=>
   cases hv
   cases h1 with
   | str _ e1=>cases h2 with
    | str _ e2=>
     have L:=Tryd.lays143
     refine (Any.strings_Index { L with } ⟨s.toArray⟩ ⟨t.toArray⟩ m w ?_ ?_).mono ?_
     ·show s.toArray.size<4294967281
      simp;omega
     ·simp [World.cell?,Tryd.uH,hm]
     ·rintro e w' ⟨rfl,rfl⟩
      refine ⟨_,rfl,ig.refl _ _,fun _=>undef,0,?_,?_,?_⟩
      ·have h1:=Lib.index_ge s t
       have h2:=Lib.index_le s t
       have e1:IntKind.i64.min=-9223372036854775808:=by decide
       have e2:IntKind.i64.max=9223372036854775807:=by decide
       exact .int .i64 _ ⟨by rw [e1];omega,by rw [e2];omega⟩
      ·intro i it h;cases h
      ·intro i j it jt b h;cases h
theorem JM (s:List UInt8) (c:UInt8):aC Tryd.prog 63 [.str s,.str [c]] (.int .i64 ((s.count c:Nat):Int)) []:=by
 refine ⟨⟨_,Tryd.func63,by kernel_rfl,by kernel_rfl⟩,fun w T vals hg hv=>?_⟩
 cases hv with
 | cons _ _ _ _ h1 hv=>cases hv with
  | cons _ _ _ _ h2 hv=>
   cases hv
   cases h1 with
   | str _ e1=>cases h2 with
    | str _ e2=>
     have L:=Tryd.lays138
     refine (Any.strings_Count_one { L with } ⟨s.toArray⟩ c w).mono ?_
     rintro e w' ⟨rfl,rfl⟩
     refine ⟨_,rfl,ig.refl _ _,fun _=>undef,0,?_,?_,?_⟩
     ·have h1:s.count c≤s.length:=List.count_le_length
      have h3:s.length≤9223372036854775807:=e1
      have e1:IntKind.i64.min=-9223372036854775808:=by decide
      have e2:IntKind.i64.max=9223372036854775807:=by decide
      exact .int .i64 _ ⟨by rw [e1];omega,by rw [e2];omega⟩
     ·intro i it h;cases h
     ·intro i j it jt b h;cases h
end Go.Fv.R
/- The steps of the tokens, by places of the text. -/
namespace Go.Fv.R
open Go
def sub (s:Bytes) (a b:Nat):Bytes:=(s.drop a).take (b - a)
theorem oL {s:Bytes} {a b:Nat} (h:a≤b) (hb:b≤s.length):(sub s a b).length=b - a:=by
 simp [sub];omega
theorem sub_self (s:Bytes) (a:Nat):sub s a a=[]:=by simp [sub]
theorem vU {s:Bytes} {a b c:Nat} (h:a≤b) (h2:b≤c):sub s a b++sub s b c=sub s a c:=by
 unfold sub
 have e:c - a=(b - a)+(c - b):=by omega
 rw [e,List.take_add,List.drop_drop]
 congr 3;omega
theorem sub_one {s:Bytes} {i:Nat} (h:i<s.length):sub s i (i+1)=[s.getD i 0]:=by
 unfold sub
 rw [List.drop_eq_getElem_cons h,getD_lt h,show i+1 - i=1 by omega];rfl
theorem LJ {s:Bytes} {a i:Nat} (h0:a≤i) (h:i<s.length):sub s a i++[s.getD i 0]=sub s a (i+1):=by
 rw [←sub_one h,vU h0 (by omega)]
theorem BK {s:Bytes}:∀ (n i k:Nat),k - i≤n→i≤k→k≤s.length→(∀ j,i≤j→j<k→fV (s.getD j 0)=true)→(k<s.length→fV (s.getD k 0)=false) →
  (s.drop i).takeWhile fV=sub s i k∧(s.drop i).dropWhile fV=s.drop k
 | 0,i,k,hn,h1,h2,h3,h4=>by
  have:i=k:=by omega
  subst this
  rw [sub_self]
  by_cases h:i<s.length
  ·have:=h4 h
   rw [getD_lt h] at this
   rw [List.drop_eq_getElem_cons h,List.takeWhile_cons,List.dropWhile_cons,this]
   exact ⟨rfl,rfl⟩
  ·rw [List.drop_of_length_le (by omega)];exact ⟨rfl,rfl⟩
 | n+1,i,k,hn,h1,h2,h3,h4=>by
  by_cases h:i=k
  ·exact BK 0 i k (by omega) h1 h2 h3 h4
  ·have hi:i<s.length:=by omega
   obtain ⟨e1,e2⟩:=BK n (i+1) k (by omega) (by omega) h2 (fun j hj hk=>h3 j (by omega) hk) h4
   have hw:=h3 i (Nat.le_refl _) (by omega)
   rw [←vU (s:=s) (a:=i) (b:=i+1) (c:=k) (by omega) (by omega),sub_one hi,List.drop_eq_getElem_cons hi]
   rw [getD_lt hi] at hw ⊢
   rw [List.takeWhile_cons,List.dropWhile_cons,hw,if_pos rfl,if_pos rfl,e1,e2]
   exact ⟨rfl,rfl⟩
theorem step_other {s:Bytes} {i a:Nat} (h:i<s.length) (ha:a≤i) (hc:fV (s.getD i 0)=false) (out:List Tok):toks (s.drop i) (sub s a i) out=toks (s.drop (i+1)) (sub s a (i+1)) out:=by
 rw [←LJ ha h,List.drop_eq_getElem_cons h]
 rw [getD_lt h] at hc ⊢
 rw [qo hc]
theorem EJ {s:Bytes} {i k a:Nat} (h:i<s.length) (ha:a≤i) (hk:i<k) (hkl:k≤s.length) (hr:∀ j,i≤j→j<k→fV (s.getD j 0)=true) (he:k<s.length→fV (s.getD k 0)=false) (out:List Tok)
  (hw:eG (dA (sub s i k))=false):toks (s.drop i) (sub s a i) out=toks (s.drop k) (sub s a k) out:=by
 obtain ⟨e1,e2⟩:=BK (k - i) i k (Nat.le_refl _) (by omega) hkl hr he
 have hc:=hr i (Nat.le_refl _) hk
 rw [List.drop_eq_getElem_cons h] at e1 e2 ⊢
 rw [getD_lt h] at hc
 rw [xY hc _ _ (by rw [e1,hw];decide),e1,e2,vU ha (by omega)]
def iU (t:Bytes):Nat:=(uX t).length
theorem vP (t:Bytes):iU t+(dA t).length≤t.length:=by
 have:=congrArg List.length (three t)
 simp only [List.length_append] at this
 unfold iU;omega
theorem Aa {s:Bytes} {i k a:Nat} (h:i<s.length) (ha:a≤i) (hk:i<k) (hkl:k≤s.length) (hr:∀ j,i≤j→j<k→fV (s.getD j 0)=true) (he:k<s.length→fV (s.getD k 0)=false) (out:List Tok)
  (hw:eG (dA (sub s i k))=true):toks (s.drop i) (sub s a i) out=toks (s.drop k) (sub s (i+iU (sub s i k)+(dA (sub s i k)).length) k) (flush out (sub s a (i+iU (sub s i k)))++[(dA (sub s i k),true)]):=by
 obtain ⟨e1,e2⟩:=BK (k - i) i k (Nat.le_refl _) (by omega) hkl hr he
 have hc:=hr i (Nat.le_refl _) hk
 rw [List.drop_eq_getElem_cons h] at e1 e2 ⊢
 rw [getD_lt h] at hc
 rw [oN hc _ _ (by rw [e1,hw]),e1,e2]
 have h3:=three (sub s i k)
 have hle:=vP (sub s i k)
 have hlen:=oL (s:=s) (a:=i) (b:=k) (by omega) hkl
 generalize hrow:sub s i k=row at *
 have p1:uX row=sub s i (i+iU row):=by
  have:=congrArg (List.take (iU row)) h3
  rw [List.take_append_of_le_length (by simp [iU]),List.take_of_length_le (by simp [iU])] at this
  rw [this];generalize iU row=q at *
  rw [←hrow];unfold sub
  rw [List.take_take];congr 1;omega
 have p2:rE (bV row)=sub s (i+iU row+(dA row).length) k:=by
  have:=congrArg (List.drop (iU row+(dA row).length)) h3
  rw [←List.append_assoc,List.drop_append_of_le_length (by simp [iU]),List.drop_of_length_le (by simp [iU]),List.nil_append] at this
  rw [this];generalize iU row=q at *;generalize (dA row).length=q2 at *
  rw [←hrow];unfold sub
  rw [List.drop_take,List.drop_drop];congr 1
  ·omega
  ·congr 1;omega
 rw [p2]
 conv=>lhs;rw [p1]
 rw [vU ha (by omega)]
theorem zJ {t:Bytes} (h:dA t≠[]):Lib.index t (dA t)=iU t:=by
 have h3:=three t
 have hd:t.drop (iU t)=dA t++rE (bV t):=by
  have:=congrArg (List.drop (iU t)) h3
  rw [List.drop_append_of_le_length (by simp [iU]),List.drop_of_length_le (by simp [iU]),List.nil_append] at this
  exact this.symm
 have hle:=vP t
 refine Lib.index_first (by omega) ?_ ?_
 ·unfold Lib.occAt;rw [hd]
  rw [List.isPrefixOf_iff_prefix];exact List.prefix_append _ _
 ·intro j hj
  obtain ⟨c,m,hm⟩:∃ c m,dA t=c::m:=by
   cases hq:dA t with
   | nil=>exact absurd hq h
   | cons c m=>exact ⟨c,m,rfl⟩
  have hc:qu c=false:=by
   have hdq:bV t=c::(m++rE (bV t)):=by
    have:=Ec (bV t)
    rw [←this];show dA t++_=_;rw [hm];simp [this]
   have:=List.head?_dropWhile_not qu t
   rw [show t.dropWhile qu=bV t from rfl,hdq] at this
   simpa using this
  have hq:∃ l,t.drop j=39::l:=by
   have hj2:j<t.length:=by omega
   refine ⟨t.drop (j+1),?_⟩
   rw [List.drop_eq_getElem_cons hj2]
   have hjp:j<(uX t).length:=hj
   have e:t[j]=(uX t)[j]:=by
    have hpre:uX t <+: t:=List.takeWhile_prefix _
    exact (List.IsPrefix.getElem hpre hjp).symm
   have hall:∀ x,x∈uX t→qu x=true:=fun x hx=>(List.all_eq_true.1 List.all_takeWhile) x hx
   have:=hall _ (List.getElem_mem hjp)
   rw [e];simp only [qu,decide_eq_true_eq] at this;rw [this]
  obtain ⟨l,hl⟩:=hq
  unfold Lib.occAt;rw [hl,hm]
  have:¬c=39:=by simpa [qu] using hc
  simp [List.isPrefixOf,this]
end Go.Fv.R
/- Split. -/
namespace Go.Fv.R
open Go Go.Proofs
theorem I5:GI []:=fun h=>absurd h (by simp)
theorem xu (l:List Tok) (m:Bytes):GI (l++[(m,true)]):=fun _=>by
 simp [List.getD]
structure QO where
 i:Nat
 o:Nat
 out:List Tok
set_option maxHeartbeats 8000000 in
theorem split_ok (s:List UInt8) (hs:s.length≤1048576):aC Tryd.prog 54 [.str s] (.own 0) [(0,.row 83 (kS (toks s [] [])))]:=by
 refine aC.aO Tryd.func54 rfl (by decide) (by simp [Tryd.f54]) [.tmp 2] rfl fun w0 T0 _=>?_
 simp only [Tryd.f54,aB]
 (repeat' with_reducible first|intro _|exact dn|refine rn ?_|refine ra ?_ ?_)
 refine aU.intro (fun x:QO=>⟨69,[(6,.int .i64 x.i),(5,.int .i64 x.o),(4,.fn 70 [.ptr 0 0]),(3,.ptr 0 0),(0,.str s)],[(0,.box 80 [.own 1]),(1,.row 83 (kS x.out))],2⟩) (fun x=>x.o≤x.i∧x.i≤s.length∧toks (s.drop x.i) (sub s x.o x.i) x.out=toks s [] []∧GI x.out∧x.out.length≤2*x.i) (fun x=>s.length - x.i) ⟨0,0,[]⟩ ?_ ⟨Nat.le_refl _,Nat.zero_le _,by rw [sub_self];rfl,I5,Nat.le_refl _⟩ fun x hx=>?_
 ·refine bC.trans (bC.KG (P:=Tryd.prog) 1 0 83 PX rfl rfl) (bC.aA rfl ?_ ?_)<;>simp only [go_sem,Int.natCast_succ,kS,put,Nat.zero_mul,List.range_zero,List.map_nil]
 obtain ⟨i,o,out⟩:=x
 obtain ⟨hoi,hil,ht,hL,hol⟩:=hx
 dsimp only at hoi hil ht hL hol ⊢
 (repeat' with_reducible first|intro _|refine rz ?_|refine ra ?_ ?_|omega|simp only [go_sem,Int.toNat_natCast])
 ·refine ah.k (tu (s.getD i 0)) ?_
  have hlt:i<s.length:=by omega
  cases hc:fV (s.getD i 0) with
  | false=>
   (repeat' with_reducible first|intro _|refine rz ?_|refine ra ?_ ?_|omega|simp only [go_sem,hc])
   refine ⟨⟨i+1,o,out⟩,bC.aA rfl ?_ ?_,⟨Nat.le_succ_of_le hoi,hlt,?_,hL,by dsimp only;omega⟩,by dsimp only;omega⟩
   ·simp only [go_sem,Int.natCast_succ]
   ·simp only [go_sem,Int.natCast_succ,kS]
   ·rw [←step_other hlt hoi hc];exact ht
  | true=>
   (repeat' with_reducible first|intro _|refine rz ?_|refine ra ?_ ?_|omega|simp only [go_sem,hc])
   refine aU.intro (fun k:Nat=>⟨69,[(7,.int .i64 k),(6,.int .i64 i),(5,.int .i64 o),(4,.fn 70 [.ptr 0 0]),(3,.ptr 0 0),(0,.str s)],[(0,.box 80 [.own 1]),(1,.row 83 (kS out))],2⟩) (fun k=>i≤k∧k≤s.length∧∀ j,i≤j→j<k→fV (s.getD j 0)=true) (fun k=>s.length - k) i ?_ ⟨Nat.le_refl _,hil,fun j h1 h2=>absurd h2 (by omega)⟩ fun k hk=>?_
   ·refine bC.aA rfl ?_ ?_<;>simp only [go_sem,Int.natCast_succ,kS]
   obtain ⟨hk1,hk2,hr⟩:=hk
   by_cases hkl:k<s.length
   ·have hkl2:(k:Int)<s.length:=by omega
    (repeat' with_reducible first|intro _|refine rz ?_|refine ra ?_ ?_|omega|simp only [go_sem,hkl2,Int.toNat_natCast])
    refine ah.k (tu (s.getD k 0)) ?_
    cases hW:fV (s.getD k 0) with
    | true=>
     (repeat' with_reducible first|intro _|refine rz ?_|refine ra ?_ ?_|omega|simp only [go_sem,hW])
     refine ⟨k+1,bC.aA rfl ?_ ?_,⟨by omega,by omega,fun j h1 h2=>?_⟩,by omega⟩
     ·simp only [go_sem,Int.natCast_succ]
     ·simp only [go_sem,Int.natCast_succ,kS]
     ·by_cases hj:j=k
      ·rw [hj];exact hW
      ·exact hr j h1 (by omega)
    | false=>
     have he:k<s.length→fV (s.getD k 0)=false:=fun _=>hW
     have hik:i<k:=by
      by_cases h:i=k
      ·subst h;exact absurd hc (by rw [hW];decide)
      ·omega
     obtain ⟨row,hR⟩:∃ row,(s.drop i).take (k - i)=row:=⟨_,rfl⟩
     have hR2:sub s i k=row:=hR
     have hrl:row.length=k - i:=by rw [←hR2];exact oL (by omega) (by omega)
     (repeat' with_reducible first|intro _|refine rz ?_|refine ra ?_ ?_|omega|simp only [go_sem,hR,hW])
     refine ah.k (Ik row (by omega)) ?_
     (repeat' with_reducible first|intro _|exact dn|refine rn ?_|refine ra ?_ ?_)
     have hml:=vP row
     refine ah.k (zM (dA row) (by omega)) ?_
     cases hw:eG (dA row) with
     | false=>
      (repeat' with_reducible first|intro _|refine rz ?_|refine ra ?_ ?_|omega|simp only [go_sem,hw])
      refine ⟨⟨k,o,out⟩,bC.aA rfl ?_ ?_,⟨by dsimp only;omega,hk2,?_,hL,by dsimp only;omega⟩,by dsimp only;omega⟩
      ·simp only [go_sem,Int.natCast_succ]
      ·simp only [go_sem,Int.natCast_succ,kS]
      ·rw [←EJ hlt hoi hik hk2 hr he out (by rw [hR2];exact hw)];exact ht
     | true=>
      have hne:dA row≠[]:=by
       intro h;rw [h,qU] at hw;cases hw
      have kI:=qR row (dA row) (by omega)
      rw [zJ hne] at kI
      have hst:=Aa hlt hoi hik hk2 hr he out (by rw [hR2];exact hw)
      rw [hR2] at hst
      have eF:((i:Int)+(iU row:Int)).toNat=i+iU row:=by omega
      obtain ⟨p,hp⟩:∃ p,iU row=p:=⟨_,rfl⟩
      rw [hp] at kI hst eF hml
      have hbl:=oL (s:=s) (a:=o) (b:=i+p) (by omega) (by omega)
      obtain ⟨b,hb⟩:∃ b,sub s o (i+p)=b:=⟨_,rfl⟩
      rw [hb] at hst hbl
      have hb2:(s.drop o).take (i+p - o)=b:=hb
      have k1:=wC out b false (by omega) (fun _=>hL)
      have k2:=wC (qB out b false) (dA row) true (by have:=qC out b false;omega) (fun h=>by cases h)
      rw [show qB (qB out b false) (dA row) true=flush out b++[(dA row,true)] from if_neg hne] at k2
      generalize dA row=m at *
      (repeat' with_reducible first|intro _|refine rz ?_|refine ra ?_ ?_|omega|simp only [go_sem,hw])
      refine ah.k kI ?_
      (repeat' with_reducible first|intro _|refine rz ?_|refine ra ?_ ?_|omega|simp only [go_sem,eF,hb2,Int.toNat_natCast])
      refine ah.io [0,1] k1 (by decide) (by simp [dw,ren,iw]) rfl (by simp [fM,iw,lk,Item.ren,Item.below,ren,dw,aH,Fv.below,kS,jh,bK]) zx 3 (by decide) rfl (by simp [dL,Item.below,Fv.below,aH,kS,bK]) ?_
      (repeat' with_reducible first|intro _|refine rz ?_|refine ra ?_ ?_|omega|simp only [go_sem,S.FP,gK,iw,pX,Item.ren,ren,dw,kS,List.getElem?_cons_zero,List.getElem?_cons_succ,List.getElem?_nil,List.filter,eF,hb2])
      refine ah.io [0,2] k2 (by decide) (by simp [dw,ren,iw]) rfl (by simp [fM,iw,lk,Item.ren,Item.below,ren,dw,aH,Fv.below,kS,jh,bK]) zx 3 (by decide) rfl (by simp [dL,Item.below,Fv.below,aH,kS,bK]) ?_
      (repeat' with_reducible first|intro _|refine rz ?_|refine ra ?_ ?_|omega|simp only [go_sem,S.FP,gK,iw,pX,Item.ren,ren,dw,kS,List.getElem?_cons_zero,List.getElem?_cons_succ,List.getElem?_nil,List.filter])
      refine ⟨⟨k,i+p+m.length,flush out b++[(m,true)]⟩,bC.aA rfl ?_ ?_,⟨by dsimp only;omega,hk2,?_,xu _ _,?_⟩,by dsimp only;omega⟩
      ·simp only [go_sem,Int.natCast_succ,Int.natCast_add]
      ·simp only [go_sem,Int.natCast_succ,kS]
      ·rw [←hst];exact ht
      ·have:=qC out b false
       show (qB out b false++[(m,true)]).length≤2*k
       rw [List.length_append,List.length_singleton];omega
   ·have hkl2:¬(k:Int)<s.length:=by omega
    have he:k<s.length→fV (s.getD k 0)=false:=fun h=>absurd h hkl
    have hik:i<k:=by
     by_cases h:i=k
     ·subst h;exact absurd hc (by omega)
     ·omega
    obtain ⟨row,hR⟩:∃ row,(s.drop i).take (k - i)=row:=⟨_,rfl⟩
    have hR2:sub s i k=row:=hR
    have hrl:row.length=k - i:=by rw [←hR2];exact oL (by omega) (by omega)
    (repeat' with_reducible first|intro _|refine rz ?_|refine ra ?_ ?_|omega|simp only [go_sem,hR,hkl2])
    refine ah.k (Ik row (by omega)) ?_
    (repeat' with_reducible first|intro _|exact dn|refine rn ?_|refine ra ?_ ?_)
    have hml:=vP row
    refine ah.k (zM (dA row) (by omega)) ?_
    cases hw:eG (dA row) with
    | false=>
     (repeat' with_reducible first|intro _|refine rz ?_|refine ra ?_ ?_|omega|simp only [go_sem,hw])
     refine ⟨⟨k,o,out⟩,bC.aA rfl ?_ ?_,⟨by dsimp only;omega,hk2,?_,hL,by dsimp only;omega⟩,by dsimp only;omega⟩
     ·simp only [go_sem,Int.natCast_succ]
     ·simp only [go_sem,Int.natCast_succ,kS]
     ·rw [←EJ hlt hoi hik hk2 hr he out (by rw [hR2];exact hw)];exact ht
    | true=>
     have hne:dA row≠[]:=by
      intro h;rw [h,qU] at hw;cases hw
     have kI:=qR row (dA row) (by omega)
     rw [zJ hne] at kI
     have hst:=Aa hlt hoi hik hk2 hr he out (by rw [hR2];exact hw)
     rw [hR2] at hst
     have eF:((i:Int)+(iU row:Int)).toNat=i+iU row:=by omega
     obtain ⟨p,hp⟩:∃ p,iU row=p:=⟨_,rfl⟩
     rw [hp] at kI hst eF hml
     have hbl:=oL (s:=s) (a:=o) (b:=i+p) (by omega) (by omega)
     obtain ⟨b,hb⟩:∃ b,sub s o (i+p)=b:=⟨_,rfl⟩
     rw [hb] at hst hbl
     have hb2:(s.drop o).take (i+p - o)=b:=hb
     have k1:=wC out b false (by omega) (fun _=>hL)
     have k2:=wC (qB out b false) (dA row) true (by have:=qC out b false;omega) (fun h=>by cases h)
     rw [show qB (qB out b false) (dA row) true=flush out b++[(dA row,true)] from if_neg hne] at k2
     generalize dA row=m at *
     (repeat' with_reducible first|intro _|refine rz ?_|refine ra ?_ ?_|omega|simp only [go_sem,hw])
     refine ah.k kI ?_
     (repeat' with_reducible first|intro _|refine rz ?_|refine ra ?_ ?_|omega|simp only [go_sem,eF,hb2,Int.toNat_natCast])
     refine ah.io [0,1] k1 (by decide) (by simp [dw,ren,iw]) rfl (by simp [fM,iw,lk,Item.ren,Item.below,ren,dw,aH,Fv.below,kS,jh,bK]) zx 3 (by decide) rfl (by simp [dL,Item.below,Fv.below,aH,kS,bK]) ?_
     (repeat' with_reducible first|intro _|refine rz ?_|refine ra ?_ ?_|omega|simp only [go_sem,S.FP,gK,iw,pX,Item.ren,ren,dw,kS,List.getElem?_cons_zero,List.getElem?_cons_succ,List.getElem?_nil,List.filter,eF,hb2])
     refine ah.io [0,2] k2 (by decide) (by simp [dw,ren,iw]) rfl (by simp [fM,iw,lk,Item.ren,Item.below,ren,dw,aH,Fv.below,kS,jh,bK]) zx 3 (by decide) rfl (by simp [dL,Item.below,Fv.below,aH,kS,bK]) ?_
     (repeat' with_reducible first|intro _|refine rz ?_|refine ra ?_ ?_|omega|simp only [go_sem,S.FP,gK,iw,pX,Item.ren,ren,dw,kS,List.getElem?_cons_zero,List.getElem?_cons_succ,List.getElem?_nil,List.filter])
     refine ⟨⟨k,i+p+m.length,flush out b++[(m,true)]⟩,bC.aA rfl ?_ ?_,⟨by dsimp only;omega,hk2,?_,xu _ _,?_⟩,by dsimp only;omega⟩
     ·simp only [go_sem,Int.natCast_succ,Int.natCast_add]
     ·simp only [go_sem,Int.natCast_succ,kS]
     ·rw [←hst];exact ht
     ·have:=qC out b false
      show (qB out b false++[(m,true)]).length≤2*k
      rw [List.length_append,List.length_singleton];omega
 ·have e:i=s.length:=by omega
  subst e
  rw [List.drop_of_length_le (Nat.le_refl _),kT] at ht
  obtain ⟨b,hb⟩:∃ b,sub s o s.length=b:=⟨_,rfl⟩
  have hb2:(s.drop o).take (s.length - o)=b:=hb
  have hbl:=oL (s:=s) (a:=o) (b:=s.length) hoi (Nat.le_refl _)
  rw [hb] at hbl ht
  have k1:=wC out b false (by omega) (fun _=>hL)
  rw [show qB out b false=toks s [] [] from ht] at k1
  rw [hb2]
  refine ah.io [0,1] k1 (by decide) (by simp [dw,ren,iw]) rfl (by simp [fM,iw,lk,Item.ren,Item.below,ren,dw,aH,Fv.below,kS,jh,bK]) zx 3 (by decide) rfl (by simp [dL,Item.below,Fv.below,aH,kS,bK]) ?_
  (repeat' with_reducible first|intro _|refine rz ?_|refine ra ?_ ?_|omega|simp only [go_sem,S.FP,gK,iw,pX,Item.ren,ren,dw,kS,List.getElem?_cons_zero,List.getElem?_cons_succ,List.getElem?_nil,List.filter,hb2])
  refine aZ.auto 1 ?_ rfl ?_<;>simp only [go_sem,Int.natCast_succ,Post,kS]
end Go.Fv.R
/- Small letters: the bytes on the way. -/
namespace Go.Fv.R
open Go Go.Proofs
theorem jg (l:List UInt8):(aJ l).length=l.length:=by simp [aJ]
theorem kE (l:List UInt8):bytesOf (aJ l)=l:=by
 unfold bytesOf aJ
 rw [List.map_map]
 conv=>rhs;rw [←List.map_id l]
 refine List.map_congr_left fun b _=>?_
 simp
def dM (s:List UInt8) (i:Nat):List Int:=aJ ((s.take i).map ql++s.drop i)
theorem rO (s:List UInt8):dM s 0=aJ s:=by simp [dM]
theorem uS (s:List UInt8):bytesOf (dM s s.length)=nM s:=by
 unfold dM
 rw [kE];simp [nM]
theorem nK (s:List UInt8) (i:Nat):(dM s i).length=s.length:=by
 simp [dM,aJ];omega
theorem nJ {s:List UInt8} {i:Nat} (h:i<s.length):(dM s i).getD i 0=((s.getD i 0).toNat:Int):=by
 unfold dM aJ
 simp only [List.getD_eq_getElem?_getD,List.getElem?_map]
 rw [List.getElem?_append_right (by simp;omega)]
 have e:i - ((s.take i).map ql).length=0:=by simp;omega
 rw [e,List.getElem?_drop]
 simp [h]
theorem Gl (c:UInt8):((ql c).toNat:Int)=if 65≤c.toNat∧c.toNat≤90 then (c.toNat:Int)+32 else c.toNat:=by
 unfold ql
 split
 ·rw [UInt8.toNat_add]
  have:(32:UInt8).toNat=32:=rfl
  rw [this];omega
 ·rfl
theorem rM {s:List UInt8} {i:Nat} (h:i<s.length):dM s (i+1)=if 65≤(s.getD i 0).toNat∧(s.getD i 0).toNat≤90 then (dM s i).set i (((s.getD i 0).toNat:Int)+32) else dM s i:=by
 have hb:=Gl (s.getD i 0)
 have e1:dM s (i+1)=(dM s i).set i ((ql (s.getD i 0)).toNat:Int):=by
  unfold dM aJ
  rw [List.take_succ_eq_append_getElem h,getD_lt h]
  have hd:s.drop i=s[i]::s.drop (i+1):=List.drop_eq_getElem_cons h
  rw [hd]
  simp only [List.map_append,List.map_cons,List.map_nil]
  have hl:(((s.take i).map ql).map fun b=>(b.toNat:Int)).length=i:=by simp;omega
  rw [List.set_append_right (h:=by omega),hl,Nat.sub_self,List.set_cons_zero]
  simp
 rw [e1,hb]
 split
 ·rfl
 ·have hg:=nJ h
  rw [←hg]
  apply List.ext_getElem?
  intro j
  rw [List.getElem?_set]
  split
  ·rename_i e;subst e
   have hl:=nK s i
   simp [List.getD_eq_getElem?_getD,hl,h]
  ·rfl
end Go.Fv.R
/- Small letters. -/
namespace Go.Fv.R
open Go Go.Proofs
set_option maxHeartbeats 1000000 in
theorem LC (s:List UInt8):aC Tryd.prog 55 [.str s] (.str (nM s)) []:=by
 have h0:=rO s
 have hz:=uS s
 refine aC.aO Tryd.func55 rfl (by decide) (by simp [Tryd.f55]) [.tmp 2] rfl fun w0 T0 _=>?_
 simp only [Tryd.f55,aB]
 (repeat' with_reducible first|intro _|refine rz ?_|refine ra ?_ ?_|omega|simp only [go_sem,jg])
 refine aU.intro (fun i:Nat=>⟨30,[(10,.int .i64 i),(9,.int .i64 s.length),(8,.own 0),(3,.own 0)],[(0,.row 5 (.ints .u8 (dM s i)))],1⟩) (fun i=>i≤s.length) (fun i=>s.length - i) 0 ?_ (Nat.zero_le _) fun i hi=>?_
 ·refine bC.aA rfl ?_ ?_<;>simp only [go_sem,Int.natCast_succ,h0]
 by_cases hlt:i<s.length
 ·have hg:=nJ hlt
  have hst:=rM hlt
  have hl:=nK s i
  have hc2:=(s.getD i 0).toNat_lt
  generalize s.getD i 0=c at *
  by_cases hc:65≤c.toNat∧c.toNat≤90
  ·rw [if_pos hc] at hst
   have e1:(c.toNat:Int)+97 - 65=(c.toNat:Int)+32:=by omega
   (repeat' with_reducible first|intro _|refine rz ?_|refine ra ?_ ?_|omega|simp only [go_sem,Int.toNat_natCast,hg,hl,e1])
   refine ⟨i+1,bC.aA rfl ?_ ?_,by omega,by omega⟩<;>simp only [go_sem,Int.natCast_succ,hst]
  ·rw [if_neg hc] at hst
   (repeat' with_reducible first|intro _|refine rz ?_|refine ra ?_ ?_|omega|simp only [go_sem,Int.toNat_natCast,hg,hl])
   refine ⟨i+1,bC.aA rfl ?_ ?_,by omega,by omega⟩<;>simp only [go_sem,Int.natCast_succ,hst]
 ·have e:i=s.length:=by omega
  subst e
  (repeat' with_reducible first|intro _|refine rz ?_|refine ra ?_ ?_|omega|simp only [go_sem,hz])
  refine aZ.auto 0 ?_ rfl ?_<;>simp only [go_sem,Int.natCast_succ,Post]
  all_goals exact hz
set_option maxHeartbeats 1000000 in
theorem EC (s:List UInt8):aC Tryd.prog 30 [.str s] (.str (nM s)) []:=by
 have h0:=rO s
 have hz:=uS s
 refine aC.aO Tryd.func30 rfl (by decide) (by simp [Tryd.f30]) [.tmp 2] rfl fun w0 T0 _=>?_
 simp only [Tryd.f30,aB]
 (repeat' with_reducible first|intro _|refine rz ?_|refine ra ?_ ?_|omega|simp only [go_sem,jg])
 refine aU.intro (fun i:Nat=>⟨29,[(10,.int .i64 i),(9,.int .i64 s.length),(8,.own 0),(3,.own 0)],[(0,.row 5 (.ints .u8 (dM s i)))],1⟩) (fun i=>i≤s.length) (fun i=>s.length - i) 0 ?_ (Nat.zero_le _) fun i hi=>?_
 ·refine bC.aA rfl ?_ ?_<;>simp only [go_sem,Int.natCast_succ,h0]
 by_cases hlt:i<s.length
 ·have hg:=nJ hlt
  have hst:=rM hlt
  have hl:=nK s i
  have hc2:=(s.getD i 0).toNat_lt
  generalize s.getD i 0=c at *
  by_cases hc:65≤c.toNat∧c.toNat≤90
  ·rw [if_pos hc] at hst
   have e1:(c.toNat:Int)+97 - 65=(c.toNat:Int)+32:=by omega
   (repeat' with_reducible first|intro _|refine rz ?_|refine ra ?_ ?_|omega|simp only [go_sem,Int.toNat_natCast,hg,hl,e1])
   refine ⟨i+1,bC.aA rfl ?_ ?_,by omega,by omega⟩<;>simp only [go_sem,Int.natCast_succ,hst]
  ·rw [if_neg hc] at hst
   (repeat' with_reducible first|intro _|refine rz ?_|refine ra ?_ ?_|omega|simp only [go_sem,Int.toNat_natCast,hg,hl])
   refine ⟨i+1,bC.aA rfl ?_ ?_,by omega,by omega⟩<;>simp only [go_sem,Int.natCast_succ,hst]
 ·have e:i=s.length:=by omega
  subst e
  (repeat' with_reducible first|intro _|refine rz ?_|refine ra ?_ ?_|omega|simp only [go_sem,hz])
  refine aZ.auto 0 ?_ rfl ?_<;>simp only [go_sem,Int.natCast_succ,Post]
  all_goals exact hz
end Go.Fv.R
/- CheckRules. -/
namespace Go.Fv.R
open Go Go.Proofs
set_option maxHeartbeats 2000000 in
theorem FW (s:List UInt8) (hs:s.length≤1048576):aC Tryd.prog 34 [.str s] (.bool (dJ s)) []:=by
 have c1:=split_ok s hs
 have c2:=LC s
 have ho:=Ej s
 unfold dJ
 rw [←ho]
 generalize toks s [] []=l at *
 generalize nM s=sm at *
 refine aC.aO Tryd.func34 rfl (by decide) (by simp [Tryd.f34]) [.tmp 2] rfl fun w0 T0 _=>?_
 simp only [Tryd.f34,aB]
 (repeat' with_reducible first|intro _|exact dn|refine rn ?_|refine ra ?_ ?_)
 refine ah.ro (.ro (kS l)) (jr.kN c1 rfl (by simp [kM,kL,vO,iM,lW,kS,rP])) (by simp only [bH,aW,fK,bf,aF,List.drop_zero,lk,reduceIte,reduceCtorEq,Nat.reduceEqDiff,Option.some.injEq,Item.row.injEq,Item.box.injEq,AV.ro.injEq,exists_eq_left,exists_and_left,exists_eq_left',exists_eq_right,and_assoc,and_true,true_and,List.cons.injEq,exists_eq',exists_eq]) (by simp [fP,aW,bf,fK,aF,lk,bH,kS]) rfl ?_
 clear c1 ho
 have n0:(((0:Nat):Int)=1)=False:=by simp
 have n1:((0+1:Nat):Int)=1:=rfl
 rcases l with _|⟨⟨t1,t2⟩,_|⟨b,r⟩⟩
 ·(repeat' with_reducible first|intro _|refine rz ?_|refine ra ?_ ?_|omega|simp only [go_sem,kS,List.map_nil,n0,decide_false,List.getD_nil,List.drop_nil])
  trace_state
  refine aZ.auto 0 ?_ rfl ?_<;>simp only [go_sem,Int.natCast_succ,Post,qZ,Bool.false_and]
 ·cases t2 with
  | false=>
   (repeat' with_reducible first|intro _|refine rz ?_|refine ra ?_ ?_|omega|simp only [go_sem,kS,rP,List.map_cons,List.map_nil,n1,List.getD_cons_zero])
   refine aZ.auto 0 ?_ rfl ?_<;>simp only [go_sem,Int.natCast_succ,Post,qZ,Bool.false_and]
  | true=>
   (repeat' with_reducible first|intro _|refine rz ?_|refine ra ?_ ?_|omega|simp only [go_sem,kS,rP,List.map_cons,List.map_nil,n1,List.getD_cons_zero])
   refine ah.k c2 ?_
   (repeat' with_reducible first|intro _|exact dn|refine rn ?_|refine ra ?_ ?_)
   refine aZ.auto 0 ?_ rfl ?_<;>simp only [go_sem,Int.natCast_succ,Post,qZ,Bool.true_and]
 ·have n2:(((r.length+1+1:Nat):Int)=1)=False:=by simp;omega
  (repeat' with_reducible first|intro _|refine rz ?_|refine ra ?_ ?_|omega|simp only [go_sem,kS,rP,List.map_cons,List.getD_cons_zero,n2,decide_false])
  refine aZ.auto 0 ?_ rfl ?_<;>simp only [go_sem,Int.natCast_succ,Post,qZ,Bool.false_and]
theorem Fz (s:List UInt8) (hs:s.length≤1048576):aC Tryd.prog 33 [.str s] (.bool (!dJ s)) []:=by
 have k:=FW s hs
 refine aC.aO Tryd.func33 rfl (by decide) (by simp [Tryd.f33]) [.tmp 2] rfl fun w0 T0 _=>?_
 simp only [Tryd.f33,aB]
 (repeat' with_reducible first|intro _|exact dn|refine rn ?_|refine ra ?_ ?_)
 refine ah.k k ?_
 (repeat' with_reducible first|intro _|exact dn|refine rn ?_|refine ra ?_ ?_)
 refine aZ.auto 0 ?_ rfl ?_<;>simp only [go_sem,Int.natCast_succ,Post]
theorem JG (l:List (List UInt8)):(l.any fun c=>!dJ c)=!l.all dJ:=by
 induction l with
 | nil=>rfl
 | cons c l ih=>simp [ih,Bool.not_and]
def dF (l:List Ru):Prop:=∀ i,i<l.length→∀ w,w∈(l.getD i Ru.zero).words→w.length≤1048576
set_option maxHeartbeats 4000000 in
theorem jW (l:List Ru) (hW:dF l):aC Tryd.prog 13 [.ro (iC l)] (.int .i64 (bn l)) []:=by
 unfold bn
 refine aC.aO Tryd.func13 rfl (by decide) (by simp [Tryd.f13]) [.tmp 2] rfl fun w0 T0 _=>?_
 simp only [Tryd.f13,aB]
 (repeat' with_reducible first|intro _|refine rz ?_|refine ra ?_ ?_|omega|simp only [go_sem,List.length_map])
 ·refine aZ.auto 0 ?_ rfl ?_<;>simp only [go_sem,Int.natCast_succ,Post]
  rw [if_pos (by omega)]
 rw [if_neg (by omega)]
 refine aU.intro (fun i:Nat=>⟨43,[(8,.ro (iC l)),(9,.int .i64 l.length),(10,.int .i64 i)],[],0⟩) (fun i=>i≤l.length∧aG ((l.drop i).map dY)=aG (l.map dY)) (fun i=>l.length - i) 0 ?_ ⟨Nat.zero_le _,rfl⟩ fun i hI=>?_
 ·refine bC.aA rfl ?_ ?_<;>simp only [go_sem,Int.natCast_succ]
 obtain ⟨hi,hI⟩:=hI
 by_cases hlt:i<l.length
 ·have he:=oI l hlt
  have hw:=hW i hlt
  rw [mJ l hlt] at hI
  generalize l.getD i Ru.zero=r at *
  have k1:=zK r.kind
  haveI c1:vY ([]:List AV):=⟨rfl⟩
  have k2:=AA r.words 33 [] (fun c=>!dJ c) fun c hc=>jr.kN (Fz c (hw c hc)) rfl rfl
  rw [JG] at k2
  have k3:=IY r.code
  have hE:dY r=aG [if eH r.kind=true then 0 else 5,if 20<r.words.length then 4 else 0,if r.words.all dJ=true then 0 else 2,if codeOk r.code=true then 0 else 2,if r.words=[]∧r.code=[] then 9 else 0]:=rfl
  have hwl:r.words=[]↔(r.words.length:Int)=0:=by rw [←List.length_eq_zero_iff];omega
  generalize eH r.kind=p1 at *
  generalize r.words.all dJ=p2 at *
  generalize codeOk r.code=p3 at *
  (repeat' with_reducible first|intro _|refine rz ?_|refine ra ?_ ?_|omega|simp only [go_sem,he,List.length_map])
  refine ah.k k1 ?_
  cases p1 with
  | false=>
   have h5:dY r=5:=by rw [hE];simp [aG]
   rw [h5] at hI
   (repeat' with_reducible first|intro _|exact dn|refine rn ?_|refine ra ?_ ?_)
   refine aZ.auto 0 ?_ rfl ?_<;>simp only [go_sem,Int.natCast_succ,Post]
   all_goals rw [←hI];rfl
  | true=>
   (repeat' with_reducible first|intro _|exact dn|refine rn ?_|refine ra ?_ ?_)
   ·have h5:dY r=4:=by rw [hE,if_pos rfl,if_pos (by omega)];simp [aG]
    rw [h5] at hI
    refine aZ.auto 0 ?_ rfl ?_<;>simp only [go_sem,Int.natCast_succ,Post]
    all_goals rw [←hI];rfl
   refine ah.k k2 ?_
   cases p2 with
   | false=>
    have h5:dY r=2:=by rw [hE,if_pos rfl,if_neg (by omega)];simp [aG]
    rw [h5] at hI
    (repeat' with_reducible first|intro _|exact dn|refine rn ?_|refine ra ?_ ?_)
    refine aZ.auto 0 ?_ rfl ?_<;>simp only [go_sem,Int.natCast_succ,Post]
    all_goals rw [←hI];rfl
   | true=>
    (repeat' with_reducible first|intro _|exact dn|refine rn ?_|refine ra ?_ ?_)
    refine ah.k k3 ?_
    cases p3 with
    | false=>
     have h5:dY r=2:=by rw [hE,if_pos rfl,if_neg (by omega)];simp [aG]
     rw [h5] at hI
     (repeat' with_reducible first|intro _|exact dn|refine rn ?_|refine ra ?_ ?_)
     refine aZ.auto 0 ?_ rfl ?_<;>simp only [go_sem,Int.natCast_succ,Post]
     all_goals rw [←hI];rfl
    | true=>
     (repeat' with_reducible first|intro _|exact dn|refine rn ?_|refine ra ?_ ?_)
     ·rename_i hx
      have h5:dY r=9:=by rw [hE,if_pos rfl,if_neg (by omega),if_pos rfl,if_pos ⟨hwl.2 hx.1,hx.2⟩];simp [aG]
      rw [h5] at hI
      refine aZ.auto 0 ?_ rfl ?_<;>simp only [go_sem,Int.natCast_succ,Post]
      all_goals rw [←hI];rfl
     ·rename_i hx
      have h5:dY r=0:=by rw [hE,if_pos rfl,if_neg (by omega),if_pos rfl,if_neg (fun h=>hx ⟨hwl.1 h.1,h.2⟩)];simp [aG]
      rw [if_pos h5] at hI
      refine ⟨i+1,bC.aA rfl ?_ ?_,⟨by omega,hI⟩,by omega⟩<;>simp only [go_sem,Int.natCast_succ]
 ·have e:i=l.length:=by omega
  subst e
  rw [List.drop_length] at hI
  (repeat' with_reducible first|intro _|refine rz ?_|refine ra ?_ ?_|omega|simp only [go_sem,List.length_map])
  refine aZ.auto 0 ?_ rfl ?_<;>simp only [go_sem,Int.natCast_succ,Post]
  all_goals rw [←hI];rfl
end Go.Fv.R
/- strings.HasPrefix. -/
namespace Go.Fv.R
open Go Go.Proofs
end Go.Fv.R
/- The reference's closure that puts tokens. -/
namespace Go.Fv.R
open Go Go.Proofs
end Go.Fv.R
/- The reference's way to cut the quotes. -/
namespace Go.Fv.R
open Go
end Go.Fv.R
/- The reference's Tokens. -/
namespace Go.Fv.R
open Go Go.Proofs
end Go.Fv.R
/- How many tokens there are. -/
namespace Go.Fv.R
open Go
end Go.Fv.R
/- Kind and its reference. -/
namespace Go.Fv.R
open Go Go.Proofs
end Go.Fv.R
/- The reference's KindOf. -/
namespace Go.Fv.R
open Go Go.Proofs
end Go.Fv.R
/- The reference's IsWord. -/
namespace Go.Fv.R
open Go Go.Proofs
set_option maxHeartbeats 2000000 in
theorem yR (s:List UInt8):aC Tryd.prog 29 [.str s] (.bool (eG s)) []:=by
 refine aC.aO Tryd.func29 rfl (by decide) (by simp [Tryd.f29]) [.tmp 2] rfl fun w0 T0 _=>?_
 simp only [Tryd.f29,aB]
 by_cases h0:s=[]
 ·(repeat' with_reducible first|intro _|refine rz ?_|refine ra ?_ ?_|omega|simp only [go_sem,h0])
  refine aZ.auto 0 ?_ rfl ?_<;>simp only [go_sem,Int.natCast_succ,Post,qU]
 ·by_cases h1:40<(s.length:Int)
  ·(repeat' with_reducible first|intro _|refine rz ?_|refine ra ?_ ?_|omega|simp only [go_sem,h0,h1])
   refine aZ.auto 0 ?_ rfl ?_<;>simp only [go_sem,Int.natCast_succ,Post,zL h1]
  ·have hp:0<s.length:=List.length_pos_iff.2 h0
   have hp2:(0:Int)<s.length:=by omega
   have k:=mX (s.getD 0 0)
   have k2:=mX (s.getD (s.length - 1) 0)
   have e:=DU h0 h1
   have et:((s.length:Int) - 1).toNat=s.length - 1:=by omega
   (repeat' with_reducible first|intro _|refine rz ?_|refine ra ?_ ?_|omega|simp only [go_sem,h0,h1,hp2])
   refine ah.k k ?_
   cases hL:yI (s.getD 0 0) with
   | false=>
    (repeat' with_reducible first|intro _|refine rz ?_|refine ra ?_ ?_|omega|simp only [go_sem,hL])
    refine aZ.auto 0 ?_ rfl ?_<;>simp only [go_sem,Int.natCast_succ,Post,e,hL,Bool.false_and]
   | true=>
    (repeat' with_reducible first|intro _|refine rz ?_|refine ra ?_ ?_|omega|simp only [go_sem,hL,et])
    refine ah.k k2 ?_
    cases hL2:yI (s.getD (s.length - 1) 0) with
    | false=>
     (repeat' with_reducible first|intro _|refine rz ?_|refine ra ?_ ?_|omega|simp only [go_sem,hL2])
     refine aZ.auto 0 ?_ rfl ?_<;>simp only [go_sem,Int.natCast_succ,Post,e,hL,hL2,Bool.false_and,Bool.and_false]
    | true=>
     (repeat' with_reducible first|intro _|refine rz ?_|refine ra ?_ ?_|omega|simp only [go_sem,hL2])
     refine aU.intro (fun i:Nat=>⟨43,[(28,.int .i64 i),(27,.int .i64 s.length),(0,.str s)],[],0⟩) (fun i=>i≤s.length∧∀ j,j<i→fV (s.getD j 0)=true) (fun i=>s.length - i) 0 ?_ ⟨Nat.zero_le _,fun j hj=>by omega⟩ fun i hi=>?_
     ·refine bC.aA rfl ?_ ?_<;>simp only [go_sem,Int.natCast_succ]
     obtain ⟨hi,ha⟩:=hi
     have k3:=mX (s.getD i 0)
     have hiw:=J7 (s.getD i 0)
     (repeat' with_reducible first|intro _|refine rz ?_|refine ra ?_ ?_|omega|simp only [go_sem,Int.toNat_natCast])
     ·refine ah.k k3 ?_
      cases hW:yI (s.getD i 0) with
      | true=>
       rw [hW,Bool.true_or] at hiw
       (repeat' with_reducible first|intro _|refine rz ?_|refine ra ?_ ?_|omega|simp only [go_sem,hW])
       refine ⟨i+1,bC.aA rfl ?_ ?_,⟨by omega,fun j hj=>?_⟩,by omega⟩
       ·simp only [go_sem,Int.natCast_succ]
       ·simp only [go_sem,Int.natCast_succ]
       ·by_cases hji:j=i
        ·rw [hji];exact hiw
        ·exact ha j (by omega)
      | false=>
       rw [hW,Bool.false_or] at hiw
       (repeat' with_reducible first|intro _|refine rz ?_|refine ra ?_ ?_|omega|simp only [go_sem,hW])
       ·rename_i h39
        rw [decide_eq_false h39] at hiw
        have hf:=GR (by omega) hiw
        refine aZ.auto 0 ?_ rfl ?_<;>simp only [go_sem,Int.natCast_succ,Post,e,hf,Bool.and_false]
       ·rename_i h39
        rw [decide_eq_true (Decidable.of_not_not h39)] at hiw
        refine ⟨i+1,bC.aA rfl ?_ ?_,⟨by omega,fun j hj=>?_⟩,by omega⟩
        ·simp only [go_sem,Int.natCast_succ]
        ·simp only [go_sem,Int.natCast_succ]
        ·by_cases hji:j=i
         ·rw [hji];exact hiw
         ·exact ha j (by omega)
     ·have hf:=JF fun j hj=>ha j (by omega)
      refine aZ.auto 0 ?_ rfl ?_<;>simp only [go_sem,Int.natCast_succ,Post,e,hL,hL2,hf,Bool.and_true]
theorem BH (s:List UInt8) (hs:s.length≤1000000000000):aC Tryd.prog 29 [.str s] (.bool (eG s)) []:=yR s
end Go.Fv.R
/- The reference's NameOf. -/
namespace Go.Fv.R
open Go Go.Proofs
def wV (s:List UInt8) (j:Nat):Prop:=(97≤(s.getD j 0).toNat∧(s.getD j 0).toNat≤122)∨(j≠0∧((48≤(s.getD j 0).toNat∧(s.getD j 0).toNat≤57)∨(s.getD j 0).toNat=45))
theorem zS (c:UInt8):nameB c=true↔(97≤c.toNat∧c.toNat≤122)∨(48≤c.toNat∧c.toNat≤57)∨c.toNat=45:=by
 simp only [nameB,Bool.or_eq_true,Bool.and_eq_true,decide_eq_true_eq];omega
theorem FZ (s:List UInt8):eH s=true↔s≠[]∧s.length≤40∧∀ j,j<s.length→wV s j:=by
 unfold eH wV
 simp only [Bool.and_eq_true,decide_eq_true_eq,List.all_eq_true]
 constructor
 ·rintro ⟨⟨⟨h0,h1⟩,h2⟩,h3⟩
  refine ⟨h0,h1,fun j hj=>?_⟩
  by_cases e:j=0
  ·subst e;exact .inl h2
  ·have:=h3 (s.getD j 0) (by rw [getD_lt hj];exact List.getElem_mem hj)
   rw [zS] at this
   rcases this with h|h
   ·exact .inl h
   ·exact .inr ⟨e,h⟩
 ·rintro ⟨h0,h1,h2⟩
  have hp:0<s.length:=List.length_pos_iff.2 h0
  refine ⟨⟨⟨h0,h1⟩,?_⟩,fun c hc=>?_⟩
  ·rcases h2 0 hp with h|h
   ·exact h
   ·exact absurd rfl h.1
  ·obtain ⟨j,hj,rfl⟩:=List.getElem_of_mem hc
   have:=h2 j hj
   rw [getD_lt hj] at this
   rw [zS]
   rcases this with h|h
   ·exact .inl h
   ·exact .inr h.2
set_option maxHeartbeats 1000000 in
theorem Jc (s:List UInt8):aC Tryd.prog 28 [.str s] (.bool (eH s)) []:=by
 have hi:=FZ s
 refine aC.aO Tryd.func28 rfl (by decide) (by simp [Tryd.f28]) [.tmp 2] rfl fun w0 T0 _=>?_
 simp only [Tryd.f28,aB]
 (repeat' with_reducible first|intro _|exact dn|refine rn ?_|refine ra ?_ ?_)
 refine aU.intro (fun i:Nat=>⟨45,[(7,.int .i64 i),(6,.int .i64 s.length),(0,.str s)],[],0⟩) (fun i=>i≤s.length∧∀ j,j<i→wV s j) (fun i=>s.length - i) 0 ?_ ⟨Nat.zero_le _,fun j hj=>by omega⟩ fun i hI=>?_
 ·refine bC.aA rfl ?_ ?_<;>simp only [go_sem,Int.natCast_succ]
 obtain ⟨hl,hI⟩:=hI
 (repeat' with_reducible first|intro _|refine rz ?_|refine ra ?_ ?_|omega|simp only [go_sem,Int.toNat_natCast])
 ·rename_i h2
  have:eH s=false:=by
   rw [←Bool.not_eq_true,hi]
   rintro ⟨_,_,h⟩
   have:=h i (by omega)
   unfold wV at this
   omega
  refine aZ.auto 0 ?_ rfl ?_<;>simp only [go_sem,Int.natCast_succ,Post,this]
 ·rename_i h2
  refine ⟨i+1,bC.aA rfl ?_ ?_,⟨by omega,fun j hj=>?_⟩,by omega⟩
  ·simp only [go_sem,Int.natCast_succ]
  ·simp only [go_sem,Int.natCast_succ]
  ·by_cases e:j=i
   ·subst e;unfold wV;omega
   ·exact hI j (by omega)
 all_goals
  have e:eH s=decide (¬s=[]∧(s.length:Int)≤40):=by
   rw [Bool.eq_iff_iff,decide_eq_true_eq,hi]
   exact ⟨fun h=>⟨h.1,by omega⟩,fun h=>⟨h.1,by omega,fun j hj=>hI j (by omega)⟩⟩
  refine aZ.auto 0 ?_ rfl ?_<;>simp only [go_sem,Int.natCast_succ,Post,e]
end Go.Fv.R
