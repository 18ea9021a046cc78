/-
  A part of the proof of the claim: walks over the program's functions and the plain laws that these need. No condition of its own.
-/
import Derived.Test.YtodlgmmbfbiilaaGreatDoorHArcMCardPart3
import Derived.Test.YtodlgmmbfbiilaaGreatDoorHArcMCardPart7
import Derived.Test.YtodlgmmbfbiilaaGreatDoorHArcMCardPart10
import Derived.Test.YtodlgmmbfbiilaaGreatDoorHArcMCardPart6
import Derived.Test.YtodlgmmbfbiilaaGreatDoorHArcMCardPart2
set_option linter.unusedSimpArgs false
set_option linter.unusedVariables false
set_option linter.unnecessarySimpa false
set_option maxRecDepth 8000
/- The reference's Encode: the walk. -/
namespace Go.Fv.H
open Go Go.Proofs
theorem Oz {p:List Bool} {i:Nat} (h:i<p.length):fZ (p.take (i+1))=fZ (p.take i)++[if p.getD i false=true then 49 else 48]:=by
 unfold fZ;rw [List.take_succ_eq_append_getElem h,List.map_append,getD_lt h];rfl
structure EX where
 i:Nat
 u:Bool
set_option maxHeartbeats 32000000 in
theorem nO (w h:Nat) (hw0:0<w) (hw:w≤4000) (hh:h≤4000) (hwh:w*h≤1048576) (p:List Bool) (hp:p.length=w*h) (kind:Int) (hk:1≤kind∧kind≤4) :
  aA Tryz.prog 13 [.agg [.int .i64 w,.int .i64 h,.ro (.bools p)],.int .i64 kind] (.str (eu w h p kind)) []:=by
 have hdl:=GX hw hh hwh hp kind
 have n2:=qN (w:Int) w 2 (.inl rfl) (by omega) (by omega) (by decide)
 have n3:=qN (h:Int) h 2 (.inl rfl) (by omega) (by omega) (by decide)
 have n4:=qN ((bV w h p kind).length:Int) (bV w h p kind).length 4 (.inl rfl) (by omega) (by omega) (by decide)
 rw [show ((2:Nat):Int)=2 from rfl] at n2 n3
 rw [show ((4:Nat):Int)=4 from rfl] at n4
 have henc:eu w h p kind=headB w h p kind++cO (headB w h p kind):=rfl
 have hhead:headB w h p kind=cZ 1 kind.toNat++cZ 2 w++cZ 2 h++cZ 4 (bV w h p kind).length++bV w h p kind:=rfl
 have hx1:cZ 1 kind.toNat=[UInt8.ofNat kind.toNat]:=by
  have:kind=1∨kind=2∨kind=3∨kind=4:=by omega
  rcases this with rfl|rfl|rfl|rfl<;>rfl
 have hwk:IntKind.u8.wrap kind=kind:=by rw [mJ];omega
 have hhl:(headB w h p kind).length=9+(bV w h p kind).length:=by
  rw [hhead];simp only [List.length_append,aS]
 have ks:=iy (headB w h p kind) (by omega)
 have hsl:=oQ (headB w h p kind)
 rw [henc]
 have l2:=aS 2 w
 have l3:=aS 2 h
 have l4:=aS 4 (bV w h p kind).length
 have e1:kind=1→bV w h p kind=jF (fZ p):=fun c=>if_pos c
 have e4:kind=4→bV w h p kind=sS w h p:=fun c=>by unfold bV;rw [if_neg (by omega),if_pos c]
 have e2:kind=2→bV w h p kind=jF (iY w p h):=fun c=>by unfold bV;rw [if_neg (by omega),if_neg (by omega),if_pos c]
 have e3:kind=3→bV w h p kind=jF (eP w p h):=fun c=>by unfold bV;rw [if_neg (by omega),if_neg (by omega),if_neg (by omega)]
 generalize headB w h p kind=hd at *
 rw [hx1] at hhead
 simp only [List.cons_append,List.nil_append] at hhead
 clear hx1
 generalize cZ 2 w=x2 at *
 generalize cZ 2 h=x3 at *
 generalize cZ 4 (bV w h p kind).length=x4 at *
 generalize bV w h p kind=dt at *
 have b1:41*(w+1)*h≤100000000:=by
  have:(w+1)*h≤1052576:=by rw [Nat.add_mul,Nat.one_mul];omega
  rw [Nat.mul_assoc];omega
 have b2:100*(w+1)*h≤200000000:=by
  have:(w+1)*h≤1052576:=by rw [Nat.add_mul,Nat.one_mul];omega
  rw [Nat.mul_assoc];omega
 refine aA.aG Tryz.func13 rfl (by decide) (by simp [Tryz.f13]) [.tmp 4] rfl fun w0 T0 _=>?_
 simp only [Tryz.f13,au]
 by_cases c1:kind=1
 ·have hdt:=e1 c1
  have g1:(kind=1)=True:=eq_true c1
  have hlen:p.length≤1048576:=by omega
  have h01:=KN p
  have htl:fZ (p.take p.length)=fZ p:=by rw [List.take_length]
  (repeat' with_reducible first|intro _|refine rz ?_|refine ra ?_ ?_|omega|simp only [go_sem,g1])
  refine aF.intro (fun x:EX=>⟨98,[(22,.int .i64 x.i),(21,.int .i64 p.length),(20,.ro (.bools p)),(5,.ptr 1 0),(2,.ptr 0 0),(1,.int .i64 kind)],(0,.box 24 [.int .i64 w,.int .i64 h,.ro (.bools p)])::(bif x.u then [(1,.box 89 [.ptr 1 0,.own 2]),(2,.row 5 (.ints .u8 (aj (fZ (p.take x.i)))))] else [(1,.box 89 [.raw (.pointer none),.nilS])]),bif x.u then 3 else 2⟩) (fun x=>x.i≤p.length∧BU (fZ (p.take x.i)) x.u) (fun x=>p.length - x.i) ⟨0,false⟩ ?_ ⟨Nat.zero_le _,fun h=>by (cases h),fun _=>rfl⟩ fun x hx=>?_
  ·refine aK.ak rfl ?_ ?_<;>simp only [go_sem,Int.natCast_succ]
   all_goals first|rfl|exact ⟨rfl,rfl⟩
  obtain ⟨i,u⟩:=x
  obtain ⟨hi,hu1,hu2⟩:=hx
  dsimp only at hi hu1 hu2 ⊢
  by_cases hlt:i<p.length
  rotate_left
  ·have f1:((i:Int)<(p.length:Int))=False:=eq_false (by omega)
   have e:i=p.length:=by omega
   subst e
   rw [htl] at hu1 hu2 ⊢
   have k2:=uw (fZ p) h01 (by rw [jP];omega)
   have hcs:u=true∨u=false:=by cases u<;>simp
   rcases hcs with rfl|rfl
   case' inl=>
    have kst:=gB (fZ p) (hu1 rfl)
    simp only [cond_true,cond_false,List.cons_append,List.nil_append]
    (repeat' with_reducible first|intro _|refine rz ?_|refine ra ?_ ?_|omega|simp only [go_sem,f1])
    refine ah.i [1,2] kst 2 ?_
    (repeat' with_reducible first|intro _|exact dn|refine rn ?_|refine ra ?_ ?_)
    refine ah.k k2 ?_
    (repeat' with_reducible first|intro _|exact dn|refine rn ?_|refine ra ?_ ?_)
    rw [←hdt]
   case' inr=>
    have hz:=hu2 rfl
    rw [hz] at k2
    have kst:=gK
    simp only [cond_true,cond_false,List.cons_append,List.nil_append]
    (repeat' with_reducible first|intro _|refine rz ?_|refine ra ?_ ?_|omega|simp only [go_sem,f1])
    refine ah.i [1] kst 1 ?_
    (repeat' with_reducible first|intro _|exact dn|refine rn ?_|refine ra ?_ ?_)
    refine ah.k k2 ?_
    (repeat' with_reducible first|intro _|exact dn|refine rn ?_|refine ra ?_ ?_)
    rw [hz] at hdt
    rw [←hdt]
   all_goals
    refine aN.lex [2] [(4,[0]),(5,[0]),(6,[0]),(8,[0]),(9,[0]),(10,[0]),(12,[0]),(13,[0]),(14,[0]),(16,[0])] (by kernel_rfl) (by kernel_rfl) ?_
    (repeat' with_reducible first|intro _|refine rz ?_|refine ra ?_ ?_|omega|simp only [go_sem,hwk])
    (refine QV.intro (.str x2) ?_ ?_;focus ((repeat' with_reducible first|intro _|exact dn|refine rn ?_|refine ra ?_ ?_);refine ah.k (n2) ?_;(repeat' with_reducible first|intro _|exact dn|refine rn ?_|refine ra ?_ ?_)))
    (repeat' with_reducible first|intro _|exact dn|refine rn ?_|refine ra ?_ ?_)
    (refine QV.intro (.str x3) ?_ ?_;focus ((repeat' with_reducible first|intro _|exact dn|refine rn ?_|refine ra ?_ ?_);refine ah.k (n3) ?_;(repeat' with_reducible first|intro _|exact dn|refine rn ?_|refine ra ?_ ?_)))
    (repeat' with_reducible first|intro _|exact dn|refine rn ?_|refine ra ?_ ?_)
    (refine QV.intro (.str x4) ?_ ?_;focus ((repeat' with_reducible first|intro _|exact dn|refine rn ?_|refine ra ?_ ?_);refine ah.k (n4) ?_;(repeat' with_reducible first|intro _|exact dn|refine rn ?_|refine ra ?_ ?_)))
    (repeat' with_reducible first|intro _|exact dn|refine rn ?_|refine ra ?_ ?_)
    ·refine ah.k n4 ?_
     (repeat' with_reducible first|intro _|exact dn|refine rn ?_|refine ra ?_ ?_)
    ·refine ah.k n3 ?_
     (repeat' with_reducible first|intro _|exact dn|refine rn ?_|refine ra ?_ ?_)
    ·refine ah.k n2 ?_
     (repeat' with_reducible first|intro _|exact dn|refine rn ?_|refine ra ?_ ?_)
    rw [←hhead]
    refine ah.k ks ?_
    (repeat' with_reducible first|intro _|exact dn|refine rn ?_|refine ra ?_ ?_)
    refine aT.auto 0 ?_ rfl ?_<;>simp only [go_sem,Int.natCast_succ,Post]
  have f1:((i:Int)<(p.length:Int))=True:=eq_true (by omega)
  have htk:=Oz hlt
  have hbl:(fZ (p.take i)).length≤1048576:=by rw [jP,List.length_take];omega
  have kb:=Y0 (p.getD i false)
  generalize fZ (p.take i)=o0 at *
  have q49:(((49:UInt8).toNat:Nat):Int)=49:=rfl
  have q48:(((48:UInt8).toNat:Nat):Int)=48:=rfl
  cases hpv:p.getD i false with
  | true=>
   rw [hpv] at kb htk
   rw [if_pos rfl] at kb htk
   cases u with
   | true=>
    have kw2:=pG o0 49 (by omega)
    rw [q49] at kw2
    simp only [cond_true,cond_false,List.cons_append,List.nil_append]
    (repeat' with_reducible first|intro _|refine rz ?_|refine ra ?_ ?_|omega|simp only [go_sem,f1,hpv])
    refine ah.k kb ?_
    (repeat' with_reducible first|intro _|exact dn|refine rn ?_|refine ra ?_ ?_)
    refine ah.i [1,2] kw2 3 ?_
    (repeat' with_reducible first|intro _|exact dn|refine rn ?_|refine ra ?_ ?_)
    refine ⟨⟨i+1,true⟩,aK.ak rfl ?_ ?_,⟨by dsimp only;omega,fun _=>by dsimp only;rw [htk,List.length_append];simp,fun h=>by (cases h)⟩,by dsimp only;omega⟩<;>simp only [go_sem,Int.natCast_succ,htk]
    all_goals first|rfl|exact ⟨rfl,rfl⟩
   | false=>
    have hz:=hu2 rfl
    have kw2:=nI 49
    rw [q49] at kw2
    simp only [cond_true,cond_false,List.cons_append,List.nil_append]
    (repeat' with_reducible first|intro _|refine rz ?_|refine ra ?_ ?_|omega|simp only [go_sem,f1,hpv])
    refine ah.k kb ?_
    (repeat' with_reducible first|intro _|exact dn|refine rn ?_|refine ra ?_ ?_)
    refine ah.i [1] kw2 2 ?_
    (repeat' with_reducible first|intro _|exact dn|refine rn ?_|refine ra ?_ ?_)
    rw [hz,List.nil_append] at htk
    refine ⟨⟨i+1,true⟩,aK.ak rfl ?_ ?_,⟨by dsimp only;omega,fun _=>by dsimp only;rw [htk];simp,fun h=>by (cases h)⟩,by dsimp only;omega⟩<;>simp only [go_sem,Int.natCast_succ,htk]
    all_goals first|rfl|exact ⟨rfl,rfl⟩
  | false=>
   rw [hpv] at kb htk
   rw [if_neg (by decide)] at kb htk
   cases u with
   | true=>
    have kw2:=pG o0 48 (by omega)
    rw [q48] at kw2
    simp only [cond_true,cond_false,List.cons_append,List.nil_append]
    (repeat' with_reducible first|intro _|refine rz ?_|refine ra ?_ ?_|omega|simp only [go_sem,f1,hpv])
    refine ah.k kb ?_
    (repeat' with_reducible first|intro _|exact dn|refine rn ?_|refine ra ?_ ?_)
    refine ah.i [1,2] kw2 3 ?_
    (repeat' with_reducible first|intro _|exact dn|refine rn ?_|refine ra ?_ ?_)
    refine ⟨⟨i+1,true⟩,aK.ak rfl ?_ ?_,⟨by dsimp only;omega,fun _=>by dsimp only;rw [htk,List.length_append];simp,fun h=>by (cases h)⟩,by dsimp only;omega⟩<;>simp only [go_sem,Int.natCast_succ,htk]
    all_goals first|rfl|exact ⟨rfl,rfl⟩
   | false=>
    have hz:=hu2 rfl
    have kw2:=nI 48
    rw [q48] at kw2
    simp only [cond_true,cond_false,List.cons_append,List.nil_append]
    (repeat' with_reducible first|intro _|refine rz ?_|refine ra ?_ ?_|omega|simp only [go_sem,f1,hpv])
    refine ah.k kb ?_
    (repeat' with_reducible first|intro _|exact dn|refine rn ?_|refine ra ?_ ?_)
    refine ah.i [1] kw2 2 ?_
    (repeat' with_reducible first|intro _|exact dn|refine rn ?_|refine ra ?_ ?_)
    rw [hz,List.nil_append] at htk
    refine ⟨⟨i+1,true⟩,aK.ak rfl ?_ ?_,⟨by dsimp only;omega,fun _=>by dsimp only;rw [htk];simp,fun h=>by (cases h)⟩,by dsimp only;omega⟩<;>simp only [go_sem,Int.natCast_succ,htk]
    all_goals first|rfl|exact ⟨rfl,rfl⟩
 have g1:(kind=1)=False:=eq_false c1
 by_cases c2:kind=2
 ·have hdt:=e2 c2
  have g2:(kind=2)=True:=eq_true c2
  have bl:=vK hw hp
  have h01:=Nz w p h
  (repeat' with_reducible first|intro _|refine rz ?_|refine ra ?_ ?_|omega|simp only [go_sem,g1,g2])
  refine aF.intro (fun x:EX=>⟨98,[(37,.int .i64 x.i),(36,.int .i64 h),(5,.ptr 1 0),(2,.ptr 0 0),(1,.int .i64 kind)],(0,.box 24 [.int .i64 w,.int .i64 h,.ro (.bools p)])::(bif x.u then [(1,.box 89 [.ptr 1 0,.own 2]),(2,.row 5 (.ints .u8 (aj (iY w p x.i))))] else [(1,.box 89 [.raw (.pointer none),.nilS])]),bif x.u then 3 else 2⟩) (fun x=>x.i≤h∧BU (iY w p x.i) x.u) (fun x=>h - x.i) ⟨0,false⟩ ?_ ⟨Nat.zero_le _,fun h=>by (cases h),fun _=>rfl⟩ fun x hx=>?_
  ·refine aK.ak rfl ?_ ?_<;>simp only [go_sem,Int.natCast_succ]
   all_goals first|rfl|exact ⟨rfl,rfl⟩
  obtain ⟨y,u⟩:=x
  obtain ⟨hy,hu1,hu2⟩:=hx
  dsimp only at hy hu1 hu2 ⊢
  have hbly:=bl y hy
  have hmy:41*(w+1)*y≤41*(w+1)*h:=Nat.mul_le_mul_left _ hy
  by_cases hylt:y<h
  rotate_left
  ·have f1:((y:Int)<(h:Int))=False:=eq_false (by omega)
   have e:y=h:=by omega
   subst e
   have k2:=uw (iY w p y) h01 (by omega)
   have hcs:u=true∨u=false:=by cases u<;>simp
   rcases hcs with rfl|rfl
   case' inl=>
    have kst:=gB (iY w p y) (hu1 rfl)
    simp only [cond_true,cond_false,List.cons_append,List.nil_append]
    (repeat' with_reducible first|intro _|refine rz ?_|refine ra ?_ ?_|omega|simp only [go_sem,f1])
    refine ah.i [1,2] kst 2 ?_
    (repeat' with_reducible first|intro _|exact dn|refine rn ?_|refine ra ?_ ?_)
    refine ah.k k2 ?_
    (repeat' with_reducible first|intro _|exact dn|refine rn ?_|refine ra ?_ ?_)
    rw [←hdt]
   case' inr=>
    have hz:=hu2 rfl
    rw [hz] at k2
    have kst:=gK
    simp only [cond_true,cond_false,List.cons_append,List.nil_append]
    (repeat' with_reducible first|intro _|refine rz ?_|refine ra ?_ ?_|omega|simp only [go_sem,f1])
    refine ah.i [1] kst 1 ?_
    (repeat' with_reducible first|intro _|exact dn|refine rn ?_|refine ra ?_ ?_)
    refine ah.k k2 ?_
    (repeat' with_reducible first|intro _|exact dn|refine rn ?_|refine ra ?_ ?_)
    rw [hz] at hdt
    rw [←hdt]
   all_goals
    refine aN.lex [2] [(4,[0]),(5,[0]),(6,[0]),(8,[0]),(9,[0]),(10,[0]),(12,[0]),(13,[0]),(14,[0]),(16,[0])] (by kernel_rfl) (by kernel_rfl) ?_
    (repeat' with_reducible first|intro _|refine rz ?_|refine ra ?_ ?_|omega|simp only [go_sem,hwk])
    (refine QV.intro (.str x2) ?_ ?_;focus ((repeat' with_reducible first|intro _|exact dn|refine rn ?_|refine ra ?_ ?_);refine ah.k (n2) ?_;(repeat' with_reducible first|intro _|exact dn|refine rn ?_|refine ra ?_ ?_)))
    (repeat' with_reducible first|intro _|exact dn|refine rn ?_|refine ra ?_ ?_)
    (refine QV.intro (.str x3) ?_ ?_;focus ((repeat' with_reducible first|intro _|exact dn|refine rn ?_|refine ra ?_ ?_);refine ah.k (n3) ?_;(repeat' with_reducible first|intro _|exact dn|refine rn ?_|refine ra ?_ ?_)))
    (repeat' with_reducible first|intro _|exact dn|refine rn ?_|refine ra ?_ ?_)
    (refine QV.intro (.str x4) ?_ ?_;focus ((repeat' with_reducible first|intro _|exact dn|refine rn ?_|refine ra ?_ ?_);refine ah.k (n4) ?_;(repeat' with_reducible first|intro _|exact dn|refine rn ?_|refine ra ?_ ?_)))
    (repeat' with_reducible first|intro _|exact dn|refine rn ?_|refine ra ?_ ?_)
    ·refine ah.k n4 ?_
     (repeat' with_reducible first|intro _|exact dn|refine rn ?_|refine ra ?_ ?_)
    ·refine ah.k n3 ?_
     (repeat' with_reducible first|intro _|exact dn|refine rn ?_|refine ra ?_ ?_)
    ·refine ah.k n2 ?_
     (repeat' with_reducible first|intro _|exact dn|refine rn ?_|refine ra ?_ ?_)
    rw [←hhead]
    refine ah.k ks ?_
    (repeat' with_reducible first|intro _|exact dn|refine rn ?_|refine ra ?_ ?_)
    refine aT.auto 0 ?_ rfl ?_<;>simp only [go_sem,Int.natCast_succ,Post]
  have f1:((y:Int)<(h:Int))=True:=eq_true (by omega)
  have hl:=iC hp hylt
  have kr:=EY w h hw hh p hp y hylt
  have kn:=PV (rowP w p y) (by omega)
  obtain ⟨n1,n2'⟩:=vJ (rowP w p y)
  have hsucc:=rW w p y
  have hbly2:=bl (y+1) (by omega)
  have hrr:(bF (rowP w p y) (rowP w p y).length).1=iW (rowP w p y):=rfl
  rw [hrr] at kn
  generalize hL:iW (rowP w p y)=L at *
  generalize rowP w p y=rw_ at *
  generalize iY w p y=o0 at *
  (repeat' with_reducible first|intro _|refine rz ?_|refine ra ?_ ?_|omega|simp only [go_sem,f1])
  refine ah.Ug (.ro (.bools rw_)) kr (by simp only [aI,aQ,bJ,aU,aH,List.drop_zero,lk,reduceIte,reduceCtorEq,Nat.reduceEqDiff,Option.some.injEq,Item.row.injEq,Item.box.injEq,AV.ro.injEq,exists_eq_left,exists_and_left,exists_eq_left',exists_eq_right,and_assoc,and_true,true_and,List.cons.injEq,exists_eq',exists_eq]) (by simp [dG,aQ,aU,bJ,aH,lk,aI]) rfl ?_
  (repeat' with_reducible first|intro _|exact dn|refine rn ?_|refine ra ?_ ?_)
  refine ah.ro (.ro (.ints .i64 L)) (bZ.eH kn rfl (by simp [fQ,fP,jd,iO,lC])) (by simp only [aI,aQ,bJ,aU,aH,List.drop_zero,lk,reduceIte,reduceCtorEq,Nat.reduceEqDiff,Option.some.injEq,Item.row.injEq,Item.box.injEq,AV.ro.injEq,exists_eq_left,exists_and_left,exists_eq_left',exists_eq_right,and_assoc,and_true,true_and,List.cons.injEq,exists_eq',exists_eq]) (by simp [dG,aQ,aU,bJ,aH,lk,aI]) rfl ?_
  (repeat' with_reducible first|intro _|exact dn|refine rn ?_|refine ra ?_ ?_)
  refine aF.intro (fun x:EX=>⟨98,[(45,.int .i64 x.i),(44,.int .i64 L.length),(43,.ro (.ints .i64 L)),(37,.int .i64 y),(36,.int .i64 h),(5,.ptr 1 0),(2,.ptr 0 0),(1,.int .i64 kind)],(0,.box 24 [.int .i64 w,.int .i64 h,.ro (.bools p)])::(bif x.u then [(1,.box 89 [.ptr 1 0,.own 2]),(2,.row 5 (.ints .u8 (aj (o0++dI (L.take x.i)))))] else [(1,.box 89 [.raw (.pointer none),.nilS])]),bif x.u then 3 else 2⟩) (fun x=>x.i≤L.length∧BU (o0++dI (L.take x.i)) x.u) (fun x=>L.length - x.i) ⟨0,u⟩ ?_ ⟨Nat.zero_le _,by
   have e:o0++dI (L.take 0)=o0:=by simp [dI]
   rw [e];exact ⟨hu1,hu2⟩⟩ fun x hx=>?_
  ·have e:dI []=[]:=rfl
   cases u<;>(simp only [cond_true,cond_false];refine aK.ak rfl ?_ ?_<;>simp only [go_sem,Int.natCast_succ,e])
   all_goals first|rfl|exact ⟨rfl,rfl⟩
  obtain ⟨j,v⟩:=x
  obtain ⟨hj,hv1,hv2⟩:=hx
  dsimp only at hj hv1 hv2 ⊢
  have hgl:(dI (L.take j)).length≤41*4001:=by
   have h1:=Ae (l:=L.take j) fun x hx=>by have:=n2' x (List.mem_of_mem_take hx);omega
   have h2:(L.take j).length≤4001:=by rw [List.length_take];omega
   omega
  have hbq:41*(w+1)*y≤100000000:=by omega
  by_cases hjlt:j<L.length
  rotate_left
  ·have fj:((j:Int)<(L.length:Int))=False:=eq_false (by omega)
   have hjl:L.take j=L:=List.take_of_length_le (by omega)
   rw [hjl] at hv1 hv2 ⊢
   cases v <;>
    (simp only [cond_true,cond_false,List.cons_append,List.nil_append]
     (repeat' with_reducible first|intro _|refine rz ?_|refine ra ?_ ?_|omega|simp only [go_sem,fj]))
   ·refine ⟨⟨y+1,false⟩,aK.ak rfl ?_ ?_,⟨by dsimp only;omega,by rw [hsucc];exact ⟨hv1,hv2⟩⟩,by dsimp only;omega⟩<;>simp only [go_sem,Int.natCast_succ,hsucc]
    all_goals first|rfl|exact ⟨rfl,rfl⟩
   ·refine ⟨⟨y+1,true⟩,aK.ak rfl ?_ ?_,⟨by dsimp only;omega,by rw [hsucc];exact ⟨hv1,hv2⟩⟩,by dsimp only;omega⟩<;>simp only [go_sem,Int.natCast_succ,hsucc]
    all_goals first|rfl|exact ⟨rfl,rfl⟩
  have fj:((j:Int)<(L.length:Int))=True:=eq_true (by omega)
  have htk:=E5 hjlt
  have hnb:=n2' (L.getD j 0) (by rw [getD_lt hjlt];exact List.getElem_mem hjlt)
  have kg:=fK (L.getD j 0+1).toNat (by omega)
  rw [show (((L.getD j 0+1).toNat:Nat):Int)=L.getD j 0+1 by omega] at kg
  have hgp:=Rk (L.getD j 0+1).toNat
  have hgs:=dF (n:=(L.getD j 0+1).toNat) (by omega)
  generalize dS (L.getD j 0+1).toNat=g at *
  generalize hn0:L.getD j 0=n0 at *
  cases v with
  | true=>
   have kw2:=dY (o0++dI (L.take j)) g (by rw [List.length_append];omega) (by omega)
   simp only [cond_true,cond_false,List.cons_append,List.nil_append]
   (repeat' with_reducible first|intro _|refine rz ?_|refine ra ?_ ?_|omega|simp only [go_sem,fj,hn0])
   refine ah.k kg ?_
   (repeat' with_reducible first|intro _|exact dn|refine rn ?_|refine ra ?_ ?_)
   refine ah.i [1,2] kw2 3 ?_
   (repeat' with_reducible first|intro _|exact dn|refine rn ?_|refine ra ?_ ?_)
   refine ⟨⟨j+1,true⟩,aK.ak rfl ?_ ?_,⟨by dsimp only;omega,fun _=>by dsimp only;rw [htk,List.length_append,List.length_append];omega,fun h=>by (cases h)⟩,by dsimp only;omega⟩<;>simp only [go_sem,Int.natCast_succ,htk,List.append_assoc]
   all_goals first|rfl|exact ⟨rfl,rfl⟩
  | false=>
   have hz:=hv2 rfl
   have kw2:=gG g (by omega)
   simp only [cond_true,cond_false,List.cons_append,List.nil_append]
   (repeat' with_reducible first|intro _|refine rz ?_|refine ra ?_ ?_|omega|simp only [go_sem,fj,hn0])
   refine ah.k kg ?_
   (repeat' with_reducible first|intro _|exact dn|refine rn ?_|refine ra ?_ ?_)
   refine ah.i [1] kw2 2 ?_
   (repeat' with_reducible first|intro _|exact dn|refine rn ?_|refine ra ?_ ?_)
   have hz2:o0++dI (L.take (j+1))=g:=by rw [htk,←List.append_assoc,hz,List.nil_append]
   refine ⟨⟨j+1,true⟩,aK.ak rfl ?_ ?_,⟨by dsimp only;omega,fun _=>by dsimp only;rw [hz2];omega,fun h=>by (cases h)⟩,by dsimp only;omega⟩<;>simp only [go_sem,Int.natCast_succ,hz2]
   all_goals first|rfl|exact ⟨rfl,rfl⟩
 have g2:(kind=2)=False:=eq_false c2
 by_cases c4:kind=4
 ·have hdt:=e4 c4
  have k1:=EL w h hw0 hw hh hwh p hp
  rw [←hdt] at k1
  have g3:(kind=3)=False:=eq_false (by omega)
  (repeat' with_reducible first|intro _|refine rz ?_|refine ra ?_ ?_|omega|simp only [go_sem,g1,g2,g3])
  refine ah.k k1 ?_
  (repeat' with_reducible first|intro _|exact dn|refine rn ?_|refine ra ?_ ?_)
  refine aN.lex [2] [(4,[0]),(5,[0]),(6,[0]),(8,[0]),(9,[0]),(10,[0]),(12,[0]),(13,[0]),(14,[0]),(16,[0])] (by kernel_rfl) (by kernel_rfl) ?_
  (repeat' with_reducible first|intro _|refine rz ?_|refine ra ?_ ?_|omega|simp only [go_sem,hwk])
  (refine QV.intro (.str x2) ?_ ?_;focus ((repeat' with_reducible first|intro _|exact dn|refine rn ?_|refine ra ?_ ?_);refine ah.k (n2) ?_;(repeat' with_reducible first|intro _|exact dn|refine rn ?_|refine ra ?_ ?_)))
  (repeat' with_reducible first|intro _|exact dn|refine rn ?_|refine ra ?_ ?_)
  (refine QV.intro (.str x3) ?_ ?_;focus ((repeat' with_reducible first|intro _|exact dn|refine rn ?_|refine ra ?_ ?_);refine ah.k (n3) ?_;(repeat' with_reducible first|intro _|exact dn|refine rn ?_|refine ra ?_ ?_)))
  (repeat' with_reducible first|intro _|exact dn|refine rn ?_|refine ra ?_ ?_)
  (refine QV.intro (.str x4) ?_ ?_;focus ((repeat' with_reducible first|intro _|exact dn|refine rn ?_|refine ra ?_ ?_);refine ah.k (n4) ?_;(repeat' with_reducible first|intro _|exact dn|refine rn ?_|refine ra ?_ ?_)))
  (repeat' with_reducible first|intro _|exact dn|refine rn ?_|refine ra ?_ ?_)
  ·refine ah.k n4 ?_
   (repeat' with_reducible first|intro _|exact dn|refine rn ?_|refine ra ?_ ?_)
  ·refine ah.k n3 ?_
   (repeat' with_reducible first|intro _|exact dn|refine rn ?_|refine ra ?_ ?_)
  ·refine ah.k n2 ?_
   (repeat' with_reducible first|intro _|exact dn|refine rn ?_|refine ra ?_ ?_)
  rw [←hhead]
  refine ah.k ks ?_
  (repeat' with_reducible first|intro _|exact dn|refine rn ?_|refine ra ?_ ?_)
  refine aT.auto 0 ?_ rfl ?_<;>simp only [go_sem,Int.natCast_succ,Post]
 have c3:kind=3:=by omega
 have hdt:=e3 c3
 have g3:(kind=3)=True:=eq_true c3
 have bl:=rJ hw hp
 have h01:=Ht w h p hp
 (repeat' with_reducible first|intro _|refine rz ?_|refine ra ?_ ?_|omega|simp only [go_sem,g1,g2,g3])
 refine aF.intro (fun x:EX=>⟨98,[(61,.int .i64 x.i),(60,.int .i64 h),(5,.ptr 1 0),(2,.ptr 0 0),(1,.int .i64 kind)],(0,.box 24 [.int .i64 w,.int .i64 h,.ro (.bools p)])::(bif x.u then [(1,.box 89 [.ptr 1 0,.own 2]),(2,.row 5 (.ints .u8 (aj (eP w p x.i))))] else [(1,.box 89 [.raw (.pointer none),.nilS])]),bif x.u then 3 else 2⟩) (fun x=>x.i≤h∧BU (eP w p x.i) x.u) (fun x=>h - x.i) ⟨0,false⟩ ?_ ⟨Nat.zero_le _,fun h=>by (cases h),fun _=>rfl⟩ fun x hx=>?_
 ·refine aK.ak rfl ?_ ?_<;>simp only [go_sem,Int.natCast_succ]
  all_goals first|rfl|exact ⟨rfl,rfl⟩
 obtain ⟨y,u⟩:=x
 obtain ⟨hy,hu1,hu2⟩:=hx
 dsimp only at hy hu1 hu2 ⊢
 have hbly:=bl y hy
 have hmy:100*(w+1)*y≤100*(w+1)*h:=Nat.mul_le_mul_left _ hy
 by_cases hylt:y<h
 rotate_left
 ·have f1:((y:Int)<(h:Int))=False:=eq_false (by omega)
  have e:y=h:=by omega
  subst e
  have k2:=uw (eP w p y) (h01 y (Nat.le_refl _)) (by omega)
  have hcs:u=true∨u=false:=by cases u<;>simp
  rcases hcs with rfl|rfl
  case' inl=>
   have kst:=gB (eP w p y) (hu1 rfl)
   simp only [cond_true,cond_false,List.cons_append,List.nil_append]
   (repeat' with_reducible first|intro _|refine rz ?_|refine ra ?_ ?_|omega|simp only [go_sem,f1])
   refine ah.i [1,2] kst 2 ?_
   (repeat' with_reducible first|intro _|exact dn|refine rn ?_|refine ra ?_ ?_)
   refine ah.k k2 ?_
   (repeat' with_reducible first|intro _|exact dn|refine rn ?_|refine ra ?_ ?_)
   rw [←hdt]
  case' inr=>
   have hz:=hu2 rfl
   rw [hz] at k2
   have kst:=gK
   simp only [cond_true,cond_false,List.cons_append,List.nil_append]
   (repeat' with_reducible first|intro _|refine rz ?_|refine ra ?_ ?_|omega|simp only [go_sem,f1])
   refine ah.i [1] kst 1 ?_
   (repeat' with_reducible first|intro _|exact dn|refine rn ?_|refine ra ?_ ?_)
   refine ah.k k2 ?_
   (repeat' with_reducible first|intro _|exact dn|refine rn ?_|refine ra ?_ ?_)
   rw [hz] at hdt
   rw [←hdt]
  all_goals
   refine aN.lex [2] [(4,[0]),(5,[0]),(6,[0]),(8,[0]),(9,[0]),(10,[0]),(12,[0]),(13,[0]),(14,[0]),(16,[0])] (by kernel_rfl) (by kernel_rfl) ?_
   (repeat' with_reducible first|intro _|refine rz ?_|refine ra ?_ ?_|omega|simp only [go_sem,hwk])
   (refine QV.intro (.str x2) ?_ ?_;focus ((repeat' with_reducible first|intro _|exact dn|refine rn ?_|refine ra ?_ ?_);refine ah.k (n2) ?_;(repeat' with_reducible first|intro _|exact dn|refine rn ?_|refine ra ?_ ?_)))
   (repeat' with_reducible first|intro _|exact dn|refine rn ?_|refine ra ?_ ?_)
   (refine QV.intro (.str x3) ?_ ?_;focus ((repeat' with_reducible first|intro _|exact dn|refine rn ?_|refine ra ?_ ?_);refine ah.k (n3) ?_;(repeat' with_reducible first|intro _|exact dn|refine rn ?_|refine ra ?_ ?_)))
   (repeat' with_reducible first|intro _|exact dn|refine rn ?_|refine ra ?_ ?_)
   (refine QV.intro (.str x4) ?_ ?_;focus ((repeat' with_reducible first|intro _|exact dn|refine rn ?_|refine ra ?_ ?_);refine ah.k (n4) ?_;(repeat' with_reducible first|intro _|exact dn|refine rn ?_|refine ra ?_ ?_)))
   (repeat' with_reducible first|intro _|exact dn|refine rn ?_|refine ra ?_ ?_)
   ·refine ah.k n4 ?_
    (repeat' with_reducible first|intro _|exact dn|refine rn ?_|refine ra ?_ ?_)
   ·refine ah.k n3 ?_
    (repeat' with_reducible first|intro _|exact dn|refine rn ?_|refine ra ?_ ?_)
   ·refine ah.k n2 ?_
    (repeat' with_reducible first|intro _|exact dn|refine rn ?_|refine ra ?_ ?_)
   rw [←hhead]
   refine ah.k ks ?_
   (repeat' with_reducible first|intro _|exact dn|refine rn ?_|refine ra ?_ ?_)
   refine aT.auto 0 ?_ rfl ?_<;>simp only [go_sem,Int.natCast_succ,Post]
 have f1:((y:Int)<(h:Int))=True:=eq_true (by omega)
 have hl:=iC hp hylt
 have hul:=CV hp hylt
 have kr:=EY w h hw hh p hp y hylt
 have ku:(0<y∧aA Tryz.prog 59 [.agg [.int .i64 w,.int .i64 h,.ro (.bools p)],.int .i64 ((y:Int) - 1)] (.ro (.bools (sN w p y))) [])∨(y=0∧sN w p y=List.replicate w false):=by
  by_cases h0:y=0
  ·exact .inr ⟨h0,by unfold sN;rw [if_pos h0]⟩
  ·refine .inl ⟨by omega,?_⟩
   have e:sN w p y=rowP w p (y - 1):=by unfold sN;rw [if_neg h0]
   rw [e,show ((y:Int) - 1)=((y - 1:Nat):Int) by omega]
   exact EY w h hw hh p hp (y - 1) (by omega)
 have kuN:=Ui w h hw p
 have kl:=EN (rowP w p y) (sN w p y) (by omega) (by omega)
 have hll:=wY (row:=rowP w p y) (above:=sN w p y) (by omega) (by omega)
 have hlp:0<(eY (rowP w p y) (sN w p y)).length:=Hr (by omega) (by omega) (by omega)
 have hsucc:=pO w p y
 have hbly2:=bl (y+1) (by omega)
 generalize eY (rowP w p y) (sN w p y)=lb at *
 generalize rowP w p y=rw_ at *
 generalize hup0:sN w p y=ab at *
 generalize hlb0:eP w p y=o0 at *
 rcases ku with ⟨h0,ku⟩|⟨h0,ku⟩
 ·cases u with
  | true=>
   have kw2:=dY o0 lb (by omega) (by omega)
   simp only [cond_true,cond_false,List.cons_append,List.nil_append]
   (repeat' with_reducible first|intro _|refine rz ?_|refine ra ?_ ?_|omega|simp only [go_sem,f1])
   refine aN.lex [8] [] (by kernel_rfl) (by kernel_rfl) ?_
   (repeat' with_reducible first|intro _|exact dn|refine rn ?_|refine ra ?_ ?_)
   refine QV.intro (.ro (.bools rw_)) ?_ ?_
   ·(repeat' with_reducible first|intro _|exact dn|refine rn ?_|refine ra ?_ ?_)
    refine ah.Ug (.ro (.bools rw_)) kr (by simp only [aI,aQ,bJ,aU,aH,List.drop_zero,lk,reduceIte,reduceCtorEq,Nat.reduceEqDiff,Option.some.injEq,Item.row.injEq,Item.box.injEq,AV.ro.injEq,exists_eq_left,exists_and_left,exists_eq_left',exists_eq_right,and_assoc,and_true,true_and,List.cons.injEq,exists_eq',exists_eq]) (by simp [dG,aQ,aU,bJ,aH,lk,aI]) rfl ?_
    (repeat' with_reducible first|intro _|exact dn|refine rn ?_|refine ra ?_ ?_)
   (repeat' with_reducible first|intro _|exact dn|refine rn ?_|refine ra ?_ ?_)
   refine QV.intro (.ro (.bools ab)) ?_ ?_
   ·(repeat' with_reducible first|intro _|exact dn|refine rn ?_|refine ra ?_ ?_)
    refine ah.Ug (.ro (.bools ab)) ku (by simp only [aI,aQ,bJ,aU,aH,List.drop_zero,lk,reduceIte,reduceCtorEq,Nat.reduceEqDiff,Option.some.injEq,Item.row.injEq,Item.box.injEq,AV.ro.injEq,exists_eq_left,exists_and_left,exists_eq_left',exists_eq_right,and_assoc,and_true,true_and,List.cons.injEq,exists_eq',exists_eq]) (by simp [dG,aQ,aU,bJ,aH,lk,aI]) rfl ?_
    (repeat' with_reducible first|intro _|exact dn|refine rn ?_|refine ra ?_ ?_)
   (repeat' with_reducible first|intro _|exact dn|refine rn ?_|refine ra ?_ ?_)
   (refine QV.intro (.str lb) ?_ ?_;focus ((repeat' with_reducible first|intro _|exact dn|refine rn ?_|refine ra ?_ ?_);refine ah.k (kl) ?_;(repeat' with_reducible first|intro _|exact dn|refine rn ?_|refine ra ?_ ?_)))
   (repeat' with_reducible first|intro _|exact dn|refine rn ?_|refine ra ?_ ?_)
   refine QE.intro (.tup [.int .i64 lb.length,.raw .nilIface]) [(1,.box 89 [.ptr 1 0,.own 3]),(3,.row 5 (.ints .u8 (aj (o0++lb)))),(0,.box 24 [.int .i64 w,.int .i64 h,.ro (.bools p)])] 4 ?_ ?_
   ·(repeat' with_reducible first|intro _|exact dn|refine rn ?_|refine ra ?_ ?_)
    refine ah.i [1,2] kw2 3 ?_
    (repeat' with_reducible first|intro _|exact dn|refine rn ?_|refine ra ?_ ?_)
   (repeat' with_reducible first|intro _|exact dn|refine rn ?_|refine ra ?_ ?_)
   skip
   refine ⟨⟨y+1,true⟩,aK.ak rfl ?_ ?_,⟨by dsimp only;omega,fun _=>by dsimp only;rw [hsucc,List.length_append];omega,fun h=>by (cases h)⟩,by dsimp only;omega⟩<;>simp only [go_sem,Int.natCast_succ,hsucc]
   all_goals first|rfl|exact ⟨rfl,rfl⟩
  | false=>
   have kw2:=gG lb (by omega)
   simp only [cond_true,cond_false,List.cons_append,List.nil_append]
   (repeat' with_reducible first|intro _|refine rz ?_|refine ra ?_ ?_|omega|simp only [go_sem,f1])
   refine aN.lex [8] [] (by kernel_rfl) (by kernel_rfl) ?_
   (repeat' with_reducible first|intro _|exact dn|refine rn ?_|refine ra ?_ ?_)
   refine QV.intro (.ro (.bools rw_)) ?_ ?_
   ·(repeat' with_reducible first|intro _|exact dn|refine rn ?_|refine ra ?_ ?_)
    refine ah.Ug (.ro (.bools rw_)) kr (by simp only [aI,aQ,bJ,aU,aH,List.drop_zero,lk,reduceIte,reduceCtorEq,Nat.reduceEqDiff,Option.some.injEq,Item.row.injEq,Item.box.injEq,AV.ro.injEq,exists_eq_left,exists_and_left,exists_eq_left',exists_eq_right,and_assoc,and_true,true_and,List.cons.injEq,exists_eq',exists_eq]) (by simp [dG,aQ,aU,bJ,aH,lk,aI]) rfl ?_
    (repeat' with_reducible first|intro _|exact dn|refine rn ?_|refine ra ?_ ?_)
   (repeat' with_reducible first|intro _|exact dn|refine rn ?_|refine ra ?_ ?_)
   refine QV.intro (.ro (.bools ab)) ?_ ?_
   ·(repeat' with_reducible first|intro _|exact dn|refine rn ?_|refine ra ?_ ?_)
    refine ah.Ug (.ro (.bools ab)) ku (by simp only [aI,aQ,bJ,aU,aH,List.drop_zero,lk,reduceIte,reduceCtorEq,Nat.reduceEqDiff,Option.some.injEq,Item.row.injEq,Item.box.injEq,AV.ro.injEq,exists_eq_left,exists_and_left,exists_eq_left',exists_eq_right,and_assoc,and_true,true_and,List.cons.injEq,exists_eq',exists_eq]) (by simp [dG,aQ,aU,bJ,aH,lk,aI]) rfl ?_
    (repeat' with_reducible first|intro _|exact dn|refine rn ?_|refine ra ?_ ?_)
   (repeat' with_reducible first|intro _|exact dn|refine rn ?_|refine ra ?_ ?_)
   (refine QV.intro (.str lb) ?_ ?_;focus ((repeat' with_reducible first|intro _|exact dn|refine rn ?_|refine ra ?_ ?_);refine ah.k (kl) ?_;(repeat' with_reducible first|intro _|exact dn|refine rn ?_|refine ra ?_ ?_)))
   (repeat' with_reducible first|intro _|exact dn|refine rn ?_|refine ra ?_ ?_)
   refine QE.intro (.tup [.int .i64 lb.length,.raw .nilIface]) [(1,.box 89 [.ptr 1 0,.own 2]),(2,.row 5 (.ints .u8 (aj lb))),(0,.box 24 [.int .i64 w,.int .i64 h,.ro (.bools p)])] 3 ?_ ?_
   ·(repeat' with_reducible first|intro _|exact dn|refine rn ?_|refine ra ?_ ?_)
    refine ah.i [1] kw2 2 ?_
    (repeat' with_reducible first|intro _|exact dn|refine rn ?_|refine ra ?_ ?_)
   (repeat' with_reducible first|intro _|exact dn|refine rn ?_|refine ra ?_ ?_)
   have hz2:eP w p (y+1)=lb:=by rw [hsucc,hu2 rfl,List.nil_append]
   refine ⟨⟨y+1,true⟩,aK.ak rfl ?_ ?_,⟨by dsimp only;omega,fun _=>by dsimp only;rw [hz2];exact hlp,fun h=>by (cases h)⟩,by dsimp only;omega⟩<;>simp only [go_sem,Int.natCast_succ,hz2]
   all_goals first|rfl|exact ⟨rfl,rfl⟩
 ·cases u with
  | true=>
   have kw2:=dY o0 lb (by omega) (by omega)
   simp only [cond_true,cond_false,List.cons_append,List.nil_append]
   rw [ku] at kl
   have e0:(-1:Int)=(y:Int) - 1:=by omega
   rw [e0] at kuN
   (repeat' with_reducible first|intro _|refine rz ?_|refine ra ?_ ?_|omega|simp only [go_sem,f1])
   refine aN.lex [8] [] (by kernel_rfl) (by kernel_rfl) ?_
   (repeat' with_reducible first|intro _|exact dn|refine rn ?_|refine ra ?_ ?_)
   refine QV.intro (.ro (.bools rw_)) ?_ ?_
   ·(repeat' with_reducible first|intro _|exact dn|refine rn ?_|refine ra ?_ ?_)
    refine ah.Ug (.ro (.bools rw_)) kr (by simp only [aI,aQ,bJ,aU,aH,List.drop_zero,lk,reduceIte,reduceCtorEq,Nat.reduceEqDiff,Option.some.injEq,Item.row.injEq,Item.box.injEq,AV.ro.injEq,exists_eq_left,exists_and_left,exists_eq_left',exists_eq_right,and_assoc,and_true,true_and,List.cons.injEq,exists_eq',exists_eq]) (by simp [dG,aQ,aU,bJ,aH,lk,aI]) rfl ?_
    (repeat' with_reducible first|intro _|exact dn|refine rn ?_|refine ra ?_ ?_)
   (repeat' with_reducible first|intro _|exact dn|refine rn ?_|refine ra ?_ ?_)
   refine QV.intro (.ro (.bools (List.replicate w false))) ?_ ?_
   ·(repeat' with_reducible first|intro _|exact dn|refine rn ?_|refine ra ?_ ?_)
    refine ah.ro (.ro (.bools (List.replicate w false))) (bZ.eH kuN rfl (by simp [fQ,fP,jd,iO,lC])) (by simp only [aI,aQ,bJ,aU,aH,List.drop_zero,lk,reduceIte,reduceCtorEq,Nat.reduceEqDiff,Option.some.injEq,Item.row.injEq,Item.box.injEq,AV.ro.injEq,exists_eq_left,exists_and_left,exists_eq_left',exists_eq_right,and_assoc,and_true,true_and,List.cons.injEq,exists_eq',exists_eq]) (by simp [dG,aQ,aU,bJ,aH,lk,aI]) rfl ?_
    (repeat' with_reducible first|intro _|exact dn|refine rn ?_|refine ra ?_ ?_)
   (repeat' with_reducible first|intro _|exact dn|refine rn ?_|refine ra ?_ ?_)
   (refine QV.intro (.str lb) ?_ ?_;focus ((repeat' with_reducible first|intro _|exact dn|refine rn ?_|refine ra ?_ ?_);refine ah.k (kl) ?_;(repeat' with_reducible first|intro _|exact dn|refine rn ?_|refine ra ?_ ?_)))
   (repeat' with_reducible first|intro _|exact dn|refine rn ?_|refine ra ?_ ?_)
   refine QE.intro (.tup [.int .i64 lb.length,.raw .nilIface]) [(1,.box 89 [.ptr 1 0,.own 3]),(3,.row 5 (.ints .u8 (aj (o0++lb)))),(0,.box 24 [.int .i64 w,.int .i64 h,.ro (.bools p)])] 4 ?_ ?_
   ·(repeat' with_reducible first|intro _|exact dn|refine rn ?_|refine ra ?_ ?_)
    refine ah.i [1,2] kw2 3 ?_
    (repeat' with_reducible first|intro _|exact dn|refine rn ?_|refine ra ?_ ?_)
   (repeat' with_reducible first|intro _|exact dn|refine rn ?_|refine ra ?_ ?_)
   skip
   refine ⟨⟨y+1,true⟩,aK.ak rfl ?_ ?_,⟨by dsimp only;omega,fun _=>by dsimp only;rw [hsucc,List.length_append];omega,fun h=>by (cases h)⟩,by dsimp only;omega⟩<;>simp only [go_sem,Int.natCast_succ,hsucc]
   all_goals first|rfl|exact ⟨rfl,rfl⟩
  | false=>
   have kw2:=gG lb (by omega)
   simp only [cond_true,cond_false,List.cons_append,List.nil_append]
   rw [ku] at kl
   have e0:(-1:Int)=(y:Int) - 1:=by omega
   rw [e0] at kuN
   (repeat' with_reducible first|intro _|refine rz ?_|refine ra ?_ ?_|omega|simp only [go_sem,f1])
   refine aN.lex [8] [] (by kernel_rfl) (by kernel_rfl) ?_
   (repeat' with_reducible first|intro _|exact dn|refine rn ?_|refine ra ?_ ?_)
   refine QV.intro (.ro (.bools rw_)) ?_ ?_
   ·(repeat' with_reducible first|intro _|exact dn|refine rn ?_|refine ra ?_ ?_)
    refine ah.Ug (.ro (.bools rw_)) kr (by simp only [aI,aQ,bJ,aU,aH,List.drop_zero,lk,reduceIte,reduceCtorEq,Nat.reduceEqDiff,Option.some.injEq,Item.row.injEq,Item.box.injEq,AV.ro.injEq,exists_eq_left,exists_and_left,exists_eq_left',exists_eq_right,and_assoc,and_true,true_and,List.cons.injEq,exists_eq',exists_eq]) (by simp [dG,aQ,aU,bJ,aH,lk,aI]) rfl ?_
    (repeat' with_reducible first|intro _|exact dn|refine rn ?_|refine ra ?_ ?_)
   (repeat' with_reducible first|intro _|exact dn|refine rn ?_|refine ra ?_ ?_)
   refine QV.intro (.ro (.bools (List.replicate w false))) ?_ ?_
   ·(repeat' with_reducible first|intro _|exact dn|refine rn ?_|refine ra ?_ ?_)
    refine ah.ro (.ro (.bools (List.replicate w false))) (bZ.eH kuN rfl (by simp [fQ,fP,jd,iO,lC])) (by simp only [aI,aQ,bJ,aU,aH,List.drop_zero,lk,reduceIte,reduceCtorEq,Nat.reduceEqDiff,Option.some.injEq,Item.row.injEq,Item.box.injEq,AV.ro.injEq,exists_eq_left,exists_and_left,exists_eq_left',exists_eq_right,and_assoc,and_true,true_and,List.cons.injEq,exists_eq',exists_eq]) (by simp [dG,aQ,aU,bJ,aH,lk,aI]) rfl ?_
    (repeat' with_reducible first|intro _|exact dn|refine rn ?_|refine ra ?_ ?_)
   (repeat' with_reducible first|intro _|exact dn|refine rn ?_|refine ra ?_ ?_)
   (refine QV.intro (.str lb) ?_ ?_;focus ((repeat' with_reducible first|intro _|exact dn|refine rn ?_|refine ra ?_ ?_);refine ah.k (kl) ?_;(repeat' with_reducible first|intro _|exact dn|refine rn ?_|refine ra ?_ ?_)))
   (repeat' with_reducible first|intro _|exact dn|refine rn ?_|refine ra ?_ ?_)
   refine QE.intro (.tup [.int .i64 lb.length,.raw .nilIface]) [(1,.box 89 [.ptr 1 0,.own 2]),(2,.row 5 (.ints .u8 (aj lb))),(0,.box 24 [.int .i64 w,.int .i64 h,.ro (.bools p)])] 3 ?_ ?_
   ·(repeat' with_reducible first|intro _|exact dn|refine rn ?_|refine ra ?_ ?_)
    refine ah.i [1] kw2 2 ?_
    (repeat' with_reducible first|intro _|exact dn|refine rn ?_|refine ra ?_ ?_)
   (repeat' with_reducible first|intro _|exact dn|refine rn ?_|refine ra ?_ ?_)
   have hz2:eP w p (y+1)=lb:=by rw [hsucc,hu2 rfl,List.nil_append]
   refine ⟨⟨y+1,true⟩,aK.ak rfl ?_ ?_,⟨by dsimp only;omega,fun _=>by dsimp only;rw [hz2];exact hlp,fun h=>by (cases h)⟩,by dsimp only;omega⟩<;>simp only [go_sem,Int.natCast_succ,hz2]
   all_goals first|rfl|exact ⟨rfl,rfl⟩
end Go.Fv.H
/- The reference's unpackBits: the walk. -/
namespace Go.Fv.H
open Go Go.Proofs
theorem NU (d:Bytes):(iD d).length=8*d.length:=by unfold iD;simp
theorem Sl {d:Bytes} {i:Nat} (h:i<8*d.length):(((iD d).getD i 0).toNat:Int)=((48+(d.getD (i / 8) 0).toNat / 2 ^ (7 - i%8)%2:Nat):Int):=by
 rw [←bytes_at (by rw [NU];exact h)]
 exact YK h
theorem NK {s:Bytes} {i:Nat} (h:i<s.length):s.take (i+1)=s.take i++[s.getD i 0]:=by
 rw [List.take_succ_eq_append_getElem h,getD_lt h]
structure UX where
 i:Nat
 t:Nat
 u:Bool
set_option maxHeartbeats 16000000 in
theorem lQ (d:Bytes) (hd:d.length≤1000000000):aA Tryz.prog 111 [.str d] (.str (iD d)) []:=by
 refine aA.aG Tryz.func111 rfl (by decide) (by simp [Tryz.f111]) [.tmp 2] rfl fun w0 T0 _=>?_
 simp only [Tryz.f111,au]
 have hul:=NU d
 have hval:=@Sl d
 have hfull:(iD d).take (8*d.length)=iD d:=List.take_of_length_le (by omega)
 (repeat' with_reducible first|intro _|exact dn|refine rn ?_|refine ra ?_ ?_)
 refine aF.intro (fun x:EX=>⟨25,[(8,.int .i64 x.i),(7,.int .i64 d.length),(3,.ptr 0 0),(0,.str d)],(bif x.u then [(0,.box 89 [.ptr 0 0,.own 1]),(1,.row 5 (.ints .u8 (aj ((iD d).take (8*x.i)))))] else [(0,.box 89 [.raw (.pointer none),.nilS])]),bif x.u then 2 else 1⟩) (fun x=>x.i≤d.length∧BU ((iD d).take (8*x.i)) x.u) (fun x=>d.length - x.i) ⟨0,false⟩ ?_ ⟨Nat.zero_le _,fun h=>by (cases h),fun _=>by simp⟩ fun x hx=>?_
 ·refine aK.ak rfl ?_ ?_<;>simp only [go_sem,Int.natCast_succ]
  all_goals first|rfl|exact ⟨rfl,rfl⟩
 obtain ⟨i,u⟩:=x
 obtain ⟨hi,hu1,hu2⟩:=hx
 dsimp only at hi hu1 hu2 ⊢
 by_cases hlt:i<d.length
 rotate_left
 ·have f1:((i:Int)<(d.length:Int))=False:=eq_false (by omega)
  have e:i=d.length:=by omega
  subst e
  rw [hfull] at hu1 hu2 ⊢
  cases u with
  | true=>
   have kst:=gB (iD d) (hu1 rfl)
   simp only [cond_true,cond_false,List.cons_append,List.nil_append]
   (repeat' with_reducible first|intro _|refine rz ?_|refine ra ?_ ?_|omega|simp only [go_sem,f1])
   refine ah.i [0,1] kst 2 ?_
   (repeat' with_reducible first|intro _|exact dn|refine rn ?_|refine ra ?_ ?_)
   refine aT.auto 0 ?_ rfl ?_<;>simp only [go_sem,Int.natCast_succ,Post]
  | false=>
   have hz:=hu2 rfl
   rw [hz]
   have kst:=gK
   simp only [cond_true,cond_false,List.cons_append,List.nil_append]
   (repeat' with_reducible first|intro _|refine rz ?_|refine ra ?_ ?_|omega|simp only [go_sem,f1])
   refine ah.i [0] kst 1 ?_
   (repeat' with_reducible first|intro _|exact dn|refine rn ?_|refine ra ?_ ?_)
   refine aT.auto 0 ?_ rfl ?_<;>simp only [go_sem,Int.natCast_succ,Post]
 have f1:((i:Int)<(d.length:Int))=True:=eq_true (by omega)
 cases u with
 | true=>
  have hu0:BU ((iD d).take (8*i)) true:=⟨hu1,hu2⟩
  simp only [cond_true,cond_false,List.cons_append,List.nil_append]
  (repeat' with_reducible first|intro _|refine rz ?_|refine ra ?_ ?_|omega|simp only [go_sem,f1])
  refine aF.intro (fun x:UX=>⟨25,[(5,.int .i64 (7 - (x.t:Int))),(4,.int .i64 i),(8,.int .i64 i),(7,.int .i64 d.length),(3,.ptr 0 0),(0,.str d)],(bif x.u then [(0,.box 89 [.ptr 0 0,.own 1]),(1,.row 5 (.ints .u8 (aj ((iD d).take (8*i+x.t)))))] else [(0,.box 89 [.raw (.pointer none),.nilS])]),bif x.u then 2 else 1⟩) (fun x=>x.t≤8∧BU ((iD d).take (8*i+x.t)) x.u) (fun x=>8 - x.t) ⟨0,0,true⟩ ?_ ⟨Nat.zero_le _,hu0⟩ fun x hx=>?_
  ·refine aK.ak rfl ?_ ?_<;>simp only [go_sem,Int.natCast_succ]
   all_goals first|rfl|exact ⟨rfl,rfl⟩
  clear hu0 hu1 hu2
  obtain ⟨_,t,v⟩:=x
  obtain ⟨ht,hv1,hv2⟩:=hx
  dsimp only at ht hv1 hv2 ⊢
  by_cases ht8:t<8
  rotate_left
  ·have f2:(0≤(7:Int) - (t:Int))=False:=eq_false (by omega)
   have e:t=8:=by omega
   subst e
   have e8:8*i+8=8*(i+1):=by omega
   rw [e8] at hv1 hv2 ⊢
   cases v with
   | true=>
    simp only [cond_true,cond_false,List.cons_append,List.nil_append]
    (repeat' with_reducible first|intro _|refine rz ?_|refine ra ?_ ?_|omega|simp only [go_sem,f2])
    refine ⟨⟨i+1,true⟩,aK.ak rfl ?_ ?_,⟨by dsimp only;omega,hv1,hv2⟩,by dsimp only;omega⟩<;>simp only [go_sem,Int.natCast_succ]
    all_goals first|rfl|exact ⟨rfl,rfl⟩
   | false=>
    simp only [cond_true,cond_false,List.cons_append,List.nil_append]
    (repeat' with_reducible first|intro _|refine rz ?_|refine ra ?_ ?_|omega|simp only [go_sem,f2])
    refine ⟨⟨i+1,false⟩,aK.ak rfl ?_ ?_,⟨by dsimp only;omega,hv1,hv2⟩,by dsimp only;omega⟩<;>simp only [go_sem,Int.natCast_succ]
    all_goals first|rfl|exact ⟨rfl,rfl⟩
  have f2:(0≤(7:Int) - (t:Int))=True:=eq_true (by omega)
  have hlt8:8*i+t<8*d.length:=by omega
  have hvl:=hval hlt8
  have htk:=NK (s:=iD d) (i:=8*i+t) (by omega)
  have d1:(8*i+t) / 8=i:=by omega
  have d2:(8*i+t)%8=t:=by omega
  rw [d1,d2] at hvl
  have d3:(7:Int) - (t:Int)=((7 - t:Nat):Int):=by omega
  have hol:((iD d).take (8*i+t)).length≤8000000000:=by rw [List.length_take];omega
  have hc:(d.getD i 0).toNat<256:=(d.getD i 0).toNat_lt
  have h8:=ZA (a:=(d.getD i 0).toNat) (t:=7 - t) (by omega)
  have hl8:(d.getD i 0).toNat / 2 ^ (7 - t)<256:=Nat.lt_of_le_of_lt (Nat.div_le_self _ _) hc
  have ha:=YW hl8
  have hadd:(48:Int)+(((d.getD i 0).toNat / 2 ^ (7 - t)%2:Nat):Int)=(((iD d).getD (8*i+t) 0).toNat:Int):=by omega
  have hb1:((iD d).getD (8*i+t) 0).toNat<256:=((iD d).getD (8*i+t) 0).toNat_lt
  generalize (iD d).getD (8*i+t) 0=c at *
  generalize hO:(iD d).take (8*i+t)=o0 at *
  have htk2:(iD d).take (8*i+(t+1))=o0++[c]:=htk
  have d4:((7 - t:Nat):Int) - 1=7 - ((t+1:Nat):Int):=by omega
  cases v with
  | true=>
   have kw2:=pG o0 c (by omega)
   simp only [cond_true,cond_false,List.cons_append,List.nil_append]
   (repeat' with_reducible first|intro _|refine rz ?_|refine ra ?_ ?_|omega|simp only [go_sem,f2,d3,h8,ha,hadd])
   refine ah.i [0,1] kw2 3 ?_
   (repeat' with_reducible first|intro _|exact dn|refine rn ?_|refine ra ?_ ?_)
   (repeat' with_reducible first|intro _|refine rz ?_|refine ra ?_ ?_|omega|simp only [go_sem,d3,d4])
   refine ⟨⟨0,t+1,true⟩,aK.ak rfl ?_ ?_,⟨by dsimp only;omega,fun _=>by dsimp only;rw [htk2,List.length_append];simp,fun h=>by (cases h)⟩,by dsimp only;omega⟩<;>simp only [go_sem,Int.natCast_succ,htk2]
   all_goals first|rfl|exact ⟨rfl,rfl⟩|trace_state
  | false=>
   have hz:=hv2 rfl
   have kw2:=nI c
   simp only [cond_true,cond_false,List.cons_append,List.nil_append]
   (repeat' with_reducible first|intro _|refine rz ?_|refine ra ?_ ?_|omega|simp only [go_sem,f2,d3,h8,ha,hadd])
   refine ah.i [0] kw2 2 ?_
   (repeat' with_reducible first|intro _|exact dn|refine rn ?_|refine ra ?_ ?_)
   rw [hz,List.nil_append] at htk2
   (repeat' with_reducible first|intro _|refine rz ?_|refine ra ?_ ?_|omega|simp only [go_sem,d3,d4])
   refine ⟨⟨0,t+1,true⟩,aK.ak rfl ?_ ?_,⟨by dsimp only;omega,fun _=>by dsimp only;rw [htk2];simp,fun h=>by (cases h)⟩,by dsimp only;omega⟩<;>simp only [go_sem,Int.natCast_succ,htk2]
   all_goals first|rfl|exact ⟨rfl,rfl⟩|trace_state
 | false=>
  have hu0:BU ((iD d).take (8*i)) false:=⟨hu1,hu2⟩
  simp only [cond_true,cond_false,List.cons_append,List.nil_append]
  (repeat' with_reducible first|intro _|refine rz ?_|refine ra ?_ ?_|omega|simp only [go_sem,f1])
  refine aF.intro (fun x:UX=>⟨25,[(5,.int .i64 (7 - (x.t:Int))),(4,.int .i64 i),(8,.int .i64 i),(7,.int .i64 d.length),(3,.ptr 0 0),(0,.str d)],(bif x.u then [(0,.box 89 [.ptr 0 0,.own 1]),(1,.row 5 (.ints .u8 (aj ((iD d).take (8*i+x.t)))))] else [(0,.box 89 [.raw (.pointer none),.nilS])]),bif x.u then 2 else 1⟩) (fun x=>x.t≤8∧BU ((iD d).take (8*i+x.t)) x.u) (fun x=>8 - x.t) ⟨0,0,false⟩ ?_ ⟨Nat.zero_le _,hu0⟩ fun x hx=>?_
  ·refine aK.ak rfl ?_ ?_<;>simp only [go_sem,Int.natCast_succ]
   all_goals first|rfl|exact ⟨rfl,rfl⟩
  clear hu0 hu1 hu2
  obtain ⟨_,t,v⟩:=x
  obtain ⟨ht,hv1,hv2⟩:=hx
  dsimp only at ht hv1 hv2 ⊢
  by_cases ht8:t<8
  rotate_left
  ·have f2:(0≤(7:Int) - (t:Int))=False:=eq_false (by omega)
   have e:t=8:=by omega
   subst e
   have e8:8*i+8=8*(i+1):=by omega
   rw [e8] at hv1 hv2 ⊢
   cases v with
   | true=>
    simp only [cond_true,cond_false,List.cons_append,List.nil_append]
    (repeat' with_reducible first|intro _|refine rz ?_|refine ra ?_ ?_|omega|simp only [go_sem,f2])
    refine ⟨⟨i+1,true⟩,aK.ak rfl ?_ ?_,⟨by dsimp only;omega,hv1,hv2⟩,by dsimp only;omega⟩<;>simp only [go_sem,Int.natCast_succ]
    all_goals first|rfl|exact ⟨rfl,rfl⟩
   | false=>
    simp only [cond_true,cond_false,List.cons_append,List.nil_append]
    (repeat' with_reducible first|intro _|refine rz ?_|refine ra ?_ ?_|omega|simp only [go_sem,f2])
    refine ⟨⟨i+1,false⟩,aK.ak rfl ?_ ?_,⟨by dsimp only;omega,hv1,hv2⟩,by dsimp only;omega⟩<;>simp only [go_sem,Int.natCast_succ]
    all_goals first|rfl|exact ⟨rfl,rfl⟩
  have f2:(0≤(7:Int) - (t:Int))=True:=eq_true (by omega)
  have hlt8:8*i+t<8*d.length:=by omega
  have hvl:=hval hlt8
  have htk:=NK (s:=iD d) (i:=8*i+t) (by omega)
  have d1:(8*i+t) / 8=i:=by omega
  have d2:(8*i+t)%8=t:=by omega
  rw [d1,d2] at hvl
  have d3:(7:Int) - (t:Int)=((7 - t:Nat):Int):=by omega
  have hol:((iD d).take (8*i+t)).length≤8000000000:=by rw [List.length_take];omega
  have hc:(d.getD i 0).toNat<256:=(d.getD i 0).toNat_lt
  have h8:=ZA (a:=(d.getD i 0).toNat) (t:=7 - t) (by omega)
  have hl8:(d.getD i 0).toNat / 2 ^ (7 - t)<256:=Nat.lt_of_le_of_lt (Nat.div_le_self _ _) hc
  have ha:=YW hl8
  have hadd:(48:Int)+(((d.getD i 0).toNat / 2 ^ (7 - t)%2:Nat):Int)=(((iD d).getD (8*i+t) 0).toNat:Int):=by omega
  have hb1:((iD d).getD (8*i+t) 0).toNat<256:=((iD d).getD (8*i+t) 0).toNat_lt
  generalize (iD d).getD (8*i+t) 0=c at *
  generalize hO:(iD d).take (8*i+t)=o0 at *
  have htk2:(iD d).take (8*i+(t+1))=o0++[c]:=htk
  have d4:((7 - t:Nat):Int) - 1=7 - ((t+1:Nat):Int):=by omega
  cases v with
  | true=>
   have kw2:=pG o0 c (by omega)
   simp only [cond_true,cond_false,List.cons_append,List.nil_append]
   (repeat' with_reducible first|intro _|refine rz ?_|refine ra ?_ ?_|omega|simp only [go_sem,f2,d3,h8,ha,hadd])
   refine ah.i [0,1] kw2 3 ?_
   (repeat' with_reducible first|intro _|exact dn|refine rn ?_|refine ra ?_ ?_)
   (repeat' with_reducible first|intro _|refine rz ?_|refine ra ?_ ?_|omega|simp only [go_sem,d3,d4])
   refine ⟨⟨0,t+1,true⟩,aK.ak rfl ?_ ?_,⟨by dsimp only;omega,fun _=>by dsimp only;rw [htk2,List.length_append];simp,fun h=>by (cases h)⟩,by dsimp only;omega⟩<;>simp only [go_sem,Int.natCast_succ,htk2]
   all_goals first|rfl|exact ⟨rfl,rfl⟩|trace_state
  | false=>
   have hz:=hv2 rfl
   have kw2:=nI c
   simp only [cond_true,cond_false,List.cons_append,List.nil_append]
   (repeat' with_reducible first|intro _|refine rz ?_|refine ra ?_ ?_|omega|simp only [go_sem,f2,d3,h8,ha,hadd])
   refine ah.i [0] kw2 2 ?_
   (repeat' with_reducible first|intro _|exact dn|refine rn ?_|refine ra ?_ ?_)
   rw [hz,List.nil_append] at htk2
   (repeat' with_reducible first|intro _|refine rz ?_|refine ra ?_ ?_|omega|simp only [go_sem,d3,d4])
   refine ⟨⟨0,t+1,true⟩,aK.ak rfl ?_ ?_,⟨by dsimp only;omega,fun _=>by dsimp only;rw [htk2];simp,fun h=>by (cases h)⟩,by dsimp only;omega⟩<;>simp only [go_sem,Int.natCast_succ,htk2]
   all_goals first|rfl|exact ⟨rfl,rfl⟩|trace_state
end Go.Fv.H
