/-
  A part of the proof of the claim: walks over the program's functions and the plain laws that these need. No condition of its own.
-/
import Derived.Test.YtodlgmmbfbiilaaGreatDoorHArcGCardPart3
import Derived.Test.YtodlgmmbfbiilaaGreatDoorHArcGCardPart6
import Derived.Test.YtodlgmmbfbiilaaGreatDoorHArcGCardPart7
import Derived.Test.YtodlgmmbfbiilaaGreatDoorHArcGCardPart5
import Derived.Test.YtodlgmmbfbiilaaGreatDoorHArcGCardPart2
import Derived.Test.YtodlgmmbfbiilaaGreatDoorHArcGCardPart1
import Derived.Test.YtodlgmmbfbiilaaGreatDoorFvPart6
import Derived.Lib.MapLaws
import Derived.Lib.DecodeN
import Derived.Test.YtodlgmmbfbiilaaGreatDoorFvPart10
set_option linter.unusedSimpArgs false
set_option linter.unusedVariables false
set_option linter.unnecessarySimpa false
set_option maxRecDepth 8000
/- The reference's Encode: the walk. -/
namespace Go.Fv.H
open Go Go.Proofs
theorem Jq {p:List Bool} {i:Nat} (h:i<p.length):fO (p.take (i+1))=fO (p.take i)++[if p.getD i false=true then 49 else 48]:=by
 unfold fO;rw [List.take_succ_eq_append_getElem h,List.map_append,getD_lt h];rfl
structure EX where
 i:Nat
 u:Bool
set_option maxHeartbeats 32000000 in
theorem vM (w h:Nat) (hw0:0<w) (hw:w≤4000) (hh:h≤4000) (hwh:w*h≤1048576) (p:List Bool) (hp:p.length=w*h) (kind:Int) (hk:1≤kind∧kind≤4) :
  aC Tryz.prog 13 [.agg [.int .i64 w,.int .i64 h,.ro (.bools p)],.int .i64 kind] (.str (jW w h p kind)) []:=by
 have hdl:=Dc hw hh hwh hp kind
 have n2:=nY (w:Int) w 2 (.inl rfl) (by omega) (by omega) (by decide)
 have n3:=nY (h:Int) h 2 (.inl rfl) (by omega) (by omega) (by decide)
 have n4:=nY ((dh w h p kind).length:Int) (dh w h p kind).length 4 (.inl rfl) (by omega) (by omega) (by decide)
 rw [show ((2:Nat):Int)=2 from rfl] at n2 n3
 rw [show ((4:Nat):Int)=4 from rfl] at n4
 have henc:jW w h p kind=headB w h p kind++jc (headB w h p kind):=rfl
 have hhead:headB w h p kind=bP 1 kind.toNat++bP 2 w++bP 2 h++bP 4 (dh w h p kind).length++dh w h p kind:=rfl
 have hx1:bP 1 kind.toNat=[UInt8.ofNat kind.toNat]:=by
  have:kind=1∨kind=2∨kind=3∨kind=4:=by omega
  rcases this with rfl|rfl|rfl|rfl<;>rfl
 have hwk:IntKind.u8.wrap kind=kind:=by rw [kS];omega
 have hhl:(headB w h p kind).length=9+(dh w h p kind).length:=by
  rw [hhead];simp only [List.length_append,aS]
 have ks:=qC (headB w h p kind) (by omega)
 have hsl:=mJ (headB w h p kind)
 rw [henc]
 have l2:=aS 2 w
 have l3:=aS 2 h
 have l4:=aS 4 (dh w h p kind).length
 have e1:kind=1→dh w h p kind=l9 (fO p):=fun c=>if_pos c
 have e4:kind=4→dh w h p kind=OI w h p:=fun c=>by unfold dh;rw [if_neg (by omega),if_pos c]
 have e2:kind=2→dh w h p kind=l9 (iQ w p h):=fun c=>by unfold dh;rw [if_neg (by omega),if_neg (by omega),if_pos c]
 have e3:kind=3→dh w h p kind=l9 (dX w p h):=fun c=>by unfold dh;rw [if_neg (by omega),if_neg (by omega),if_neg (by omega)]
 generalize headB w h p kind=hd at *
 rw [hx1] at hhead
 simp only [List.cons_append,List.nil_append] at hhead
 clear hx1
 generalize bP 2 w=x2 at *
 generalize bP 2 h=x3 at *
 generalize bP 4 (dh w h p kind).length=x4 at *
 generalize dh w h p kind=dt at *
 have b1:41*(w+1)*h≤100000000:=by
  have:(w+1)*h≤1052576:=by rw [Nat.add_mul,Nat.one_mul];omega
  rw [Nat.mul_assoc];omega
 have b2:100*(w+1)*h≤200000000:=by
  have:(w+1)*h≤1052576:=by rw [Nat.add_mul,Nat.one_mul];omega
  rw [Nat.mul_assoc];omega
 refine aC.aJ Tryz.func13 rfl (by decide) (by simp [Tryz.f13]) [.tmp 4] rfl fun w0 T0 _=>?_
 simp only [Tryz.f13,aB]
 by_cases c1:kind=1
 ·have hdt:=e1 c1
  have g1:(kind=1)=True:=eq_true c1
  have hlen:p.length≤1048576:=by omega
  have h01:=O6 p
  have htl:fO (p.take p.length)=fO p:=by rw [List.take_length]
  (repeat' with_reducible first|intro _|refine rz ?_|refine ra ?_ ?_|omega|simp only [go_sem,g1])
  refine aH.intro (fun x:EX=>⟨98,[(22,.int .i64 x.i),(21,.int .i64 p.length),(20,.ro (.bools p)),(5,.ptr 1 0),(2,.ptr 0 0),(1,.int .i64 kind)],(0,.box 24 [.int .i64 w,.int .i64 h,.ro (.bools p)])::(bif x.u then [(1,.box 89 [.ptr 1 0,.own 2]),(2,.row 5 (.ints .u8 (aj (fO (p.take x.i)))))] else [(1,.box 89 [.raw (.pointer none),.nilS])]),bif x.u then 3 else 2⟩) (fun x=>x.i≤p.length∧BU (fO (p.take x.i)) x.u) (fun x=>p.length - x.i) ⟨0,false⟩ ?_ ⟨Nat.zero_le _,fun h=>by (cases h),fun _=>rfl⟩ fun x hx=>?_
  ·refine aK.ak rfl ?_ ?_<;>simp only [go_sem,Int.natCast_succ]
   all_goals first|rfl|exact ⟨rfl,rfl⟩
  obtain ⟨i,u⟩:=x
  obtain ⟨hi,hu1,hu2⟩:=hx
  dsimp only at hi hu1 hu2 ⊢
  by_cases hlt:i<p.length
  rotate_left
  ·have f1:((i:Int)<(p.length:Int))=False:=eq_false (by omega)
   have e:i=p.length:=by omega
   subst e
   rw [htl] at hu1 hu2 ⊢
   have k2:=qA (fO p) h01 (by rw [jI];omega)
   have hcs:u=true∨u=false:=by cases u<;>simp
   rcases hcs with rfl|rfl
   case' inl=>
    have kst:=eF (fO p) (hu1 rfl)
    simp only [cond_true,cond_false,List.cons_append,List.nil_append]
    (repeat' with_reducible first|intro _|refine rz ?_|refine ra ?_ ?_|omega|simp only [go_sem,f1])
    refine ah.i [1,2] kst 2 ?_
    (repeat' with_reducible first|intro _|exact dn|refine rn ?_|refine ra ?_ ?_)
    refine ah.k k2 ?_
    (repeat' with_reducible first|intro _|exact dn|refine rn ?_|refine ra ?_ ?_)
    rw [←hdt]
   case' inr=>
    have hz:=hu2 rfl
    rw [hz] at k2
    have kst:=gq
    simp only [cond_true,cond_false,List.cons_append,List.nil_append]
    (repeat' with_reducible first|intro _|refine rz ?_|refine ra ?_ ?_|omega|simp only [go_sem,f1])
    refine ah.i [1] kst 1 ?_
    (repeat' with_reducible first|intro _|exact dn|refine rn ?_|refine ra ?_ ?_)
    refine ah.k k2 ?_
    (repeat' with_reducible first|intro _|exact dn|refine rn ?_|refine ra ?_ ?_)
    rw [hz] at hdt
    rw [←hdt]
   all_goals
    refine bC.lex [2] [(4,[0]),(5,[0]),(6,[0]),(8,[0]),(9,[0]),(10,[0]),(12,[0]),(13,[0]),(14,[0]),(16,[0])] (by kernel_rfl) (by kernel_rfl) ?_
    (repeat' with_reducible first|intro _|refine rz ?_|refine ra ?_ ?_|omega|simp only [go_sem,hwk])
    (refine QV.intro (.str x2) ?_ ?_;focus ((repeat' with_reducible first|intro _|exact dn|refine rn ?_|refine ra ?_ ?_);refine ah.k (n2) ?_;(repeat' with_reducible first|intro _|exact dn|refine rn ?_|refine ra ?_ ?_)))
    (repeat' with_reducible first|intro _|exact dn|refine rn ?_|refine ra ?_ ?_)
    (refine QV.intro (.str x3) ?_ ?_;focus ((repeat' with_reducible first|intro _|exact dn|refine rn ?_|refine ra ?_ ?_);refine ah.k (n3) ?_;(repeat' with_reducible first|intro _|exact dn|refine rn ?_|refine ra ?_ ?_)))
    (repeat' with_reducible first|intro _|exact dn|refine rn ?_|refine ra ?_ ?_)
    (refine QV.intro (.str x4) ?_ ?_;focus ((repeat' with_reducible first|intro _|exact dn|refine rn ?_|refine ra ?_ ?_);refine ah.k (n4) ?_;(repeat' with_reducible first|intro _|exact dn|refine rn ?_|refine ra ?_ ?_)))
    (repeat' with_reducible first|intro _|exact dn|refine rn ?_|refine ra ?_ ?_)
    ·refine ah.k n4 ?_
     (repeat' with_reducible first|intro _|exact dn|refine rn ?_|refine ra ?_ ?_)
    ·refine ah.k n3 ?_
     (repeat' with_reducible first|intro _|exact dn|refine rn ?_|refine ra ?_ ?_)
    ·refine ah.k n2 ?_
     (repeat' with_reducible first|intro _|exact dn|refine rn ?_|refine ra ?_ ?_)
    rw [←hhead]
    refine ah.k ks ?_
    (repeat' with_reducible first|intro _|exact dn|refine rn ?_|refine ra ?_ ?_)
    refine bg.auto 0 ?_ rfl ?_<;>simp only [go_sem,Int.natCast_succ,Post]
  have f1:((i:Int)<(p.length:Int))=True:=eq_true (by omega)
  have htk:=Jq hlt
  have hbl:(fO (p.take i)).length≤1048576:=by rw [jI,List.length_take];omega
  have kb:=U6 (p.getD i false)
  generalize fO (p.take i)=o0 at *
  have q49:(((49:UInt8).toNat:Nat):Int)=49:=rfl
  have q48:(((48:UInt8).toNat:Nat):Int)=48:=rfl
  cases hpv:p.getD i false with
  | true=>
   rw [hpv] at kb htk
   rw [if_pos rfl] at kb htk
   cases u with
   | true=>
    have kw2:=xO o0 49 (by omega)
    rw [q49] at kw2
    simp only [cond_true,cond_false,List.cons_append,List.nil_append]
    (repeat' with_reducible first|intro _|refine rz ?_|refine ra ?_ ?_|omega|simp only [go_sem,f1,hpv])
    refine ah.k kb ?_
    (repeat' with_reducible first|intro _|exact dn|refine rn ?_|refine ra ?_ ?_)
    refine ah.i [1,2] kw2 3 ?_
    (repeat' with_reducible first|intro _|exact dn|refine rn ?_|refine ra ?_ ?_)
    refine ⟨⟨i+1,true⟩,aK.ak rfl ?_ ?_,⟨by dsimp only;omega,fun _=>by dsimp only;rw [htk,List.length_append];simp,fun h=>by (cases h)⟩,by dsimp only;omega⟩<;>simp only [go_sem,Int.natCast_succ,htk]
    all_goals first|rfl|exact ⟨rfl,rfl⟩
   | false=>
    have hz:=hu2 rfl
    have kw2:=uG 49
    rw [q49] at kw2
    simp only [cond_true,cond_false,List.cons_append,List.nil_append]
    (repeat' with_reducible first|intro _|refine rz ?_|refine ra ?_ ?_|omega|simp only [go_sem,f1,hpv])
    refine ah.k kb ?_
    (repeat' with_reducible first|intro _|exact dn|refine rn ?_|refine ra ?_ ?_)
    refine ah.i [1] kw2 2 ?_
    (repeat' with_reducible first|intro _|exact dn|refine rn ?_|refine ra ?_ ?_)
    rw [hz,List.nil_append] at htk
    refine ⟨⟨i+1,true⟩,aK.ak rfl ?_ ?_,⟨by dsimp only;omega,fun _=>by dsimp only;rw [htk];simp,fun h=>by (cases h)⟩,by dsimp only;omega⟩<;>simp only [go_sem,Int.natCast_succ,htk]
    all_goals first|rfl|exact ⟨rfl,rfl⟩
  | false=>
   rw [hpv] at kb htk
   rw [if_neg (by decide)] at kb htk
   cases u with
   | true=>
    have kw2:=xO o0 48 (by omega)
    rw [q48] at kw2
    simp only [cond_true,cond_false,List.cons_append,List.nil_append]
    (repeat' with_reducible first|intro _|refine rz ?_|refine ra ?_ ?_|omega|simp only [go_sem,f1,hpv])
    refine ah.k kb ?_
    (repeat' with_reducible first|intro _|exact dn|refine rn ?_|refine ra ?_ ?_)
    refine ah.i [1,2] kw2 3 ?_
    (repeat' with_reducible first|intro _|exact dn|refine rn ?_|refine ra ?_ ?_)
    refine ⟨⟨i+1,true⟩,aK.ak rfl ?_ ?_,⟨by dsimp only;omega,fun _=>by dsimp only;rw [htk,List.length_append];simp,fun h=>by (cases h)⟩,by dsimp only;omega⟩<;>simp only [go_sem,Int.natCast_succ,htk]
    all_goals first|rfl|exact ⟨rfl,rfl⟩
   | false=>
    have hz:=hu2 rfl
    have kw2:=uG 48
    rw [q48] at kw2
    simp only [cond_true,cond_false,List.cons_append,List.nil_append]
    (repeat' with_reducible first|intro _|refine rz ?_|refine ra ?_ ?_|omega|simp only [go_sem,f1,hpv])
    refine ah.k kb ?_
    (repeat' with_reducible first|intro _|exact dn|refine rn ?_|refine ra ?_ ?_)
    refine ah.i [1] kw2 2 ?_
    (repeat' with_reducible first|intro _|exact dn|refine rn ?_|refine ra ?_ ?_)
    rw [hz,List.nil_append] at htk
    refine ⟨⟨i+1,true⟩,aK.ak rfl ?_ ?_,⟨by dsimp only;omega,fun _=>by dsimp only;rw [htk];simp,fun h=>by (cases h)⟩,by dsimp only;omega⟩<;>simp only [go_sem,Int.natCast_succ,htk]
    all_goals first|rfl|exact ⟨rfl,rfl⟩
 have g1:(kind=1)=False:=eq_false c1
 by_cases c2:kind=2
 ·have hdt:=e2 c2
  have g2:(kind=2)=True:=eq_true c2
  have bl:=rG hw hp
  have h01:=Rt w p h
  (repeat' with_reducible first|intro _|refine rz ?_|refine ra ?_ ?_|omega|simp only [go_sem,g1,g2])
  refine aH.intro (fun x:EX=>⟨98,[(37,.int .i64 x.i),(36,.int .i64 h),(5,.ptr 1 0),(2,.ptr 0 0),(1,.int .i64 kind)],(0,.box 24 [.int .i64 w,.int .i64 h,.ro (.bools p)])::(bif x.u then [(1,.box 89 [.ptr 1 0,.own 2]),(2,.row 5 (.ints .u8 (aj (iQ w p x.i))))] else [(1,.box 89 [.raw (.pointer none),.nilS])]),bif x.u then 3 else 2⟩) (fun x=>x.i≤h∧BU (iQ w p x.i) x.u) (fun x=>h - x.i) ⟨0,false⟩ ?_ ⟨Nat.zero_le _,fun h=>by (cases h),fun _=>rfl⟩ fun x hx=>?_
  ·refine aK.ak rfl ?_ ?_<;>simp only [go_sem,Int.natCast_succ]
   all_goals first|rfl|exact ⟨rfl,rfl⟩
  obtain ⟨y,u⟩:=x
  obtain ⟨hy,hu1,hu2⟩:=hx
  dsimp only at hy hu1 hu2 ⊢
  have hbly:=bl y hy
  have hmy:41*(w+1)*y≤41*(w+1)*h:=Nat.mul_le_mul_left _ hy
  by_cases hylt:y<h
  rotate_left
  ·have f1:((y:Int)<(h:Int))=False:=eq_false (by omega)
   have e:y=h:=by omega
   subst e
   have k2:=qA (iQ w p y) h01 (by omega)
   have hcs:u=true∨u=false:=by cases u<;>simp
   rcases hcs with rfl|rfl
   case' inl=>
    have kst:=eF (iQ w p y) (hu1 rfl)
    simp only [cond_true,cond_false,List.cons_append,List.nil_append]
    (repeat' with_reducible first|intro _|refine rz ?_|refine ra ?_ ?_|omega|simp only [go_sem,f1])
    refine ah.i [1,2] kst 2 ?_
    (repeat' with_reducible first|intro _|exact dn|refine rn ?_|refine ra ?_ ?_)
    refine ah.k k2 ?_
    (repeat' with_reducible first|intro _|exact dn|refine rn ?_|refine ra ?_ ?_)
    rw [←hdt]
   case' inr=>
    have hz:=hu2 rfl
    rw [hz] at k2
    have kst:=gq
    simp only [cond_true,cond_false,List.cons_append,List.nil_append]
    (repeat' with_reducible first|intro _|refine rz ?_|refine ra ?_ ?_|omega|simp only [go_sem,f1])
    refine ah.i [1] kst 1 ?_
    (repeat' with_reducible first|intro _|exact dn|refine rn ?_|refine ra ?_ ?_)
    refine ah.k k2 ?_
    (repeat' with_reducible first|intro _|exact dn|refine rn ?_|refine ra ?_ ?_)
    rw [hz] at hdt
    rw [←hdt]
   all_goals
    refine bC.lex [2] [(4,[0]),(5,[0]),(6,[0]),(8,[0]),(9,[0]),(10,[0]),(12,[0]),(13,[0]),(14,[0]),(16,[0])] (by kernel_rfl) (by kernel_rfl) ?_
    (repeat' with_reducible first|intro _|refine rz ?_|refine ra ?_ ?_|omega|simp only [go_sem,hwk])
    (refine QV.intro (.str x2) ?_ ?_;focus ((repeat' with_reducible first|intro _|exact dn|refine rn ?_|refine ra ?_ ?_);refine ah.k (n2) ?_;(repeat' with_reducible first|intro _|exact dn|refine rn ?_|refine ra ?_ ?_)))
    (repeat' with_reducible first|intro _|exact dn|refine rn ?_|refine ra ?_ ?_)
    (refine QV.intro (.str x3) ?_ ?_;focus ((repeat' with_reducible first|intro _|exact dn|refine rn ?_|refine ra ?_ ?_);refine ah.k (n3) ?_;(repeat' with_reducible first|intro _|exact dn|refine rn ?_|refine ra ?_ ?_)))
    (repeat' with_reducible first|intro _|exact dn|refine rn ?_|refine ra ?_ ?_)
    (refine QV.intro (.str x4) ?_ ?_;focus ((repeat' with_reducible first|intro _|exact dn|refine rn ?_|refine ra ?_ ?_);refine ah.k (n4) ?_;(repeat' with_reducible first|intro _|exact dn|refine rn ?_|refine ra ?_ ?_)))
    (repeat' with_reducible first|intro _|exact dn|refine rn ?_|refine ra ?_ ?_)
    ·refine ah.k n4 ?_
     (repeat' with_reducible first|intro _|exact dn|refine rn ?_|refine ra ?_ ?_)
    ·refine ah.k n3 ?_
     (repeat' with_reducible first|intro _|exact dn|refine rn ?_|refine ra ?_ ?_)
    ·refine ah.k n2 ?_
     (repeat' with_reducible first|intro _|exact dn|refine rn ?_|refine ra ?_ ?_)
    rw [←hhead]
    refine ah.k ks ?_
    (repeat' with_reducible first|intro _|exact dn|refine rn ?_|refine ra ?_ ?_)
    refine bg.auto 0 ?_ rfl ?_<;>simp only [go_sem,Int.natCast_succ,Post]
  have f1:((y:Int)<(h:Int))=True:=eq_true (by omega)
  have hl:=iH hp hylt
  have kr:=AY w h hw hh p hp y hylt
  have kn:=Ko (rowP w p y) (by omega)
  obtain ⟨n1,n2'⟩:=rF (rowP w p y)
  have hsucc:=oU w p y
  have hbly2:=bl (y+1) (by omega)
  have hrr:(aW (rowP w p y) (rowP w p y).length).1=jA (rowP w p y):=rfl
  rw [hrr] at kn
  generalize hL:jA (rowP w p y)=L at *
  generalize rowP w p y=rw_ at *
  generalize iQ w p y=o0 at *
  (repeat' with_reducible first|intro _|refine rz ?_|refine ra ?_ ?_|omega|simp only [go_sem,f1])
  refine ah.OJ (.ro (.bools rw_)) kr (by simp only [aI,aO,bT,aT,aF,List.drop_zero,lk,reduceIte,reduceCtorEq,Nat.reduceEqDiff,Option.some.injEq,Item.row.injEq,Item.box.injEq,AV.ro.injEq,exists_eq_left,exists_and_left,exists_eq_left',exists_eq_right,and_assoc,and_true,true_and,List.cons.injEq,exists_eq',exists_eq]) (by simp [fH,aO,aT,bT,aF,lk,aI]) rfl ?_
  (repeat' with_reducible first|intro _|exact dn|refine rn ?_|refine ra ?_ ?_)
  refine ah.ro (.ro (.ints .i64 L)) (fD.iF kn rfl (by simp [iE,iD,lq,iU,mP])) (by simp only [aI,aO,bT,aT,aF,List.drop_zero,lk,reduceIte,reduceCtorEq,Nat.reduceEqDiff,Option.some.injEq,Item.row.injEq,Item.box.injEq,AV.ro.injEq,exists_eq_left,exists_and_left,exists_eq_left',exists_eq_right,and_assoc,and_true,true_and,List.cons.injEq,exists_eq',exists_eq]) (by simp [fH,aO,aT,bT,aF,lk,aI]) rfl ?_
  (repeat' with_reducible first|intro _|exact dn|refine rn ?_|refine ra ?_ ?_)
  refine aH.intro (fun x:EX=>⟨98,[(45,.int .i64 x.i),(44,.int .i64 L.length),(43,.ro (.ints .i64 L)),(37,.int .i64 y),(36,.int .i64 h),(5,.ptr 1 0),(2,.ptr 0 0),(1,.int .i64 kind)],(0,.box 24 [.int .i64 w,.int .i64 h,.ro (.bools p)])::(bif x.u then [(1,.box 89 [.ptr 1 0,.own 2]),(2,.row 5 (.ints .u8 (aj (o0++dZ (L.take x.i)))))] else [(1,.box 89 [.raw (.pointer none),.nilS])]),bif x.u then 3 else 2⟩) (fun x=>x.i≤L.length∧BU (o0++dZ (L.take x.i)) x.u) (fun x=>L.length - x.i) ⟨0,u⟩ ?_ ⟨Nat.zero_le _,by
   have e:o0++dZ (L.take 0)=o0:=by simp [dZ]
   rw [e];exact ⟨hu1,hu2⟩⟩ fun x hx=>?_
  ·have e:dZ []=[]:=rfl
   cases u<;>(simp only [cond_true,cond_false];refine aK.ak rfl ?_ ?_<;>simp only [go_sem,Int.natCast_succ,e])
   all_goals first|rfl|exact ⟨rfl,rfl⟩
  obtain ⟨j,v⟩:=x
  obtain ⟨hj,hv1,hv2⟩:=hx
  dsimp only at hj hv1 hv2 ⊢
  have hgl:(dZ (L.take j)).length≤41*4001:=by
   have h1:=xq (l:=L.take j) fun x hx=>by have:=n2' x (List.mem_of_mem_take hx);omega
   have h2:(L.take j).length≤4001:=by rw [List.length_take];omega
   omega
  have hbq:41*(w+1)*y≤100000000:=by omega
  by_cases hjlt:j<L.length
  rotate_left
  ·have fj:((j:Int)<(L.length:Int))=False:=eq_false (by omega)
   have hjl:L.take j=L:=List.take_of_length_le (by omega)
   rw [hjl] at hv1 hv2 ⊢
   cases v <;>
    (simp only [cond_true,cond_false,List.cons_append,List.nil_append]
     (repeat' with_reducible first|intro _|refine rz ?_|refine ra ?_ ?_|omega|simp only [go_sem,fj]))
   ·refine ⟨⟨y+1,false⟩,aK.ak rfl ?_ ?_,⟨by dsimp only;omega,by rw [hsucc];exact ⟨hv1,hv2⟩⟩,by dsimp only;omega⟩<;>simp only [go_sem,Int.natCast_succ,hsucc]
    all_goals first|rfl|exact ⟨rfl,rfl⟩
   ·refine ⟨⟨y+1,true⟩,aK.ak rfl ?_ ?_,⟨by dsimp only;omega,by rw [hsucc];exact ⟨hv1,hv2⟩⟩,by dsimp only;omega⟩<;>simp only [go_sem,Int.natCast_succ,hsucc]
    all_goals first|rfl|exact ⟨rfl,rfl⟩
  have fj:((j:Int)<(L.length:Int))=True:=eq_true (by omega)
  have htk:=A8 hjlt
  have hnb:=n2' (L.getD j 0) (by rw [getD_lt hjlt];exact List.getElem_mem hjlt)
  have kg:=dR (L.getD j 0+1).toNat (by omega)
  rw [show (((L.getD j 0+1).toNat:Nat):Int)=L.getD j 0+1 by omega] at kg
  have hgp:=LX (L.getD j 0+1).toNat
  have hgs:=bU (n:=(L.getD j 0+1).toNat) (by omega)
  generalize eH (L.getD j 0+1).toNat=g at *
  generalize hn0:L.getD j 0=n0 at *
  cases v with
  | true=>
   have kw2:=bK (o0++dZ (L.take j)) g (by rw [List.length_append];omega) (by omega)
   simp only [cond_true,cond_false,List.cons_append,List.nil_append]
   (repeat' with_reducible first|intro _|refine rz ?_|refine ra ?_ ?_|omega|simp only [go_sem,fj,hn0])
   refine ah.k kg ?_
   (repeat' with_reducible first|intro _|exact dn|refine rn ?_|refine ra ?_ ?_)
   refine ah.i [1,2] kw2 3 ?_
   (repeat' with_reducible first|intro _|exact dn|refine rn ?_|refine ra ?_ ?_)
   refine ⟨⟨j+1,true⟩,aK.ak rfl ?_ ?_,⟨by dsimp only;omega,fun _=>by dsimp only;rw [htk,List.length_append,List.length_append];omega,fun h=>by (cases h)⟩,by dsimp only;omega⟩<;>simp only [go_sem,Int.natCast_succ,htk,List.append_assoc]
   all_goals first|rfl|exact ⟨rfl,rfl⟩
  | false=>
   have hz:=hv2 rfl
   have kw2:=eG g (by omega)
   simp only [cond_true,cond_false,List.cons_append,List.nil_append]
   (repeat' with_reducible first|intro _|refine rz ?_|refine ra ?_ ?_|omega|simp only [go_sem,fj,hn0])
   refine ah.k kg ?_
   (repeat' with_reducible first|intro _|exact dn|refine rn ?_|refine ra ?_ ?_)
   refine ah.i [1] kw2 2 ?_
   (repeat' with_reducible first|intro _|exact dn|refine rn ?_|refine ra ?_ ?_)
   have hz2:o0++dZ (L.take (j+1))=g:=by rw [htk,←List.append_assoc,hz,List.nil_append]
   refine ⟨⟨j+1,true⟩,aK.ak rfl ?_ ?_,⟨by dsimp only;omega,fun _=>by dsimp only;rw [hz2];omega,fun h=>by (cases h)⟩,by dsimp only;omega⟩<;>simp only [go_sem,Int.natCast_succ,hz2]
   all_goals first|rfl|exact ⟨rfl,rfl⟩
 have g2:(kind=2)=False:=eq_false c2
 by_cases c4:kind=4
 ·have hdt:=e4 c4
  have k1:=AP w h hw0 hw hh hwh p hp
  rw [←hdt] at k1
  have g3:(kind=3)=False:=eq_false (by omega)
  (repeat' with_reducible first|intro _|refine rz ?_|refine ra ?_ ?_|omega|simp only [go_sem,g1,g2,g3])
  refine ah.k k1 ?_
  (repeat' with_reducible first|intro _|exact dn|refine rn ?_|refine ra ?_ ?_)
  refine bC.lex [2] [(4,[0]),(5,[0]),(6,[0]),(8,[0]),(9,[0]),(10,[0]),(12,[0]),(13,[0]),(14,[0]),(16,[0])] (by kernel_rfl) (by kernel_rfl) ?_
  (repeat' with_reducible first|intro _|refine rz ?_|refine ra ?_ ?_|omega|simp only [go_sem,hwk])
  (refine QV.intro (.str x2) ?_ ?_;focus ((repeat' with_reducible first|intro _|exact dn|refine rn ?_|refine ra ?_ ?_);refine ah.k (n2) ?_;(repeat' with_reducible first|intro _|exact dn|refine rn ?_|refine ra ?_ ?_)))
  (repeat' with_reducible first|intro _|exact dn|refine rn ?_|refine ra ?_ ?_)
  (refine QV.intro (.str x3) ?_ ?_;focus ((repeat' with_reducible first|intro _|exact dn|refine rn ?_|refine ra ?_ ?_);refine ah.k (n3) ?_;(repeat' with_reducible first|intro _|exact dn|refine rn ?_|refine ra ?_ ?_)))
  (repeat' with_reducible first|intro _|exact dn|refine rn ?_|refine ra ?_ ?_)
  (refine QV.intro (.str x4) ?_ ?_;focus ((repeat' with_reducible first|intro _|exact dn|refine rn ?_|refine ra ?_ ?_);refine ah.k (n4) ?_;(repeat' with_reducible first|intro _|exact dn|refine rn ?_|refine ra ?_ ?_)))
  (repeat' with_reducible first|intro _|exact dn|refine rn ?_|refine ra ?_ ?_)
  ·refine ah.k n4 ?_
   (repeat' with_reducible first|intro _|exact dn|refine rn ?_|refine ra ?_ ?_)
  ·refine ah.k n3 ?_
   (repeat' with_reducible first|intro _|exact dn|refine rn ?_|refine ra ?_ ?_)
  ·refine ah.k n2 ?_
   (repeat' with_reducible first|intro _|exact dn|refine rn ?_|refine ra ?_ ?_)
  rw [←hhead]
  refine ah.k ks ?_
  (repeat' with_reducible first|intro _|exact dn|refine rn ?_|refine ra ?_ ?_)
  refine bg.auto 0 ?_ rfl ?_<;>simp only [go_sem,Int.natCast_succ,Post]
 have c3:kind=3:=by omega
 have hdt:=e3 c3
 have g3:(kind=3)=True:=eq_true c3
 have bl:=oM hw hp
 have h01:=Oa w h p hp
 (repeat' with_reducible first|intro _|refine rz ?_|refine ra ?_ ?_|omega|simp only [go_sem,g1,g2,g3])
 refine aH.intro (fun x:EX=>⟨98,[(61,.int .i64 x.i),(60,.int .i64 h),(5,.ptr 1 0),(2,.ptr 0 0),(1,.int .i64 kind)],(0,.box 24 [.int .i64 w,.int .i64 h,.ro (.bools p)])::(bif x.u then [(1,.box 89 [.ptr 1 0,.own 2]),(2,.row 5 (.ints .u8 (aj (dX w p x.i))))] else [(1,.box 89 [.raw (.pointer none),.nilS])]),bif x.u then 3 else 2⟩) (fun x=>x.i≤h∧BU (dX w p x.i) x.u) (fun x=>h - x.i) ⟨0,false⟩ ?_ ⟨Nat.zero_le _,fun h=>by (cases h),fun _=>rfl⟩ fun x hx=>?_
 ·refine aK.ak rfl ?_ ?_<;>simp only [go_sem,Int.natCast_succ]
  all_goals first|rfl|exact ⟨rfl,rfl⟩
 obtain ⟨y,u⟩:=x
 obtain ⟨hy,hu1,hu2⟩:=hx
 dsimp only at hy hu1 hu2 ⊢
 have hbly:=bl y hy
 have hmy:100*(w+1)*y≤100*(w+1)*h:=Nat.mul_le_mul_left _ hy
 by_cases hylt:y<h
 rotate_left
 ·have f1:((y:Int)<(h:Int))=False:=eq_false (by omega)
  have e:y=h:=by omega
  subst e
  have k2:=qA (dX w p y) (h01 y (Nat.le_refl _)) (by omega)
  have hcs:u=true∨u=false:=by cases u<;>simp
  rcases hcs with rfl|rfl
  case' inl=>
   have kst:=eF (dX w p y) (hu1 rfl)
   simp only [cond_true,cond_false,List.cons_append,List.nil_append]
   (repeat' with_reducible first|intro _|refine rz ?_|refine ra ?_ ?_|omega|simp only [go_sem,f1])
   refine ah.i [1,2] kst 2 ?_
   (repeat' with_reducible first|intro _|exact dn|refine rn ?_|refine ra ?_ ?_)
   refine ah.k k2 ?_
   (repeat' with_reducible first|intro _|exact dn|refine rn ?_|refine ra ?_ ?_)
   rw [←hdt]
  case' inr=>
   have hz:=hu2 rfl
   rw [hz] at k2
   have kst:=gq
   simp only [cond_true,cond_false,List.cons_append,List.nil_append]
   (repeat' with_reducible first|intro _|refine rz ?_|refine ra ?_ ?_|omega|simp only [go_sem,f1])
   refine ah.i [1] kst 1 ?_
   (repeat' with_reducible first|intro _|exact dn|refine rn ?_|refine ra ?_ ?_)
   refine ah.k k2 ?_
   (repeat' with_reducible first|intro _|exact dn|refine rn ?_|refine ra ?_ ?_)
   rw [hz] at hdt
   rw [←hdt]
  all_goals
   refine bC.lex [2] [(4,[0]),(5,[0]),(6,[0]),(8,[0]),(9,[0]),(10,[0]),(12,[0]),(13,[0]),(14,[0]),(16,[0])] (by kernel_rfl) (by kernel_rfl) ?_
   (repeat' with_reducible first|intro _|refine rz ?_|refine ra ?_ ?_|omega|simp only [go_sem,hwk])
   (refine QV.intro (.str x2) ?_ ?_;focus ((repeat' with_reducible first|intro _|exact dn|refine rn ?_|refine ra ?_ ?_);refine ah.k (n2) ?_;(repeat' with_reducible first|intro _|exact dn|refine rn ?_|refine ra ?_ ?_)))
   (repeat' with_reducible first|intro _|exact dn|refine rn ?_|refine ra ?_ ?_)
   (refine QV.intro (.str x3) ?_ ?_;focus ((repeat' with_reducible first|intro _|exact dn|refine rn ?_|refine ra ?_ ?_);refine ah.k (n3) ?_;(repeat' with_reducible first|intro _|exact dn|refine rn ?_|refine ra ?_ ?_)))
   (repeat' with_reducible first|intro _|exact dn|refine rn ?_|refine ra ?_ ?_)
   (refine QV.intro (.str x4) ?_ ?_;focus ((repeat' with_reducible first|intro _|exact dn|refine rn ?_|refine ra ?_ ?_);refine ah.k (n4) ?_;(repeat' with_reducible first|intro _|exact dn|refine rn ?_|refine ra ?_ ?_)))
   (repeat' with_reducible first|intro _|exact dn|refine rn ?_|refine ra ?_ ?_)
   ·refine ah.k n4 ?_
    (repeat' with_reducible first|intro _|exact dn|refine rn ?_|refine ra ?_ ?_)
   ·refine ah.k n3 ?_
    (repeat' with_reducible first|intro _|exact dn|refine rn ?_|refine ra ?_ ?_)
   ·refine ah.k n2 ?_
    (repeat' with_reducible first|intro _|exact dn|refine rn ?_|refine ra ?_ ?_)
   rw [←hhead]
   refine ah.k ks ?_
   (repeat' with_reducible first|intro _|exact dn|refine rn ?_|refine ra ?_ ?_)
   refine bg.auto 0 ?_ rfl ?_<;>simp only [go_sem,Int.natCast_succ,Post]
 have f1:((y:Int)<(h:Int))=True:=eq_true (by omega)
 have hl:=iH hp hylt
 have hul:=zi hp hylt
 have kr:=AY w h hw hh p hp y hylt
 have ku:(0<y∧aC Tryz.prog 59 [.agg [.int .i64 w,.int .i64 h,.ro (.bools p)],.int .i64 ((y:Int) - 1)] (.ro (.bools (yC w p y))) [])∨(y=0∧yC w p y=List.replicate w false):=by
  by_cases h0:y=0
  ·exact .inr ⟨h0,by unfold yC;rw [if_pos h0]⟩
  ·refine .inl ⟨by omega,?_⟩
   have e:yC w p y=rowP w p (y - 1):=by unfold yC;rw [if_neg h0]
   rw [e,show ((y:Int) - 1)=((y - 1:Nat):Int) by omega]
   exact AY w h hw hh p hp (y - 1) (by omega)
 have kuN:=Ox w h hw p
 have kl:=J7 (rowP w p y) (yC w p y) (by omega) (by omega)
 have hll:=tH (row:=rowP w p y) (above:=yC w p y) (by omega) (by omega)
 have hlp:0<(jv (rowP w p y) (yC w p y)).length:=Dx (by omega) (by omega) (by omega)
 have hsucc:=mY w p y
 have hbly2:=bl (y+1) (by omega)
 generalize jv (rowP w p y) (yC w p y)=lb at *
 generalize rowP w p y=rw_ at *
 generalize hup0:yC w p y=ab at *
 generalize hlb0:dX w p y=o0 at *
 rcases ku with ⟨h0,ku⟩|⟨h0,ku⟩
 ·cases u with
  | true=>
   have kw2:=bK o0 lb (by omega) (by omega)
   simp only [cond_true,cond_false,List.cons_append,List.nil_append]
   (repeat' with_reducible first|intro _|refine rz ?_|refine ra ?_ ?_|omega|simp only [go_sem,f1])
   refine bC.lex [8] [] (by kernel_rfl) (by kernel_rfl) ?_
   (repeat' with_reducible first|intro _|exact dn|refine rn ?_|refine ra ?_ ?_)
   refine QV.intro (.ro (.bools rw_)) ?_ ?_
   ·(repeat' with_reducible first|intro _|exact dn|refine rn ?_|refine ra ?_ ?_)
    refine ah.OJ (.ro (.bools rw_)) kr (by simp only [aI,aO,bT,aT,aF,List.drop_zero,lk,reduceIte,reduceCtorEq,Nat.reduceEqDiff,Option.some.injEq,Item.row.injEq,Item.box.injEq,AV.ro.injEq,exists_eq_left,exists_and_left,exists_eq_left',exists_eq_right,and_assoc,and_true,true_and,List.cons.injEq,exists_eq',exists_eq]) (by simp [fH,aO,aT,bT,aF,lk,aI]) rfl ?_
    (repeat' with_reducible first|intro _|exact dn|refine rn ?_|refine ra ?_ ?_)
   (repeat' with_reducible first|intro _|exact dn|refine rn ?_|refine ra ?_ ?_)
   refine QV.intro (.ro (.bools ab)) ?_ ?_
   ·(repeat' with_reducible first|intro _|exact dn|refine rn ?_|refine ra ?_ ?_)
    refine ah.OJ (.ro (.bools ab)) ku (by simp only [aI,aO,bT,aT,aF,List.drop_zero,lk,reduceIte,reduceCtorEq,Nat.reduceEqDiff,Option.some.injEq,Item.row.injEq,Item.box.injEq,AV.ro.injEq,exists_eq_left,exists_and_left,exists_eq_left',exists_eq_right,and_assoc,and_true,true_and,List.cons.injEq,exists_eq',exists_eq]) (by simp [fH,aO,aT,bT,aF,lk,aI]) rfl ?_
    (repeat' with_reducible first|intro _|exact dn|refine rn ?_|refine ra ?_ ?_)
   (repeat' with_reducible first|intro _|exact dn|refine rn ?_|refine ra ?_ ?_)
   (refine QV.intro (.str lb) ?_ ?_;focus ((repeat' with_reducible first|intro _|exact dn|refine rn ?_|refine ra ?_ ?_);refine ah.k (kl) ?_;(repeat' with_reducible first|intro _|exact dn|refine rn ?_|refine ra ?_ ?_)))
   (repeat' with_reducible first|intro _|exact dn|refine rn ?_|refine ra ?_ ?_)
   refine QE.intro (.tup [.int .i64 lb.length,.raw .nilIface]) [(1,.box 89 [.ptr 1 0,.own 3]),(3,.row 5 (.ints .u8 (aj (o0++lb)))),(0,.box 24 [.int .i64 w,.int .i64 h,.ro (.bools p)])] 4 ?_ ?_
   ·(repeat' with_reducible first|intro _|exact dn|refine rn ?_|refine ra ?_ ?_)
    refine ah.i [1,2] kw2 3 ?_
    (repeat' with_reducible first|intro _|exact dn|refine rn ?_|refine ra ?_ ?_)
   (repeat' with_reducible first|intro _|exact dn|refine rn ?_|refine ra ?_ ?_)
   skip
   refine ⟨⟨y+1,true⟩,aK.ak rfl ?_ ?_,⟨by dsimp only;omega,fun _=>by dsimp only;rw [hsucc,List.length_append];omega,fun h=>by (cases h)⟩,by dsimp only;omega⟩<;>simp only [go_sem,Int.natCast_succ,hsucc]
   all_goals first|rfl|exact ⟨rfl,rfl⟩
  | false=>
   have kw2:=eG lb (by omega)
   simp only [cond_true,cond_false,List.cons_append,List.nil_append]
   (repeat' with_reducible first|intro _|refine rz ?_|refine ra ?_ ?_|omega|simp only [go_sem,f1])
   refine bC.lex [8] [] (by kernel_rfl) (by kernel_rfl) ?_
   (repeat' with_reducible first|intro _|exact dn|refine rn ?_|refine ra ?_ ?_)
   refine QV.intro (.ro (.bools rw_)) ?_ ?_
   ·(repeat' with_reducible first|intro _|exact dn|refine rn ?_|refine ra ?_ ?_)
    refine ah.OJ (.ro (.bools rw_)) kr (by simp only [aI,aO,bT,aT,aF,List.drop_zero,lk,reduceIte,reduceCtorEq,Nat.reduceEqDiff,Option.some.injEq,Item.row.injEq,Item.box.injEq,AV.ro.injEq,exists_eq_left,exists_and_left,exists_eq_left',exists_eq_right,and_assoc,and_true,true_and,List.cons.injEq,exists_eq',exists_eq]) (by simp [fH,aO,aT,bT,aF,lk,aI]) rfl ?_
    (repeat' with_reducible first|intro _|exact dn|refine rn ?_|refine ra ?_ ?_)
   (repeat' with_reducible first|intro _|exact dn|refine rn ?_|refine ra ?_ ?_)
   refine QV.intro (.ro (.bools ab)) ?_ ?_
   ·(repeat' with_reducible first|intro _|exact dn|refine rn ?_|refine ra ?_ ?_)
    refine ah.OJ (.ro (.bools ab)) ku (by simp only [aI,aO,bT,aT,aF,List.drop_zero,lk,reduceIte,reduceCtorEq,Nat.reduceEqDiff,Option.some.injEq,Item.row.injEq,Item.box.injEq,AV.ro.injEq,exists_eq_left,exists_and_left,exists_eq_left',exists_eq_right,and_assoc,and_true,true_and,List.cons.injEq,exists_eq',exists_eq]) (by simp [fH,aO,aT,bT,aF,lk,aI]) rfl ?_
    (repeat' with_reducible first|intro _|exact dn|refine rn ?_|refine ra ?_ ?_)
   (repeat' with_reducible first|intro _|exact dn|refine rn ?_|refine ra ?_ ?_)
   (refine QV.intro (.str lb) ?_ ?_;focus ((repeat' with_reducible first|intro _|exact dn|refine rn ?_|refine ra ?_ ?_);refine ah.k (kl) ?_;(repeat' with_reducible first|intro _|exact dn|refine rn ?_|refine ra ?_ ?_)))
   (repeat' with_reducible first|intro _|exact dn|refine rn ?_|refine ra ?_ ?_)
   refine QE.intro (.tup [.int .i64 lb.length,.raw .nilIface]) [(1,.box 89 [.ptr 1 0,.own 2]),(2,.row 5 (.ints .u8 (aj lb))),(0,.box 24 [.int .i64 w,.int .i64 h,.ro (.bools p)])] 3 ?_ ?_
   ·(repeat' with_reducible first|intro _|exact dn|refine rn ?_|refine ra ?_ ?_)
    refine ah.i [1] kw2 2 ?_
    (repeat' with_reducible first|intro _|exact dn|refine rn ?_|refine ra ?_ ?_)
   (repeat' with_reducible first|intro _|exact dn|refine rn ?_|refine ra ?_ ?_)
   have hz2:dX w p (y+1)=lb:=by rw [hsucc,hu2 rfl,List.nil_append]
   refine ⟨⟨y+1,true⟩,aK.ak rfl ?_ ?_,⟨by dsimp only;omega,fun _=>by dsimp only;rw [hz2];exact hlp,fun h=>by (cases h)⟩,by dsimp only;omega⟩<;>simp only [go_sem,Int.natCast_succ,hz2]
   all_goals first|rfl|exact ⟨rfl,rfl⟩
 ·cases u with
  | true=>
   have kw2:=bK o0 lb (by omega) (by omega)
   simp only [cond_true,cond_false,List.cons_append,List.nil_append]
   rw [ku] at kl
   have e0:(-1:Int)=(y:Int) - 1:=by omega
   rw [e0] at kuN
   (repeat' with_reducible first|intro _|refine rz ?_|refine ra ?_ ?_|omega|simp only [go_sem,f1])
   refine bC.lex [8] [] (by kernel_rfl) (by kernel_rfl) ?_
   (repeat' with_reducible first|intro _|exact dn|refine rn ?_|refine ra ?_ ?_)
   refine QV.intro (.ro (.bools rw_)) ?_ ?_
   ·(repeat' with_reducible first|intro _|exact dn|refine rn ?_|refine ra ?_ ?_)
    refine ah.OJ (.ro (.bools rw_)) kr (by simp only [aI,aO,bT,aT,aF,List.drop_zero,lk,reduceIte,reduceCtorEq,Nat.reduceEqDiff,Option.some.injEq,Item.row.injEq,Item.box.injEq,AV.ro.injEq,exists_eq_left,exists_and_left,exists_eq_left',exists_eq_right,and_assoc,and_true,true_and,List.cons.injEq,exists_eq',exists_eq]) (by simp [fH,aO,aT,bT,aF,lk,aI]) rfl ?_
    (repeat' with_reducible first|intro _|exact dn|refine rn ?_|refine ra ?_ ?_)
   (repeat' with_reducible first|intro _|exact dn|refine rn ?_|refine ra ?_ ?_)
   refine QV.intro (.ro (.bools (List.replicate w false))) ?_ ?_
   ·(repeat' with_reducible first|intro _|exact dn|refine rn ?_|refine ra ?_ ?_)
    refine ah.ro (.ro (.bools (List.replicate w false))) (fD.iF kuN rfl (by simp [iE,iD,lq,iU,mP])) (by simp only [aI,aO,bT,aT,aF,List.drop_zero,lk,reduceIte,reduceCtorEq,Nat.reduceEqDiff,Option.some.injEq,Item.row.injEq,Item.box.injEq,AV.ro.injEq,exists_eq_left,exists_and_left,exists_eq_left',exists_eq_right,and_assoc,and_true,true_and,List.cons.injEq,exists_eq',exists_eq]) (by simp [fH,aO,aT,bT,aF,lk,aI]) rfl ?_
    (repeat' with_reducible first|intro _|exact dn|refine rn ?_|refine ra ?_ ?_)
   (repeat' with_reducible first|intro _|exact dn|refine rn ?_|refine ra ?_ ?_)
   (refine QV.intro (.str lb) ?_ ?_;focus ((repeat' with_reducible first|intro _|exact dn|refine rn ?_|refine ra ?_ ?_);refine ah.k (kl) ?_;(repeat' with_reducible first|intro _|exact dn|refine rn ?_|refine ra ?_ ?_)))
   (repeat' with_reducible first|intro _|exact dn|refine rn ?_|refine ra ?_ ?_)
   refine QE.intro (.tup [.int .i64 lb.length,.raw .nilIface]) [(1,.box 89 [.ptr 1 0,.own 3]),(3,.row 5 (.ints .u8 (aj (o0++lb)))),(0,.box 24 [.int .i64 w,.int .i64 h,.ro (.bools p)])] 4 ?_ ?_
   ·(repeat' with_reducible first|intro _|exact dn|refine rn ?_|refine ra ?_ ?_)
    refine ah.i [1,2] kw2 3 ?_
    (repeat' with_reducible first|intro _|exact dn|refine rn ?_|refine ra ?_ ?_)
   (repeat' with_reducible first|intro _|exact dn|refine rn ?_|refine ra ?_ ?_)
   skip
   refine ⟨⟨y+1,true⟩,aK.ak rfl ?_ ?_,⟨by dsimp only;omega,fun _=>by dsimp only;rw [hsucc,List.length_append];omega,fun h=>by (cases h)⟩,by dsimp only;omega⟩<;>simp only [go_sem,Int.natCast_succ,hsucc]
   all_goals first|rfl|exact ⟨rfl,rfl⟩
  | false=>
   have kw2:=eG lb (by omega)
   simp only [cond_true,cond_false,List.cons_append,List.nil_append]
   rw [ku] at kl
   have e0:(-1:Int)=(y:Int) - 1:=by omega
   rw [e0] at kuN
   (repeat' with_reducible first|intro _|refine rz ?_|refine ra ?_ ?_|omega|simp only [go_sem,f1])
   refine bC.lex [8] [] (by kernel_rfl) (by kernel_rfl) ?_
   (repeat' with_reducible first|intro _|exact dn|refine rn ?_|refine ra ?_ ?_)
   refine QV.intro (.ro (.bools rw_)) ?_ ?_
   ·(repeat' with_reducible first|intro _|exact dn|refine rn ?_|refine ra ?_ ?_)
    refine ah.OJ (.ro (.bools rw_)) kr (by simp only [aI,aO,bT,aT,aF,List.drop_zero,lk,reduceIte,reduceCtorEq,Nat.reduceEqDiff,Option.some.injEq,Item.row.injEq,Item.box.injEq,AV.ro.injEq,exists_eq_left,exists_and_left,exists_eq_left',exists_eq_right,and_assoc,and_true,true_and,List.cons.injEq,exists_eq',exists_eq]) (by simp [fH,aO,aT,bT,aF,lk,aI]) rfl ?_
    (repeat' with_reducible first|intro _|exact dn|refine rn ?_|refine ra ?_ ?_)
   (repeat' with_reducible first|intro _|exact dn|refine rn ?_|refine ra ?_ ?_)
   refine QV.intro (.ro (.bools (List.replicate w false))) ?_ ?_
   ·(repeat' with_reducible first|intro _|exact dn|refine rn ?_|refine ra ?_ ?_)
    refine ah.ro (.ro (.bools (List.replicate w false))) (fD.iF kuN rfl (by simp [iE,iD,lq,iU,mP])) (by simp only [aI,aO,bT,aT,aF,List.drop_zero,lk,reduceIte,reduceCtorEq,Nat.reduceEqDiff,Option.some.injEq,Item.row.injEq,Item.box.injEq,AV.ro.injEq,exists_eq_left,exists_and_left,exists_eq_left',exists_eq_right,and_assoc,and_true,true_and,List.cons.injEq,exists_eq',exists_eq]) (by simp [fH,aO,aT,bT,aF,lk,aI]) rfl ?_
    (repeat' with_reducible first|intro _|exact dn|refine rn ?_|refine ra ?_ ?_)
   (repeat' with_reducible first|intro _|exact dn|refine rn ?_|refine ra ?_ ?_)
   (refine QV.intro (.str lb) ?_ ?_;focus ((repeat' with_reducible first|intro _|exact dn|refine rn ?_|refine ra ?_ ?_);refine ah.k (kl) ?_;(repeat' with_reducible first|intro _|exact dn|refine rn ?_|refine ra ?_ ?_)))
   (repeat' with_reducible first|intro _|exact dn|refine rn ?_|refine ra ?_ ?_)
   refine QE.intro (.tup [.int .i64 lb.length,.raw .nilIface]) [(1,.box 89 [.ptr 1 0,.own 2]),(2,.row 5 (.ints .u8 (aj lb))),(0,.box 24 [.int .i64 w,.int .i64 h,.ro (.bools p)])] 3 ?_ ?_
   ·(repeat' with_reducible first|intro _|exact dn|refine rn ?_|refine ra ?_ ?_)
    refine ah.i [1] kw2 2 ?_
    (repeat' with_reducible first|intro _|exact dn|refine rn ?_|refine ra ?_ ?_)
   (repeat' with_reducible first|intro _|exact dn|refine rn ?_|refine ra ?_ ?_)
   have hz2:dX w p (y+1)=lb:=by rw [hsucc,hu2 rfl,List.nil_append]
   refine ⟨⟨y+1,true⟩,aK.ak rfl ?_ ?_,⟨by dsimp only;omega,fun _=>by dsimp only;rw [hz2];exact hlp,fun h=>by (cases h)⟩,by dsimp only;omega⟩<;>simp only [go_sem,Int.natCast_succ,hz2]
   all_goals first|rfl|exact ⟨rfl,rfl⟩
end Go.Fv.H
/- The reference's unpackBits: the walk. -/
namespace Go.Fv.H
open Go Go.Proofs
end Go.Fv.H
/- bedref1.unadaptive: the walk. -/
namespace Go.Fv.H
open Go Go.Proofs
end Go.Fv.H
/- Runes below 128 are bytes. -/
namespace Go.Fv.H
open Go
end Go.Fv.H
/- The reference's read at plain data and by context: the walk. -/
namespace Go.Fv.H
open Go Go.Proofs
end Go.Fv.H
/- Reading a number: the walk of the reference's ReadGamma. -/
namespace Go.Fv.H
open Go Go.Proofs
end Go.Fv.H
/- The closures of the reference's ReadLine. -/
namespace Go.Fv.H
open Go Go.Proofs
end Go.Fv.H
/- The reference's ReadLine: the walk. -/
namespace Go.Fv.H
open Go Go.Proofs
structure UW (st:Bool) (above:List Bool) (s:Bytes) (x:XV):Prop where
 hp:x.p≤above.length+1
 hn:x.n≤s.length
 hR:x.R.length=x.p - 1
 hz:above.length=0→x.n=0
 hq:tV st above s 0 false=match tV st above (s.drop x.n) x.p x.k with|none=>none|some (l,m)=>some (x.R++l,x.n+m)
theorem UW.first (st:Bool) (above:List Bool) (s:Bytes):UW st above s ⟨0,false,0,[]⟩:=by
 refine ⟨Nat.zero_le _,Nat.zero_le _,rfl,fun _=>rfl,?_⟩
 dsimp only
 rw [List.drop_zero]
 cases tV st above s 0 false with
 | none=>rfl
 | some x=>obtain ⟨l,m⟩:=x;dsimp only;rw [List.nil_append,Nat.zero_add]
theorem UW.step {st:Bool} {above:List Bool} {s:Bytes} {p n:Nat} {k:Bool} {R:List Bool} (h:UW st above s ⟨p,k,n,R⟩) (hp:p≤above.length) (h0:0<above.length) {y:UZ} (hy:rdStep st above (s.drop n) p k=some y) :
  UW st above s ⟨y.p,y.k,n+y.n,R++y.px⟩∧p<y.p∧y.p≤above.length+1:=by
 obtain ⟨h1,h2,h3,_,h4⟩:=h
 obtain ⟨g1,g2,g3,g4⟩:=qB hp hy
 dsimp only at *
 rw [List.length_drop] at g4
 refine ⟨⟨g2,by dsimp only;omega,by dsimp only;rw [List.length_append,h3,g3];omega,fun h=>by omega,?_⟩,g1,g2⟩
 dsimp only
 rw [h4,DW hp hy,List.drop_drop]
 cases tV st above (s.drop (n+y.n)) y.p y.k with
 | none=>rfl
 | some x=>obtain ⟨l,m⟩:=x;dsimp only;rw [List.append_assoc,Nat.add_assoc]
theorem UW.done {st:Bool} {above:List Bool} {s:Bytes} {p n:Nat} {k:Bool} {R:List Bool} (h:UW st above s ⟨p,k,n,R⟩) (hp:¬(p≤above.length∧0<above.length)):Iz st above s=some (R,n)∧R.length=above.length:=by
 have h1:p≤above.length+1:=h.hp
 have h2:R.length=p - 1:=h.hR
 have h3:above.length=0→n=0:=h.hz
 refine ⟨?_,by omega⟩
 unfold Iz
 by_cases h0:above.length=0
 ·have hR0:R.length=0:=by
   have h5:p≤1:=by rw [h0] at h1;exact h1
   rw [h2];exact Nat.sub_eq_zero_of_le h5
  rw [if_pos h0,h3 h0,List.eq_nil_of_length_eq_zero hR0]
 ·have h6:¬p≤above.length:=by omega
  rw [if_neg h0,h.hq,IB h6]
  dsimp only
  rw [List.append_nil,Nat.add_zero]
end Go.Fv.H
/- The reference's read at runs: the walk. -/
namespace Go.Fv.H
open Go Go.Proofs
end Go.Fv.H
/- The reference's read at lines: the walk. -/
namespace Go.Fv.H
open Go Go.Proofs
end Go.Fv.H
/- The reference's Decode: the walk. -/
namespace Go.Fv.H
open Go Go.Proofs
end Go.Fv.H
/- The reference's Shortest: the walk. -/
namespace Go.Fv.H
open Go Go.Proofs
set_option maxHeartbeats 4000000 in
theorem IK (w h:Nat) (p:List Bool) (g:yE w h p) :
  aC Tryz.prog 25 [.agg [.int .i64 w,.int .i64 h,.ro (.bools p)]] (.tup [.str (dP w h p 4).1,.int .i64 (dP w h p 4).2]) []:=by
 refine aC.aJ Tryz.func25 rfl (by decide) (by simp [Tryz.f25]) [.tmp 2,.tmp 3] rfl fun w0 T0 _=>?_
 simp only [Tryz.f25,aB]
 (repeat' with_reducible first|intro _|exact dn|refine rn ?_|refine ra ?_ ?_)
 refine aH.intro (fun i:Nat=>⟨28,[(6,.int .i64 ((i:Int)+1)),(5,.int .i64 (dP w h p i).2),(4,.str (dP w h p i).1),(1,.ptr 0 0)],[(0,.box 24 [.int .i64 w,.int .i64 h,.ro (.bools p)])],1⟩) (fun i=>i≤4) (fun i=>4 - i) 0 ?_ (Nat.zero_le _) fun i hi=>?_
 ·refine aK.ak rfl ?_ ?_<;>simp only [go_sem,Int.natCast_succ]
  all_goals first|rfl|exact ⟨rfl,rfl⟩|exact ⟨rfl,rfl,rfl⟩
 by_cases hlt:i<4
 ·have f1:((i:Int)+1≤4)=True:=eq_true (by omega)
  have ke:=vM w h g.w0 g.w1 g.h1 g.wh p g.p ((i:Int)+1) (by omega)
  have hst:dP w h p (i+1)=if (dP w h p i).2=0∨(jW w h p ((i:Int)+1)).length<(dP w h p i).1.length then (jW w h p ((i:Int)+1),(i:Int)+1) else dP w h p i:=rfl
  generalize jW w h p ((i:Int)+1)=e at *
  generalize hb:dP w h p i=b at *
  obtain ⟨s,k⟩:=b
  dsimp only at *
  (repeat' with_reducible first|intro _|refine rz ?_|refine ra ?_ ?_|omega|simp only [go_sem,f1])
  refine ah.k ke ?_
  by_cases h0:k=0
  ·have f2:(k=0)=True:=eq_true h0
   rw [if_pos (.inl h0)] at hst
   (repeat' with_reducible first|intro _|refine rz ?_|refine ra ?_ ?_|omega|simp only [go_sem,f2])
   refine ⟨i+1,aK.ak rfl ?_ ?_,by omega,by omega⟩<;>simp only [go_sem,Int.natCast_succ,hst]
  have f2:(k=0)=False:=eq_false h0
  by_cases h3:e.length<s.length
  ·have f3:((e.length:Int)<(s.length:Int))=True:=eq_true (by omega)
   rw [if_pos (.inr h3)] at hst
   (repeat' with_reducible first|intro _|refine rz ?_|refine ra ?_ ?_|omega|simp only [go_sem,f2,f3])
   refine ⟨i+1,aK.ak rfl ?_ ?_,by omega,by omega⟩<;>simp only [go_sem,Int.natCast_succ,hst]
  ·have f3:((e.length:Int)<(s.length:Int))=False:=eq_false (by omega)
   rw [if_neg (fun q=>q.elim h0 h3)] at hst
   (repeat' with_reducible first|intro _|refine rz ?_|refine ra ?_ ?_|omega|simp only [go_sem,f2,f3])
   refine ⟨i+1,aK.ak rfl ?_ ?_,by omega,by omega⟩<;>simp only [go_sem,Int.natCast_succ,hst]
 ·have f1:((i:Int)+1≤4)=False:=eq_false (by omega)
  have e:i=4:=by omega
  subst e
  (repeat' with_reducible first|intro _|refine rz ?_|refine ra ?_ ?_|omega|simp only [go_sem,f1])
  refine bg.auto 0 ?_ rfl ?_<;>simp only [go_sem,Int.natCast_succ,Post]
end Go.Fv.H
/- A page made right: the walk's result, and how long its codes are. -/
namespace Go.Fv.H
open Go Go.Proofs
structure Wi where
 (w h:Nat) (p:List Bool)
def yI (W H:Int) (p:List Bool):Wi:=⟨nN W 31,nN H 31,rowsOf (nN W 31) (NI p (nN W 31)) (nN H 31*nN W 31)⟩
structure Wi.Ok (b:Wi):Prop where
 g:yE b.w b.h b.p
 w32:b.w≤32
 h32:b.h≤32
def Wi.av (b:Wi):AV:=.agg [.int .i64 b.w,.int .i64 b.h,.ro (.bools b.p)]
theorem PI (W H:Int) (p:List Bool):fD Tryz.prog 12 [.agg [.int .i64 W,.int .i64 H,.ro (.bools p)]] (.agg [.int .i64 (yI W H p).w,.int .i64 (yI W H p).h,.ro (.bools (yI W H p).p)]) []:=
 fD.RN (fD.iF (Vk W H p) rfl rfl) (by simp [yI,fH,aO,aT,bT,aF,lk,aI])
theorem zN {w h:Nat} {p:List Bool} (g:yE w h p) (kind:Int):(jW w h p kind).length≤1048597:=by
 have:=GI g kind
 rw [GR];omega
theorem Pz (w h:Nat) (p:List Bool) (kind:Int):17≤(jW w h p kind).length:=by rw [GR];omega
theorem SQ {w h:Nat} {p:List Bool} (g:yE w h p):∀ k,(dP w h p k).1.length≤1048597
 | 0=>Nat.zero_le _
 | k+1=>by
  have h1:=SQ g k
  have h2:=zN g ((k:Int)+1)
  unfold dP
  split
  ·exact h2
  ·exact h1
theorem Ll (w h:Nat) (p:List Bool):∀ k,(dP w h p (k+1)).1=jW w h p (dP w h p (k+1)).2∧1≤(dP w h p (k+1)).2∧(dP w h p (k+1)).2≤(k:Int)+1
 | 0=>by
  have e:dP w h p 1=(jW w h p 1,1):=rfl
  rw [show 0+1=1 from rfl,e]
  exact ⟨rfl,Int.le_refl _,Int.le_refl _⟩
 | k+1=>by
  obtain ⟨h1,h2,h3⟩:=Ll w h p k
  have e:dP w h p (k+1+1)=if (dP w h p (k+1)).2=0∨(jW w h p (((k+1:Nat):Int)+1)).length<(dP w h p (k+1)).1.length then (jW w h p (((k+1:Nat):Int)+1),((k+1:Nat):Int)+1) else dP w h p (k+1):=rfl
  rw [e]
  split
  ·exact ⟨rfl,by dsimp only;omega,by dsimp only;omega⟩
  ·exact ⟨h1,h2,by omega⟩
end Go.Fv.H
/- Packing, in plain words. -/
namespace Go.Fv.H
open Go Go.Proofs
structure NP where
 (n:Bytes) (W H:Int) (p:List Bool)
def NP.av (x:NP):List AV:=[.str x.n,.int .i64 x.W,.int .i64 x.H,.ro (.bools x.p)]
def NP.zero:NP:=⟨[],0,0,[]⟩
abbrev Jf (l:List NP):aG:=.objs 4 (l.map NP.av)
instance:CW NP.av:=⟨fun _=>rfl⟩
theorem vG (l:List NP) {i:Nat} (h:i<l.length):(l.map NP.av).getD i []=[.str (l.getD i NP.zero).n,.int .i64 (l.getD i NP.zero).W,.int .i64 (l.getD i NP.zero).H,.ro (.bools (l.getD i NP.zero).p)]:=by
 simp [List.getD_eq_getElem?_getD,h,NP.av]
def Qv (x:NP):Int:=iL x.W x.H x.p.length
def NP.Ok (x:NP):Prop:=yE x.W.toNat x.H.toNat x.p
theorem NP.Ok.w {x:NP} (h:x.Ok):(x.W.toNat:Int)=x.W∧(x.H.toNat:Int)=x.H:=by
 have h1:=yE.w0 h
 have h2:=yE.h0 h
 omega
theorem Vu {x:NP} (h:Qv x=0):x.Ok:=by
 unfold Qv iL at h
 split at h
 ·rename_i hs
  have hz:=oV hs
  split at h
  ·rename_i hp
   have e:((x.W.toNat*x.H.toNat:Nat):Int)=x.W*x.H:=by
    rw [Int.natCast_mul]
    congr 1<;>omega
   exact ⟨by omega,by omega,by omega,by omega,by omega,by omega⟩
  ·cases h
 ·rename_i hs;exact absurd h hs
theorem Vt {x:NP} (h:x.Ok):Qv x=0:=by
 have:=yE.err h
 rw [h.w.1,h.w.2] at this
 exact this
def vJ (l:List NP):Nat→Int
 | 0=>0
 | i+1=>if vJ l i≠0 then vJ l i else if dJ (l.getD i NP.zero).n=true then (if (l.getD i NP.zero).n∈(l.take i).map NP.n then 6 else Qv (l.getD i NP.zero)) else 5
theorem QI {l:List NP} {i:Nat} (h:vJ l i≠0):∀ j,vJ l (i+j)=vJ l i
 | 0=>rfl
 | j+1=>by
  have ih:=QI h j
  show (if vJ l (i+j)≠0 then vJ l (i+j) else _)=_
  rw [ih,if_pos h]
theorem J3 {l:List NP} {i n:Nat} (h:vJ l i≠0) (hn:i≤n):vJ l n=vJ l i:=by
 have:=QI h (n - i)
 rwa [show i+(n - i)=n by omega] at this
theorem QF {l:List NP} {i n:Nat} (h:vJ l n=0) (hn:i≤n):vJ l i=0:=
 Classical.byContradiction fun h2=>h2 ((J3 h2 hn).symm.trans h)
structure uo (l:List NP):Prop where
 name:∀ x,x∈l→dJ x.n=true
 ok:∀ x,x∈l→x.Ok
 nodup:(l.map NP.n).Nodup
theorem AB {l:List NP} (h:uo l) {x:NP} (h1:dJ x.n=true) (h2:x.n∉l.map NP.n) (h3:x.Ok):uo (l++[x]):=by
 refine ⟨fun y hy=>?_,fun y hy=>?_,?_⟩
 ·rcases List.mem_append.1 hy with hy|hy
  ·exact h.name y hy
  ·rw [List.mem_singleton.1 hy];exact h1
 ·rcases List.mem_append.1 hy with hy|hy
  ·exact h.ok y hy
  ·rw [List.mem_singleton.1 hy];exact h3
 ·rw [List.map_append,List.nodup_append]
  refine ⟨h.nodup,by simp,fun a ha b hb=>?_⟩
  rw [List.map_singleton,List.mem_singleton] at hb
  subst hb
  exact fun e=>h2 (e▸ha)
theorem QH {l:List NP}:∀ i,i≤l.length→vJ l i=0→uo (l.take i)
 | 0,_,_=>⟨fun _ h=>by simp at h,fun _ h=>by simp at h,List.nodup_nil⟩
 | i+1,hi,h=>by
  have h0:=QF h (Nat.le_succ i)
  have ih:=QH i (by omega) h0
  have hil:i<l.length:=by omega
  have e:l.getD i NP.zero=l[i]:=by simp [List.getD_eq_getElem?_getD,hil]
  have hs:vJ l (i+1)=if vJ l i≠0 then vJ l i else if dJ (l.getD i NP.zero).n=true then (if (l.getD i NP.zero).n∈(l.take i).map NP.n then 6 else Qv (l.getD i NP.zero)) else 5:=rfl
  rw [h0,if_neg (by simp),e,h] at hs
  rw [List.take_succ_eq_append_getElem hil]
  split at hs
  ·rename_i h1
   split at hs
   ·cases hs
   ·rename_i h2
    exact AB ih h1 h2 (Vu hs.symm)
  ·cases hs
theorem QG {l:List NP} (h:uo l):∀ i,i≤l.length→vJ l i=0
 | 0,_=>rfl
 | i+1,hi=>by
  have ih:=QG h i (by omega)
  have hil:i<l.length:=by omega
  have e:l.getD i NP.zero=l[i]:=by simp [List.getD_eq_getElem?_getD,hil]
  have hm:l[i]∈l:=List.getElem_mem hil
  have hni:l[i].n∉(l.take i).map NP.n:=by
   intro hx
   have hnd:=h.nodup
   rw [←List.take_append_drop i l,List.map_append,List.nodup_append] at hnd
   refine hnd.2.2 _ hx l[i].n ?_ rfl
   rw [List.drop_eq_getElem_cons hil]
   exact List.mem_map.2 ⟨_,List.mem_cons_self,rfl⟩
  show (if vJ l i≠0 then vJ l i else _)=0
  rw [ih,if_neg (by simp),e,if_pos (h.name _ hm),if_neg hni]
  exact Vt (h.ok _ hm)
def MR (l:List NP) (kind:Int):Int:=if 500<l.length then 4 else if vJ l l.length≠0 then vJ l l.length else if 1≤kind∧kind≤5 then 0 else 1
theorem J4 {l:List NP} {kind:Int} (h:MR l kind=0):uo l∧l.length≤500∧1≤kind∧kind≤5:=by
 unfold MR at h
 split at h
 ·cases h
 ·split at h
  ·rename_i h2;exact absurd h h2
  ·rename_i h1 h2
   have:=QH l.length (Nat.le_refl _) (Classical.not_not.1 h2)
   rw [List.take_length] at this
   split at h
   ·rename_i h3;exact ⟨this,by omega,h3.1,h3.2⟩
   ·cases h
theorem Vy {l:List NP} {kind:Int} (h:uo l) (hl:l.length≤500) (hk:1≤kind∧kind≤5):MR l kind=0:=by
 unfold MR
 rw [if_neg (by omega),QG h _ (Nat.le_refl _),if_neg (by simp),if_pos hk]
def oC (kind:Int) (x:NP):Bytes:=if kind=5 then (dP x.W.toNat x.H.toNat x.p 4).1 else jW x.W.toNat x.H.toNat x.p kind
def nC (kind:Int) (l:List NP):List (Bytes × Bytes):=l.map fun x=>(x.n,oC kind x)
theorem yU (kind:Int) (l:List NP):(nC kind l).length=l.length:=List.length_map _
theorem Pj (kind:Int) (hk:1≤kind∧kind≤5) (x:NP):∃ k:Int,1≤k∧k≤4∧oC kind x=jW x.W.toNat x.H.toNat x.p k:=by
 unfold oC
 split
 ·have:=Ll x.W.toNat x.H.toNat x.p 3
  exact ⟨_,this.2.1,by omega,this.1⟩
 ·exact ⟨kind,by omega,by omega,rfl⟩
theorem uI {kind:Int} (hk:1≤kind∧kind≤5) {x:NP} (h:x.Ok):17≤(oC kind x).length∧(oC kind x).length≤1048597:=by
 obtain ⟨k,k1,k2,e⟩:=Pj kind hk x
 rw [e]
 exact ⟨Pz _ _ _ _,zN h k⟩
def fA (l:List NP) (kind:Int):Bytes × Int:=
 if MR l kind≠0 then ([],MR l kind)
 else if 4194304<(iR (nC kind l)).length then ([],4)
 else (iR (nC kind l),0)
theorem yT {l:List NP} {kind:Int} (h:(fA l kind).2=0):fA l kind=(iR (nC kind l),0)∧KU (nC kind l)∧uo l∧l.length≤500∧1≤kind∧kind≤5:=by
 unfold fA at h ⊢
 split at h
 ·rename_i h1;exact absurd h h1
 ·rename_i h1
  split at h
  ·cases h
  ·rename_i h2
   obtain ⟨k1,k2,k3,k4⟩:=J4 (Classical.not_not.1 h1)
   rw [if_neg h1,if_neg h2]
   have hn:(nC kind l).map Prod.fst=l.map NP.n:=by unfold nC;rw [List.map_map];rfl
   refine ⟨rfl,⟨?_,?_,by rw [hn];exact k1.nodup,by omega⟩,k1,k2,k3,k4⟩
   ·unfold nC;rw [List.length_map];omega
   ·intro x hx
    obtain ⟨y,hy,rfl⟩:=List.mem_map.1 hx
    exact k1.name y hy
def oO (s:Bytes):List (Bytes × Bytes):=(bF s).1.map fun y=>(y.n,(s.drop y.a).take y.k)
def pF (s:Bytes) (x:NP) (kind:Int):Bytes × Int:=
 if (bF s).2≠0 then ([],(bF s).2)
 else if (fA [x] kind).2≠0 then ([],(fA [x] kind).2)
 else if x.n∈(bF s).1.map En.n then ([],6)
 else if 4194304<(iR (oO s++[(x.n,oC kind x)])).length∨500≤(bF s).1.length then ([],4)
 else (iR (oO s++[(x.n,oC kind x)]),0)
theorem Qz {l:List (Bytes × Bytes)} (h:KU l):oO (iR l)=l:=by
 obtain ⟨h1,h2⟩:=Dy h
 unfold oO
 rw [jL h2,h1]
 dsimp only
 apply List.ext_getElem
 ·rw [List.length_map,dN,List.length_map]
 ·intro i hi1 hi2
  have hi3:i<(dV (l.map fun x=>(x.1,x.2.length)) (hdB l).length).length:=by rw [dN,List.length_map];exact hi2
  obtain ⟨a1,a2⟩:=OW hi2
  have e:(dV (l.map fun x=>(x.1,x.2.length)) (hdB l).length).getD i En.zero=(dV (l.map fun x=>(x.1,x.2.length)) (hdB l).length)[i]:=by simp [List.getD_eq_getElem?_getD,hi3]
  have e2:l.getD i ([],[])=l[i]:=by simp [List.getD_eq_getElem?_getD,hi2]
  rw [List.getElem_map,←e,a1]
  dsimp only
  rw [a2,e2]
theorem OU {l:List NP} {x:NP} (h:(fA l 5).2=0) (ha:(pF (fA l 5).1 x 5).2=0):pF (fA l 5).1 x 5=fA (l++[x]) 5:=by
 obtain ⟨e,hA,hP,hl,_⟩:=yT h
 rw [e] at ha ⊢
 dsimp only at ha ⊢
 obtain ⟨hL1,hL2⟩:=Dy hA
 have hol:=Qz hA
 have hnm:(bF (iR (nC 5 l))).1.map En.n=l.map NP.n:=by
  rw [jL hL2,hL1]
  dsimp only
  rw [qV,List.map_map]
  unfold nC
  rw [List.map_map];rfl
 have hll:(bF (iR (nC 5 l))).1.length=l.length:=by
  have:=congrArg List.length hnm
  simpa using this
 have hcd:nC 5 l++[(x.n,oC 5 x)]=nC 5 (l++[x]):=by unfold nC;rw [List.map_append];rfl
 unfold pF at ha ⊢
 rw [hnm,hll,hol,hcd] at ha ⊢
 split at ha
 ·rename_i h1;exact absurd ha h1
 ·rename_i h1
  rw [if_neg h1]
  split at ha
  ·rename_i h2;exact absurd ha h2
  ·rename_i h2
   rw [if_neg h2]
   split at ha
   ·cases ha
   ·rename_i h3
    rw [if_neg h3]
    split at ha
    ·cases ha
    ·rename_i h4
     rw [if_neg h4]
     have h4:=not_or.1 h4
     obtain ⟨_,_,hx,_⟩:=yT (Classical.not_not.1 h2)
     have hq:=AB hP (hx.name x (by simp)) h3 (hx.ok x (by simp))
     unfold fA
     rw [Vy hq (by simp;omega) (by omega),if_neg (by simp),if_neg h4.1]
end Go.Fv.H
