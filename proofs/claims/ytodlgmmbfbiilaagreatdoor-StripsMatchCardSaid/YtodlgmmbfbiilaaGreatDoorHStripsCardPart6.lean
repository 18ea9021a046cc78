/-
  A part of the proof of the claim: walks over the program's functions and the plain laws that these need. No condition of its own.
-/
import Derived.Test.YtodlgmmbfbiilaaGreatDoorHStripsCardPart2
import Derived.Test.YtodlgmmbfbiilaaGreatDoorHStripsCardPart3
import Derived.Test.YtodlgmmbfbiilaaGreatDoorHStripsCardPart5
import Derived.Test.YtodlgmmbfbiilaaGreatDoorHStripsCardPart1
import Derived.Test.YtodlgmmbfbiilaaGreatDoorFvPart10
set_option linter.unusedSimpArgs false
set_option linter.unusedVariables false
set_option linter.unnecessarySimpa false
set_option maxRecDepth 8000
/- shrink.dataOf: the walk. -/
namespace Go.Fv.H
open Go Go.Proofs
theorem wH {row above:List Bool} (hr:row.length≤4000) (hw:above.length=row.length):(eu row above).length≤100*(row.length+1):=by
 have key:∀ (f p:Nat) (ink:Bool),row.length+1 - p≤f→(lX row above p ink).length≤100*f:=by
  intro f
  induction f with
  | zero=>intro p ink h;rw [jS (by omega)];simp
  | succ f ih=>
   intro p ink h
   by_cases hp:p≤row.length
   ·have hs:=kM hw hp ink
    have hsh:=yC (above:=above) hr p ink
    rw [ni hw hp,List.length_append]
    have:=ih (aT row above p ink).p (aT row above p ink).k (by omega)
    omega
   ·rw [jS hp];simp
 unfold eu
 split
 ·simp
 ·exact key (row.length+1) 0 false (by omega)
theorem Bv {w h:Nat} {p:List Bool} (hp:p.length=w*h) {y:Nat} (hy:y<h):(rC w p y).length=w:=by
 unfold rC
 split
 ·exact List.length_replicate
 ·exact gq hp (by omega)
theorem oJ (w:Nat) (p:List Bool) (y:Nat):dZ w p (y+1)=dZ w p y++eu (rowP w p y) (rC w p y):=by
 unfold dZ;rw [List.range_succ,List.flatMap_append];simp
theorem qj (w:Nat) (p:List Bool) (y:Nat):iI w p (y+1)=iI w p y++dw (iH (rowP w p y)):=by
 unfold iI;rw [List.range_succ,List.flatMap_append];simp
theorem Ep {l:List Int} {j:Nat} (h:j<l.length):dw (l.take (j+1))=dw (l.take j)++dR (l.getD j 0+1).toNat:=by
 unfold dw;rw [List.take_succ_eq_append_getElem h,List.flatMap_append,getD_lt h];simp
theorem uy (r:List Bool):(iH r).length≤r.length+1∧∀ x,x∈iH r→0≤x∧x≤r.length:=by
 obtain ⟨h1,_,h3⟩:=qK r r.length
 exact ⟨h1,h3⟩
theorem qJ {w h:Nat} {p:List Bool} (hw:w≤4000) (hp:p.length=w*h):∀ y,y≤h→(dZ w p y).length≤100*(w+1)*y
 | 0,_=>by simp [dZ]
 | y+1,hy=>by
  have h1:=qJ hw hp y (by omega)
  have hl:=gq hp (y:=y) (by omega)
  have h2:=wH (row:=rowP w p y) (above:=rC w p y) (by omega) (by rw [Bv hp (by omega),hl])
  rw [hl] at h2
  rw [oJ,List.length_append,Nat.mul_succ];omega
theorem yT {l:List Int} (hl:∀ x,x∈l→0≤x∧x≤4000):(dw l).length≤41*l.length:=by
 induction l with
 | nil=>simp [dw]
 | cons x l ih=>
  have h1:=ih fun y hy=>hl y (.tail _ hy)
  have h2:=hl x (.head _)
  have h3:=cZ (n:=(x+1).toNat) (by omega)
  have e:dw (x::l)=dR (x+1).toNat++dw l:=by unfold dw;simp
  rw [e,List.length_append,List.length_cons];omega
theorem uT {w h:Nat} {p:List Bool} (hw:w≤4000) (hp:p.length=w*h):∀ y,y≤h→(iI w p y).length≤41*(w+1)*y
 | 0,_=>by simp [iI]
 | y+1,hy=>by
  have h1:=uT hw hp y (by omega)
  have hl:=gq hp (y:=y) (by omega)
  obtain ⟨h2,h3⟩:=uy (rowP w p y)
  have h4:=yT (l:=iH (rowP w p y)) fun x hx=>by have:=h3 x hx;omega
  rw [qj,List.length_append,Nat.mul_succ]
  rw [hl] at h2
  have h5:41*(iH (rowP w p y)).length≤41*(w+1):=Nat.mul_le_mul_left _ h2
  omega
theorem Gt {row above:List Bool} (h0:0<row.length) (hr:row.length≤4000) (hw:above.length=row.length):0<(eu row above).length:=by
 unfold eu
 rw [if_neg (by omega),ni hw (by omega),List.length_append]
 have hs:0<(aT row above 0 false).c.length:=by
  unfold aT
  split
  ·exact (by decide:0<eX.length)
  ·split
   ·dsimp only;exact Ci (by omega)
   ·dsimp only;rw [List.length_append];have:dV.length=3:=rfl;omega
 omega
structure DX where
 y:Nat
 u:Bool
structure DR where
 j:Nat
 u:Bool
structure BU (o:Bytes) (u:Bool):Prop where
 h1:u=true→0<o.length
 h2:u=false→o=[]
theorem OH (n:Nat):0<(dR n).length:=by
 have:=tZ n
 rw [Bz];omega
set_option maxHeartbeats 16000000 in
theorem PD (w h:Nat) (hw0:0<w) (hw:w≤4000) (hh:h≤4000) (hwh:w*h≤1048576) (p:List Bool) (hp:p.length=w*h) (kind:Int) :
  aA Tryz.prog 107 [.agg [.int .i64 w,.int .i64 h,.ro (.bools p)],.int .i64 kind] (.own 0) [(0,.row 5 (.ints .u8 (aj (bQ w h p kind))))]:=by
 refine aA.aG Tryz.func107 rfl (by decide) (by simp [Tryz.f107]) [.tmp 4] rfl fun w0 T0 _=>?_
 simp only [Tryz.f107,au]
 by_cases c1:kind=1
 ·have e:bQ w h p kind=jr (fF p):=if_pos c1
  rw [e]
  have k1:=Qg (w:Int) (h:Int) p (by omega)
  have k2:=zk (fF p) (by rw [jH];omega)
  have g1:(kind=1)=True:=eq_true c1
  (repeat' with_reducible first|intro _|refine rz ?_|refine ra ?_ ?_|omega|simp only [go_sem,g1])
  refine ah.k k1 ?_
  (repeat' with_reducible first|intro _|exact dn|refine rn ?_|refine ra ?_ ?_)
  refine ah.o k2 1 ?_
  (repeat' with_reducible first|intro _|exact dn|refine rn ?_|refine ra ?_ ?_)
  refine aV.auto 1 ?_ rfl ?_<;>simp only [go_sem,Int.natCast_succ,Post]
 have g1:(kind=1)=False:=eq_false c1
 by_cases c4:kind=4
 ·have e:bQ w h p kind=rE w h p:=by unfold bQ;rw [if_neg c1,if_pos c4]
  rw [e]
  have k1:=KC w h hw0 hw hh hwh p hp
  have g4:(kind=4)=True:=eq_true c4
  (repeat' with_reducible first|intro _|refine rz ?_|refine ra ?_ ?_|omega|simp only [go_sem,g1,g4])
  refine ah.o k1 1 ?_
  (repeat' with_reducible first|intro _|exact dn|refine rn ?_|refine ra ?_ ?_)
  refine aV.auto 1 ?_ rfl ?_<;>simp only [go_sem,Int.natCast_succ,Post]
 have g4:(kind=4)=False:=eq_false c4
 have b1:41*(w+1)*h≤100000000:=by
  have:(w+1)*h≤1052576:=by rw [Nat.add_mul,Nat.one_mul];omega
  rw [Nat.mul_assoc];omega
 have b2:100*(w+1)*h≤200000000:=by
  have:(w+1)*h≤1052576:=by rw [Nat.add_mul,Nat.one_mul];omega
  rw [Nat.mul_assoc];omega
 by_cases c2:kind=2
 ·have e:bQ w h p kind=jr (iI w p h):=by unfold bQ;rw [if_neg c1,if_neg c4,if_pos c2]
  rw [e]
  have g2:(kind=2)=True:=eq_true c2
  have bl:=uT hw hp
  (repeat' with_reducible first|intro _|refine rz ?_|refine ra ?_ ?_|omega|simp only [go_sem,g1,g4,g2])
  refine aI.intro (fun x:DX=>⟨63,[(43,.int .i64 x.y),(42,.int .i64 h),(5,.ptr 1 0),(2,.ptr 0 0)],(0,.box 24 [.int .i64 w,.int .i64 h,.ro (.bools p)])::(bif x.u then [(1,.box 89 [.ptr 1 0,.own 2]),(2,.row 5 (.ints .u8 (aj (iI w p x.y))))] else [(1,.box 89 [.raw (.pointer none),.nilS])]),bif x.u then 3 else 2⟩) (fun x=>x.y≤h∧BU (iI w p x.y) x.u) (fun x=>h - x.y) ⟨0,false⟩ ?_ ⟨Nat.zero_le _,fun h=>by (cases h),fun _=>rfl⟩ fun x hx=>?_
  ·refine aO.ak rfl ?_ ?_<;>simp only [go_sem,Int.natCast_succ]
   all_goals first|rfl|exact ⟨rfl,rfl⟩
  obtain ⟨y,u⟩:=x
  obtain ⟨hy,hu1,hu2⟩:=hx
  dsimp only at hy hu1 hu2 ⊢
  have hbly:=bl y hy
  have hmy:41*(w+1)*y≤41*(w+1)*h:=Nat.mul_le_mul_left _ hy
  by_cases hylt:y<h
  rotate_left
  ·have f1:((y:Int)<(h:Int))=False:=eq_false (by omega)
   have e:y=h:=by omega
   subst e
   have k2:=zk (iI w p y) (by omega)
   cases u with
   | true=>
    have kst:=gU (iI w p y) (hu1 rfl)
    simp only [cond_true,cond_false,List.cons_append,List.nil_append]
    (repeat' with_reducible first|intro _|refine rz ?_|refine ra ?_ ?_|omega|simp only [go_sem,f1])
    refine ah.i [1,2] kst 2 ?_
    (repeat' with_reducible first|intro _|exact dn|refine rn ?_|refine ra ?_ ?_)
    refine ah.o k2 1 ?_
    (repeat' with_reducible first|intro _|exact dn|refine rn ?_|refine ra ?_ ?_)
    refine aV.auto 1 ?_ rfl ?_<;>simp only [go_sem,Int.natCast_succ,Post]
   | false=>
    have hz:=hu2 rfl
    rw [hz] at k2 ⊢
    have kst:=fP
    simp only [cond_true,cond_false,List.cons_append,List.nil_append]
    (repeat' with_reducible first|intro _|refine rz ?_|refine ra ?_ ?_|omega|simp only [go_sem,f1])
    refine ah.i [1] kst 1 ?_
    (repeat' with_reducible first|intro _|exact dn|refine rn ?_|refine ra ?_ ?_)
    refine ah.o k2 1 ?_
    (repeat' with_reducible first|intro _|exact dn|refine rn ?_|refine ra ?_ ?_)
    refine aV.auto 1 ?_ rfl ?_<;>simp only [go_sem,Int.natCast_succ,Post]
  have f1:((y:Int)<(h:Int))=True:=eq_true (by omega)
  have hl:=gq hp hylt
  have kr:=Sj w h hw hh p hp y hylt
  have kn:=Uz (rowP w p y) (by omega)
  obtain ⟨n1,n2⟩:=uy (rowP w p y)
  have hsucc:=qj w p y
  have hbly2:=bl (y+1) (by omega)
  have hrr:(bC (rowP w p y) (rowP w p y).length).1=iH (rowP w p y):=rfl
  rw [hrr] at kn
  generalize hL:iH (rowP w p y)=L at *
  generalize rowP w p y=rw_ at *
  generalize iI w p y=o0 at *
  (repeat' with_reducible first|intro _|refine rz ?_|refine ra ?_ ?_|omega|simp only [go_sem,f1])
  refine ah.QX (.ro (.bools rw_)) kr (by simp only [aJ,aP,bH,aU,aF,List.drop_zero,lk,reduceIte,reduceCtorEq,Nat.reduceEqDiff,Option.some.injEq,Item.row.injEq,Item.box.injEq,AV.ro.injEq,exists_eq_left,exists_and_left,exists_eq_left',exists_eq_right,and_assoc,and_true,true_and,List.cons.injEq,exists_eq',exists_eq]) (by simp [dN,aP,aU,bH,aF,lk,aJ]) rfl ?_
  (repeat' with_reducible first|intro _|exact dn|refine rn ?_|refine ra ?_ ?_)
  refine ah.ro (.ro (.ints .i64 L)) (dh.eG kn rfl (by simp [fZ,gQ,jA,iP,lQ])) (by simp only [aJ,aP,bH,aU,aF,List.drop_zero,lk,reduceIte,reduceCtorEq,Nat.reduceEqDiff,Option.some.injEq,Item.row.injEq,Item.box.injEq,AV.ro.injEq,exists_eq_left,exists_and_left,exists_eq_left',exists_eq_right,and_assoc,and_true,true_and,List.cons.injEq,exists_eq',exists_eq]) (by simp [dN,aP,aU,bH,aF,lk,aJ]) rfl ?_
  (repeat' with_reducible first|intro _|exact dn|refine rn ?_|refine ra ?_ ?_)
  refine aI.intro (fun x:DR=>⟨63,[(51,.int .i64 x.j),(50,.int .i64 L.length),(49,.ro (.ints .i64 L)),(43,.int .i64 y),(42,.int .i64 h),(5,.ptr 1 0),(2,.ptr 0 0)],(0,.box 24 [.int .i64 w,.int .i64 h,.ro (.bools p)])::(bif x.u then [(1,.box 89 [.ptr 1 0,.own 2]),(2,.row 5 (.ints .u8 (aj (o0++dw (L.take x.j)))))] else [(1,.box 89 [.raw (.pointer none),.nilS])]),bif x.u then 3 else 2⟩) (fun x=>x.j≤L.length∧BU (o0++dw (L.take x.j)) x.u) (fun x=>L.length - x.j) ⟨0,u⟩ ?_ ⟨Nat.zero_le _,by
   have e:o0++dw (L.take 0)=o0:=by simp [dw]
   rw [e];exact ⟨hu1,hu2⟩⟩ fun x hx=>?_
  ·have e:dw []=[]:=rfl
   cases u<;>(simp only [cond_true,cond_false];refine aO.ak rfl ?_ ?_<;>simp only [go_sem,Int.natCast_succ,e])
   all_goals first|rfl|exact ⟨rfl,rfl⟩
  obtain ⟨j,v⟩:=x
  obtain ⟨hj,hv1,hv2⟩:=hx
  dsimp only at hj hv1 hv2 ⊢
  have hgl:(dw (L.take j)).length≤41*4001:=by
   have h1:=yT (l:=L.take j) fun x hx=>by have:=n2 x (List.mem_of_mem_take hx);omega
   have h2:(L.take j).length≤4001:=by rw [List.length_take];omega
   omega
  have hbq:41*(w+1)*y≤100000000:=by omega
  by_cases hjlt:j<L.length
  rotate_left
  ·have fj:((j:Int)<(L.length:Int))=False:=eq_false (by omega)
   have hjl:L.take j=L:=List.take_of_length_le (by omega)
   rw [hjl] at hv1 hv2 ⊢
   cases v <;>
    (simp only [cond_true,cond_false,List.cons_append,List.nil_append]
     (repeat' with_reducible first|intro _|refine rz ?_|refine ra ?_ ?_|omega|simp only [go_sem,fj]))
   ·refine ⟨⟨y+1,false⟩,aO.ak rfl ?_ ?_,⟨by dsimp only;omega,by rw [hsucc];exact ⟨hv1,hv2⟩⟩,by dsimp only;omega⟩<;>simp only [go_sem,Int.natCast_succ,hsucc]
    all_goals first|rfl|exact ⟨rfl,rfl⟩
   ·refine ⟨⟨y+1,true⟩,aO.ak rfl ?_ ?_,⟨by dsimp only;omega,by rw [hsucc];exact ⟨hv1,hv2⟩⟩,by dsimp only;omega⟩<;>simp only [go_sem,Int.natCast_succ,hsucc]
    all_goals first|rfl|exact ⟨rfl,rfl⟩
  have fj:((j:Int)<(L.length:Int))=True:=eq_true (by omega)
  have htk:=Ep hjlt
  have hnb:=n2 (L.getD j 0) (by rw [getD_lt hjlt];exact List.getElem_mem hjlt)
  have kg:=sQ (L.getD j 0+1).toNat (by omega)
  rw [show (((L.getD j 0+1).toNat:Nat):Int)=L.getD j 0+1 by omega] at kg
  have hgp:=OH (L.getD j 0+1).toNat
  have hgs:=cZ (n:=(L.getD j 0+1).toNat) (by omega)
  generalize dR (L.getD j 0+1).toNat=g at *
  generalize hn0:L.getD j 0=n0 at *
  cases v with
  | true=>
   have kw2:=gB (o0++dw (L.take j)) g (by rw [List.length_append];omega) (by omega)
   simp only [cond_true,cond_false,List.cons_append,List.nil_append]
   (repeat' with_reducible first|intro _|refine rz ?_|refine ra ?_ ?_|omega|simp only [go_sem,fj,hn0])
   refine ah.k kg ?_
   (repeat' with_reducible first|intro _|exact dn|refine rn ?_|refine ra ?_ ?_)
   refine ah.i [1,2] kw2 3 ?_
   (repeat' with_reducible first|intro _|exact dn|refine rn ?_|refine ra ?_ ?_)
   refine ⟨⟨j+1,true⟩,aO.ak rfl ?_ ?_,⟨by dsimp only;omega,fun _=>by dsimp only;rw [htk,List.length_append,List.length_append];omega,fun h=>by (cases h)⟩,by dsimp only;omega⟩<;>simp only [go_sem,Int.natCast_succ,htk,List.append_assoc]
   all_goals first|rfl|exact ⟨rfl,rfl⟩
  | false=>
   have hz:=hv2 rfl
   have kw2:=fG g (by omega)
   simp only [cond_true,cond_false,List.cons_append,List.nil_append]
   (repeat' with_reducible first|intro _|refine rz ?_|refine ra ?_ ?_|omega|simp only [go_sem,fj,hn0])
   refine ah.k kg ?_
   (repeat' with_reducible first|intro _|exact dn|refine rn ?_|refine ra ?_ ?_)
   refine ah.i [1] kw2 2 ?_
   (repeat' with_reducible first|intro _|exact dn|refine rn ?_|refine ra ?_ ?_)
   have hz2:o0++dw (L.take (j+1))=g:=by rw [htk,←List.append_assoc,hz,List.nil_append]
   refine ⟨⟨j+1,true⟩,aO.ak rfl ?_ ?_,⟨by dsimp only;omega,fun _=>by dsimp only;rw [hz2];omega,fun h=>by (cases h)⟩,by dsimp only;omega⟩<;>simp only [go_sem,Int.natCast_succ,hz2]
   all_goals first|rfl|exact ⟨rfl,rfl⟩
 have e:bQ w h p kind=jr (dZ w p h):=by unfold bQ;rw [if_neg c1,if_neg c4,if_neg c2]
 rw [e]
 have g2:(kind=2)=False:=eq_false c2
 have bl:=qJ hw hp
 (repeat' with_reducible first|intro _|refine rz ?_|refine ra ?_ ?_|omega|simp only [go_sem,g1,g4,g2])
 refine aI.intro (fun x:DX=>⟨63,[(17,.int .i64 x.y),(16,.int .i64 h),(9,.ro (.bools (rC w p x.y))),(5,.ptr 1 0),(2,.ptr 0 0)],(0,.box 24 [.int .i64 w,.int .i64 h,.ro (.bools p)])::(bif x.u then [(1,.box 89 [.ptr 1 0,.own 2]),(2,.row 5 (.ints .u8 (aj (dZ w p x.y))))] else [(1,.box 89 [.raw (.pointer none),.nilS])]),bif x.u then 3 else 2⟩) (fun x=>x.y≤h∧BU (dZ w p x.y) x.u) (fun x=>h - x.y) ⟨0,false⟩ ?_ ⟨Nat.zero_le _,fun h=>by (cases h),fun _=>rfl⟩ fun x hx=>?_
 ·have e0:rC w p 0=List.replicate w false:=rfl
  refine aO.trans (aO.fz 3 (e:=4) (r:=.bools (List.replicate w false)) rfl rfl (Nat.zero_le _)) (aO.ak rfl ?_ ?_)<;>simp only [go_sem,Int.natCast_succ,e0]
  all_goals first|rfl|exact ⟨rfl,rfl⟩|trace_state
 obtain ⟨y,u⟩:=x
 obtain ⟨hy,hu1,hu2⟩:=hx
 dsimp only at hy hu1 hu2 ⊢
 have hbly:=bl y hy
 have hmy:100*(w+1)*y≤100*(w+1)*h:=Nat.mul_le_mul_left _ hy
 by_cases hylt:y<h
 rotate_left
 ·have f1:((y:Int)<(h:Int))=False:=eq_false (by omega)
  have e:y=h:=by omega
  subst e
  have k2:=zk (dZ w p y) (by omega)
  cases u with
  | true=>
   have kst:=gU (dZ w p y) (hu1 rfl)
   simp only [cond_true,cond_false,List.cons_append,List.nil_append]
   (repeat' with_reducible first|intro _|refine rz ?_|refine ra ?_ ?_|omega|simp only [go_sem,f1])
   refine ah.i [1,2] kst 2 ?_
   (repeat' with_reducible first|intro _|exact dn|refine rn ?_|refine ra ?_ ?_)
   refine ah.o k2 1 ?_
   (repeat' with_reducible first|intro _|exact dn|refine rn ?_|refine ra ?_ ?_)
   refine aV.auto 1 ?_ rfl ?_<;>simp only [go_sem,Int.natCast_succ,Post]
  | false=>
   have hz:=hu2 rfl
   rw [hz] at k2 ⊢
   have kst:=fP
   simp only [cond_true,cond_false,List.cons_append,List.nil_append]
   (repeat' with_reducible first|intro _|refine rz ?_|refine ra ?_ ?_|omega|simp only [go_sem,f1])
   refine ah.i [1] kst 1 ?_
   (repeat' with_reducible first|intro _|exact dn|refine rn ?_|refine ra ?_ ?_)
   refine ah.o k2 1 ?_
   (repeat' with_reducible first|intro _|exact dn|refine rn ?_|refine ra ?_ ?_)
   refine aV.auto 1 ?_ rfl ?_<;>simp only [go_sem,Int.natCast_succ,Post]
 have f1:((y:Int)<(h:Int))=True:=eq_true (by omega)
 have hl:=gq hp hylt
 have hul:=Bv hp hylt
 have kr:=Sj w h hw hh p hp y hylt
 have kl:=OZ (rowP w p y) (rC w p y) (by omega) (by omega)
 have hll:=wH (row:=rowP w p y) (above:=rC w p y) (by omega) (by omega)
 have hlp:0<(eu (rowP w p y) (rC w p y)).length:=Gt (by omega) (by omega) (by omega)
 have hsucc:=oJ w p y
 have hbly2:=bl (y+1) (by omega)
 have hup:rC w p (y+1)=rowP w p y:=by unfold rC;rw [if_neg (by omega)];rfl
 generalize eu (rowP w p y) (rC w p y)=lb at *
 generalize rowP w p y=rw_ at *
 generalize hup0:rC w p y=ab at *
 generalize hlb0:dZ w p y=o0 at *
 cases u with
 | true=>
  have kw2:=gB o0 lb (by omega) (by omega)
  simp only [cond_true,cond_false,List.cons_append,List.nil_append]
  (repeat' with_reducible first|intro _|refine rz ?_|refine ra ?_ ?_|omega|simp only [go_sem,f1])
  refine ah.QX (.ro (.bools rw_)) kr (by simp only [aJ,aP,bH,aU,aF,List.drop_zero,lk,reduceIte,reduceCtorEq,Nat.reduceEqDiff,Option.some.injEq,Item.row.injEq,Item.box.injEq,AV.ro.injEq,exists_eq_left,exists_and_left,exists_eq_left',exists_eq_right,and_assoc,and_true,true_and,List.cons.injEq,exists_eq',exists_eq]) (by simp [dN,aP,aU,bH,aF,lk,aJ]) rfl ?_
  (repeat' with_reducible first|intro _|exact dn|refine rn ?_|refine ra ?_ ?_)
  refine ah.k kl ?_
  (repeat' with_reducible first|intro _|exact dn|refine rn ?_|refine ra ?_ ?_)
  refine ah.i [1,2] kw2 3 ?_
  (repeat' with_reducible first|intro _|exact dn|refine rn ?_|refine ra ?_ ?_)
  refine ah.QX (.ro (.bools rw_)) kr (by simp only [aJ,aP,bH,aU,aF,List.drop_zero,lk,reduceIte,reduceCtorEq,Nat.reduceEqDiff,Option.some.injEq,Item.row.injEq,Item.box.injEq,AV.ro.injEq,exists_eq_left,exists_and_left,exists_eq_left',exists_eq_right,and_assoc,and_true,true_and,List.cons.injEq,exists_eq',exists_eq]) (by simp [dN,aP,aU,bH,aF,lk,aJ]) rfl ?_
  (repeat' with_reducible first|intro _|exact dn|refine rn ?_|refine ra ?_ ?_)
  refine ⟨⟨y+1,true⟩,aO.ak rfl ?_ ?_,⟨by dsimp only;omega,fun _=>by dsimp only;rw [hsucc,List.length_append];omega,fun h=>by (cases h)⟩,by dsimp only;omega⟩<;>simp only [go_sem,Int.natCast_succ,hsucc,hup]
  all_goals first|rfl|exact ⟨rfl,rfl⟩
 | false=>
  have kw2:=fG lb (by omega)
  simp only [cond_true,cond_false,List.cons_append,List.nil_append]
  (repeat' with_reducible first|intro _|refine rz ?_|refine ra ?_ ?_|omega|simp only [go_sem,f1])
  refine ah.QX (.ro (.bools rw_)) kr (by simp only [aJ,aP,bH,aU,aF,List.drop_zero,lk,reduceIte,reduceCtorEq,Nat.reduceEqDiff,Option.some.injEq,Item.row.injEq,Item.box.injEq,AV.ro.injEq,exists_eq_left,exists_and_left,exists_eq_left',exists_eq_right,and_assoc,and_true,true_and,List.cons.injEq,exists_eq',exists_eq]) (by simp [dN,aP,aU,bH,aF,lk,aJ]) rfl ?_
  (repeat' with_reducible first|intro _|exact dn|refine rn ?_|refine ra ?_ ?_)
  refine ah.k kl ?_
  (repeat' with_reducible first|intro _|exact dn|refine rn ?_|refine ra ?_ ?_)
  refine ah.i [1] kw2 2 ?_
  (repeat' with_reducible first|intro _|exact dn|refine rn ?_|refine ra ?_ ?_)
  refine ah.QX (.ro (.bools rw_)) kr (by simp only [aJ,aP,bH,aU,aF,List.drop_zero,lk,reduceIte,reduceCtorEq,Nat.reduceEqDiff,Option.some.injEq,Item.row.injEq,Item.box.injEq,AV.ro.injEq,exists_eq_left,exists_and_left,exists_eq_left',exists_eq_right,and_assoc,and_true,true_and,List.cons.injEq,exists_eq',exists_eq]) (by simp [dN,aP,aU,bH,aF,lk,aJ]) rfl ?_
  (repeat' with_reducible first|intro _|exact dn|refine rn ?_|refine ra ?_ ?_)
  have hz2:dZ w p (y+1)=lb:=by rw [hsucc,hu2 rfl,List.nil_append]
  refine ⟨⟨y+1,true⟩,aO.ak rfl ?_ ?_,⟨by dsimp only;omega,fun _=>by dsimp only;rw [hz2];exact hlp,fun h=>by (cases h)⟩,by dsimp only;omega⟩<;>simp only [go_sem,Int.natCast_succ,hz2,hup]
  all_goals first|rfl|exact ⟨rfl,rfl⟩
def dO:List Int→Int
 | []=>0
 | e::l=>if e=0 then dO l else e
set_option maxHeartbeats 2000000 in
theorem iK (l:List Int) (hl:l.length≤1000):aA Tryz.prog 28 [.ro (.ints .i64 l)] (.int .i64 (dO l)) []:=by
 refine aA.aG Tryz.func28 rfl (by decide) (by simp [Tryz.f28]) [.tmp 2] rfl fun w0 T0 _=>?_
 simp only [Tryz.f28,au]
 (repeat' with_reducible first|intro _|exact dn|refine rn ?_|refine ra ?_ ?_)
 refine aI.intro (fun i:Nat=>⟨15,[(7,.int .i64 i),(6,.int .i64 l.length),(5,.ro (.ints .i64 l))],[],0⟩) (fun i=>i≤l.length∧dO (l.drop i)=dO l) (fun i=>l.length - i) 0 ?_ ⟨Nat.zero_le _,rfl⟩ fun i hi=>?_
 ·refine aO.ak rfl ?_ ?_<;>simp only [go_sem,Int.natCast_succ]
 obtain ⟨hi,he⟩:=hi
 (repeat' with_reducible first|intro _|exact dn|refine rn ?_|refine ra ?_ ?_)
 ·have hlt:i<l.length:=by omega
  have hd:l.drop i=l.getD i 0::l.drop (i+1):=by rw [List.drop_eq_getElem_cons hlt,getD_lt hlt]
  rw [hd,dO,if_neg (by omega)] at he
  rw [←he]
  refine aV.auto 0 ?_ rfl ?_<;>simp only [go_sem,Int.natCast_succ,Post]
 ·have hlt:i<l.length:=by omega
  have hd:l.drop i=l.getD i 0::l.drop (i+1):=by rw [List.drop_eq_getElem_cons hlt,getD_lt hlt]
  rw [hd,dO,if_pos (by omega)] at he
  refine ⟨i+1,aO.ak rfl ?_ ?_,⟨by omega,he⟩,by omega⟩<;>simp only [go_sem,Int.natCast_succ]
  all_goals rfl
 ·have e:i=l.length:=by omega
  subst e
  rw [List.drop_length] at he
  rw [←he]
  refine aV.auto 0 ?_ rfl ?_<;>simp only [go_sem,Int.natCast_succ,Post,dO]
set_option maxHeartbeats 4000000 in
theorem nN (w h:Int):aA Tryz.prog 72 [.int .i64 w,.int .i64 h] (.int .i64 (aS w h)) []:=by
 refine aA.aG Tryz.func72 rfl (by decide) (by simp [Tryz.f72]) [.tmp 4] rfl fun w0 T0 _=>?_
 simp only [Tryz.f72,au]
 by_cases hw:1≤w∧w≤4000
 ·by_cases hh:1≤h∧h≤4000
  ·have hm1:0≤w*h:=Int.mul_nonneg (by omega) (by omega)
   have hm2:w*h≤4000*4000:=Int.mul_le_mul hw.2 hh.2 (by omega) (by omega)
   have e:aS w h=dO [if false=true then 3 else 0,if decide (1048576<w*h)=true then 4 else 0]:=by
    unfold aS
    rw [if_neg (by omega)]
    by_cases hc:1048576<w*h<;>simp [dO,hc]
   rw [e]
   (repeat' with_reducible first|intro _|exact dn|refine rn ?_|refine ra ?_ ?_)
   refine ah.k (gK w 1 4000) ?_
   rw [decide_eq_true hw]
   (repeat' with_reducible first|intro _|exact dn|refine rn ?_|refine ra ?_ ?_)
   refine ah.k (gK h 1 4000) ?_
   rw [decide_eq_true hh]
   (repeat' with_reducible first|intro _|exact dn|refine rn ?_|refine ra ?_ ?_)
   refine ah.k (dP false 3) ?_
   (repeat' with_reducible first|intro _|exact dn|refine rn ?_|refine ra ?_ ?_)
   refine ah.k (gK w 1 4000) ?_
   rw [decide_eq_true hw]
   (repeat' with_reducible first|intro _|exact dn|refine rn ?_|refine ra ?_ ?_)
   refine ah.k (gK h 1 4000) ?_
   rw [decide_eq_true hh]
   (repeat' with_reducible first|intro _|exact dn|refine rn ?_|refine ra ?_ ?_)
   refine ah.fr (dh.eG (dP (decide (1048576<w*h)) 4) rfl rfl) (by simp only [aJ,aP,bH,aU,aF,List.drop_zero,lk,reduceIte,reduceCtorEq,Nat.reduceEqDiff,Option.some.injEq,Item.row.injEq,Item.box.injEq,AV.ro.injEq,exists_eq_left,exists_and_left,exists_eq_left',exists_eq_right,and_assoc,and_true,true_and,List.cons.injEq,exists_eq',exists_eq]) 0 rfl (by simp [iL]) ?_
   generalize hx:(if decide (1048576<w*h)=true then (4:Int) else 0)=x
   (repeat' with_reducible first|intro _|exact dn|refine rn ?_|refine ra ?_ ?_)
   refine ah.k (iK [0,x] (by simp)) ?_
   (repeat' with_reducible first|intro _|exact dn|refine rn ?_|refine ra ?_ ?_)
   refine aV.auto 0 ?_ rfl ?_<;>simp only [go_sem,Int.natCast_succ,Post]
  ·have e:aS w h=dO [3,0]:=by
    unfold aS
    rw [if_pos (by omega)];rfl
   rw [e]
   (repeat' with_reducible first|intro _|exact dn|refine rn ?_|refine ra ?_ ?_)
   refine ah.k (gK w 1 4000) ?_
   rw [decide_eq_true hw]
   (repeat' with_reducible first|intro _|exact dn|refine rn ?_|refine ra ?_ ?_)
   refine ah.k (gK h 1 4000) ?_
   rw [decide_eq_false hh]
   (repeat' with_reducible first|intro _|exact dn|refine rn ?_|refine ra ?_ ?_)
   refine ah.k (dP true 3) ?_
   (repeat' with_reducible first|intro _|exact dn|refine rn ?_|refine ra ?_ ?_)
   refine ah.k (gK w 1 4000) ?_
   rw [decide_eq_true hw]
   (repeat' with_reducible first|intro _|exact dn|refine rn ?_|refine ra ?_ ?_)
   refine ah.k (gK h 1 4000) ?_
   rw [decide_eq_false hh]
   (repeat' with_reducible first|intro _|exact dn|refine rn ?_|refine ra ?_ ?_)
   refine ah.k (dP false 4) ?_
   (repeat' with_reducible first|intro _|exact dn|refine rn ?_|refine ra ?_ ?_)
   refine ah.k (iK [3,0] (by simp)) ?_
   (repeat' with_reducible first|intro _|exact dn|refine rn ?_|refine ra ?_ ?_)
   refine aV.auto 0 ?_ rfl ?_<;>simp only [go_sem,Int.natCast_succ,Post]
 ·have e:aS w h=dO [3,0]:=by
   unfold aS
   rw [if_pos (by omega)];rfl
  rw [e]
  (repeat' with_reducible first|intro _|exact dn|refine rn ?_|refine ra ?_ ?_)
  refine ah.k (gK w 1 4000) ?_
  rw [decide_eq_false hw]
  (repeat' with_reducible first|intro _|exact dn|refine rn ?_|refine ra ?_ ?_)
  refine ah.k (dP true 3) ?_
  (repeat' with_reducible first|intro _|exact dn|refine rn ?_|refine ra ?_ ?_)
  refine ah.k (gK w 1 4000) ?_
  rw [decide_eq_false hw]
  (repeat' with_reducible first|intro _|exact dn|refine rn ?_|refine ra ?_ ?_)
  refine ah.k (dP false 4) ?_
  (repeat' with_reducible first|intro _|exact dn|refine rn ?_|refine ra ?_ ?_)
  refine ah.k (iK [3,0] (by simp)) ?_
  (repeat' with_reducible first|intro _|exact dn|refine rn ?_|refine ra ?_ ?_)
  refine aV.auto 0 ?_ rfl ?_<;>simp only [go_sem,Int.natCast_succ,Post]
end Go.Fv.H
/- shrink.encode, Encode, best: the walk. -/
namespace Go.Fv.H
open Go Go.Proofs
theorem mX (s:Bytes):(jr s).length=(s.length+7) / 8:=xu _ _
theorem Pq (w h:Nat) (p:List Bool):(rE w h p).length≤4+p.length:=by
 unfold rE
 rw [aX]
 have:=Oc w h p p.length
 omega
theorem FW {w h:Nat} (hw:w≤4000) (hh:h≤4000) (hwh:w*h≤1048576) {p:List Bool} (hp:p.length=w*h) (kind:Int):(bQ w h p kind).length≤100000000:=by
 have b1:41*(w+1)*h≤100000000:=by
  have:(w+1)*h≤1052576:=by rw [Nat.add_mul,Nat.one_mul];omega
  rw [Nat.mul_assoc];omega
 have b2:100*(w+1)*h≤200000000:=by
  have:(w+1)*h≤1052576:=by rw [Nat.add_mul,Nat.one_mul];omega
  rw [Nat.mul_assoc];omega
 have h1:=uT hw hp h (Nat.le_refl _)
 have h2:=qJ hw hp h (Nat.le_refl _)
 have h3:=Pq w h p
 unfold bQ
 split
 ·rw [mX,jH];omega
 ·split
  ·omega
  ·split
   ·rw [mX];omega
   ·rw [mX];omega
set_option maxHeartbeats 8000000 in
theorem zh (w h:Nat) (hw0:0<w) (hw:w≤4000) (hh:h≤4000) (hwh:w*h≤1048576) (p:List Bool) (hp:p.length=w*h) (kind:Int) (hk:1≤kind∧kind≤4) :
  aA Tryz.prog 69 [.agg [.int .i64 w,.int .i64 h,.ro (.bools p)],.int .i64 kind] (.str (fE w h p kind)) []:=by
 have hdl:=FW hw hh hwh hp kind
 have kd:=PD w h hw0 hw hh hwh p hp kind
 have n1:=Ic kind kind.toNat 1 (.inl (by omega)) (by omega) (by omega) (by decide)
 have n2:=Ic (w:Int) w 2 (.inl rfl) (by omega) (by omega) (by decide)
 have n3:=Ic (h:Int) h 2 (.inl rfl) (by omega) (by omega) (by decide)
 have n4:=Ic ((bQ w h p kind).length:Int) (bQ w h p kind).length 4 (.inl rfl) (by omega) (by omega) (by decide)
 rw [show ((1:Nat):Int)=1 from rfl] at n1
 rw [show ((2:Nat):Int)=2 from rfl] at n2 n3
 rw [show ((4:Nat):Int)=4 from rfl] at n4
 have henc:fE w h p kind=headB w h p kind++dU (headB w h p kind):=rfl
 have hhead:headB w h p kind=dX 1 kind.toNat++dX 2 w++dX 2 h++dX 4 (bQ w h p kind).length++bQ w h p kind:=rfl
 have hhl:(headB w h p kind).length=9+(bQ w h p kind).length:=by
  rw [hhead];simp only [List.length_append,aX]
 have ks:=nU (headB w h p kind) (by omega)
 have hsl:=xK (headB w h p kind)
 rw [henc]
 have l1:=aX 1 kind.toNat
 have l2:=aX 2 w
 have l3:=aX 2 h
 have l4:=aX 4 (bQ w h p kind).length
 have hbl:=cO (bQ w h p kind)
 have hbk:=iG (bQ w h p kind)
 generalize headB w h p kind=hd at *
 generalize dX 1 kind.toNat=x1 at *
 generalize dX 2 w=x2 at *
 generalize dX 2 h=x3 at *
 generalize dX 4 (bQ w h p kind).length=x4 at *
 generalize bQ w h p kind=dt at *
 refine aA.aG Tryz.func69 rfl (by decide) (by simp [Tryz.f69]) [.tmp 4] rfl fun w0 T0 _=>?_
 simp only [Tryz.f69,au]
 (repeat' with_reducible first|intro _|exact dn|refine rn ?_|refine ra ?_ ?_)
 refine ah.o kd 1 ?_
 (repeat' with_reducible first|intro _|exact dn|refine rn ?_|refine ra ?_ ?_)
 refine aQ.lex [] [] (by kernel_rfl) (by kernel_rfl) ?_
 (repeat' with_reducible first|intro _|exact dn|refine rn ?_|refine ra ?_ ?_)
 (refine QV.intro (.str x1) ?_ ?_;focus ((repeat' with_reducible first|intro _|exact dn|refine rn ?_|refine ra ?_ ?_);refine ah.k (n1) ?_;(repeat' with_reducible first|intro _|exact dn|refine rn ?_|refine ra ?_ ?_)))
 (repeat' with_reducible first|intro _|exact dn|refine rn ?_|refine ra ?_ ?_)
 (refine QV.intro (.str x2) ?_ ?_;focus ((repeat' with_reducible first|intro _|exact dn|refine rn ?_|refine ra ?_ ?_);refine ah.k (n2) ?_;(repeat' with_reducible first|intro _|exact dn|refine rn ?_|refine ra ?_ ?_)))
 (repeat' with_reducible first|intro _|exact dn|refine rn ?_|refine ra ?_ ?_)
 (refine QV.intro (.str x3) ?_ ?_;focus ((repeat' with_reducible first|intro _|exact dn|refine rn ?_|refine ra ?_ ?_);refine ah.k (n3) ?_;(repeat' with_reducible first|intro _|exact dn|refine rn ?_|refine ra ?_ ?_)))
 (repeat' with_reducible first|intro _|refine rz ?_|refine ra ?_ ?_|omega|simp only [go_sem,hbl])
 (refine QV.intro (.str x4) ?_ ?_;focus ((repeat' with_reducible first|intro _|exact dn|refine rn ?_|refine ra ?_ ?_);refine ah.k (n4) ?_;(repeat' with_reducible first|intro _|exact dn|refine rn ?_|refine ra ?_ ?_)))
 (repeat' with_reducible first|intro _|refine rz ?_|refine ra ?_ ?_|omega|simp only [go_sem,hbl,hbk])
 rw [←hhead]
 refine ah.k ks ?_
 (repeat' with_reducible first|intro _|exact dn|refine rn ?_|refine ra ?_ ?_)
 refine aV.auto 0 ?_ rfl ?_<;>simp only [go_sem,Int.natCast_succ,Post]
end Go.Fv.H
/- shrink.Encode, Context, Best: the walk. -/
namespace Go.Fv.H
open Go Go.Proofs
structure oV (w h:Nat) (p:List Bool):Prop where
 w0:0<w
 w1:w≤4000
 h0:0<h
 h1:h≤4000
 wh:w*h≤1048576
 p:p.length=w*h
theorem oV.err {w h:Nat} {p:List Bool} (g:oV w h p):tY w h p.length=0:=by
 obtain ⟨g1,g2,g3,g4,g5,g6⟩:=g
 unfold tY
 have e:((w:Int)*(h:Int))=((w*h:Nat):Int):=(Int.natCast_mul w h).symm
 rw [vW (by omega) (by omega) (by omega) (by omega) (by rw [e];omega),g6,e]
 simp
theorem kU (kind:Int):aA Tryz.prog 66 [.int .i64 kind] (.bool (decide (1≤kind∧kind≤4))) []:=by
 refine aA.aG Tryz.func66 rfl (by decide) (by simp [Tryz.f66]) [.tmp 2] rfl fun w0 T0 _=>?_
 simp only [Tryz.f66,au]
 (repeat' with_reducible first|intro _|exact dn|refine rn ?_|refine ra ?_ ?_)
 refine aV.auto 0 ?_ rfl ?_<;>simp only [go_sem,Int.natCast_succ,Post]
end Go.Fv.H
/- Reading a number, step by step. -/
namespace Go.Fv.H
open Go
theorem zu (c:UInt8) (s:Bytes):aH (c::s)=if c=48 then aH s+1 else 0:=by
 unfold aH
 rw [List.takeWhile_cons]
 by_cases h:c=48
 ·rw [if_pos h,if_pos (by simp [RV,h]),List.length_cons]
 ·rw [if_neg h,if_neg (by simp [RV,h])];rfl
theorem IB:∀ s:Bytes,aH s≤s.length
 | []=>Nat.le_refl _
 | c::s=>by
  have:=IB s
  rw [zu,List.length_cons];split<;>omega
theorem Ho:∀ (s:Bytes) (i:Nat),i<aH s→s.getD i 0=48
 | [],i,h=>by cases h
 | c::s,i,h=>by
  rw [zu] at h
  split at h
  ·rename_i hc
   cases i with
   | zero=>simpa using hc
   | succ i=>simpa using Ho s i (by omega)
  ·omega
theorem yJ:∀ s:Bytes,aH s<s.length→s.getD (aH s) 0≠48
 | [],h=>by cases h
 | c::s,h=>by
  rw [zu] at h ⊢
  split
  ·rename_i hc
   rw [if_pos hc,List.length_cons] at h
   simpa using yJ s (by omega)
  ·rename_i hc
   simpa using hc
theorem JA {s:Bytes} (h:2*aH s+1≤s.length):((s.drop (aH s)).take (aH s+1)).length=aH s+1∧((s.drop (aH s)).take (aH s+1)).getD 0 0=s.getD (aH s) 0:=by
 refine ⟨by rw [List.length_take,List.length_drop];omega,?_⟩
 rw [List.getD_eq_getElem?_getD,List.getElem?_take,if_pos (by omega),List.getElem?_drop,List.getD_eq_getElem?_getD,Nat.add_zero]
theorem YQ {c:UInt8} (h:fK c=true):c.toNat - 48≤1:=by
 have h3:c=48∨c=49:=by simpa [fK] using h
 rcases h3 with rfl|rfl<;>decide
theorem OY:∀ (l:Bytes) (a:Nat),l.all fK=true→l.foldl (fun a c=>2*a+(c.toNat - 48)) a+1≤(a+1)*2 ^ l.length
 | [],a,_=>by simp
 | c::l,a,h=>by
  rw [List.all_cons,Bool.and_eq_true] at h
  have h1:=YQ h.1
  have h2:=OY l (2*a+(c.toNat - 48)) h.2
  rw [List.foldl_cons,List.length_cons,Nat.pow_succ]
  have h3:(2*a+(c.toNat - 48)+1)*2 ^ l.length≤(2*(a+1))*2 ^ l.length:=Nat.mul_le_mul_right _ (by omega)
  have h4:2*(a+1)*2 ^ l.length=(a+1)*(2 ^ l.length*2):=by rw [Nat.mul_comm 2,Nat.mul_assoc,Nat.mul_comm 2]
  omega
theorem uw (l:Bytes) (h:l.all fK=true):ig l<2 ^ l.length:=by
 have:=OY l 0 h
 unfold ig
 omega
theorem zG {l:Bytes} {p:Nat} (h:p<l.length):ig (l.take (p+1))=2*ig (l.take p)+((l.getD p 0).toNat - 48):=by
 rw [List.take_succ_eq_append_getElem h,FI]
 simp [List.getD,h]
theorem Rh {l:Bytes} {p:Nat} (h:p<l.length):(l.take (p+1)).all fK=((l.take p).all fK && fK (l.getD p 0)):=by
 rw [List.take_succ_eq_append_getElem h,List.all_append]
 simp [List.getD,h]
theorem zA {l:Bytes} {p:Nat} (h:p<l.length) (ha:l.all fK=true):l.getD p 0=48∨l.getD p 0=49:=by
 have:=List.all_eq_true.1 ha (l.getD p 0) (by simp [List.getD,h])
 simpa [fK] using this
theorem VQ (c:UInt8):fK c=decide (c.toNat=48∨c.toNat=49):=by
 unfold fK
 have e1:c=48↔c.toNat=48:=UInt8.toNat_inj.symm
 have e2:c=49↔c.toNat=49:=UInt8.toNat_inj.symm
 simp only [e1,e2]
theorem RX {c:UInt8} {l:Bytes} (h:(c::l).getD 0 0=49):1≤ig (c::l):=by
 have hc:c=49:=by simpa using h
 subst hc
 have hm:∀ (l:Bytes) (a:Nat),1≤a→1≤l.foldl (fun a c=>2*a+(c.toNat - 48)) a:=by
  intro l
  induction l with
  | nil=>intro a h;exact h
  | cons d l ih=>intro a h;rw [List.foldl_cons];exact ih _ (by omega)
 exact hm l _ (by decide)
theorem nP {s:Bytes} (h:¬(aH s≤20∧2*aH s+1≤s.length∧((s.drop (aH s)).take (aH s+1)).all fK=true∧ig ((s.drop (aH s)).take (aH s+1))≤1048576)):oq s=none:=by
 unfold oq;rw [if_neg h]
theorem J8 {s:Bytes} (h:aH s≤20∧2*aH s+1≤s.length∧((s.drop (aH s)).take (aH s+1)).all fK=true∧ig ((s.drop (aH s)).take (aH s+1))≤1048576) :
  oq s=some (ig ((s.drop (aH s)).take (aH s+1)),2*aH s+1):=by
 unfold oq;rw [if_pos h]
def Aq (s:Bytes):Int:=match oq s with|some (n,_)=>n|none=>0
def Az (s:Bytes):Int:=match oq s with|some (_,m)=>m|none=>0
def Et (e:Int) (s:Bytes):Int:=match oq s with|some _=>0|none=>e
end Go.Fv.H
/- strconv.ParseInt in base 2. -/
namespace Go.Fv.H
open Go Go.Proofs
theorem Ob (l:Bytes):(aj l).length=l.length:=by unfold aj;rw [List.length_map]
theorem OA {b:Bytes} {i:Nat} (h:i<b.length):(aj b).getD i 0=((b.getD i 0).toNat:Int):=by
 unfold aj
 simp [List.getD,h]
set_option maxHeartbeats 4000000 in
theorem Qn (l:Bytes) (h1:l.all fK=true) (h0:l≠[]) (hl:l.length≤21) :
  aA Tryz.prog 136 [.str l,.int .i64 2,.int .i64 64] (.tup [.int .u64 (ig l),.raw .nilIface]) []:=by
 have hv:=uw l h1
 refine aA.aG Tryz.func136 rfl (by decide) (by simp [Tryz.f136]) [.tmp 6,.tmp 7] rfl fun w0 T0 _=>?_
 simp only [Tryz.f136,au]
 (repeat' with_reducible first|intro _|refine rz ?_|refine ra ?_ ?_|omega|simp only [go_sem,h0])
 refine bW.at 0 (by decide) ?_
 refine bW.at 18446744073709551615 (by decide) ?_
 (repeat' with_reducible first|intro _|exact dn|refine rn ?_|refine ra ?_ ?_)
 have hbl:=Ob l
 refine aI.intro (fun i:Nat=>⟨172,[(101,.int .i64 i),(100,.int .i64 l.length),(99,.own 0),(13,.int .u64 (ig (l.take i))),(12,.bool false),(11,.int .u64 18446744073709551615),(10,.int .u64 9223372036854775808),(9,.str l),(8,.bool false),(0,.str l),(1,.int .i64 2),(2,.int .i64 64)],[(0,.row 5 (.ints .u8 (aj l)))],1⟩) (fun i=>i≤l.length) (fun i=>l.length - i) 0 ?_ (Nat.zero_le _) fun i hi=>?_
 ·refine aO.ak rfl ?_ ?_<;>simp only [go_sem,Int.natCast_succ,hbl]
  rfl
 have hcut:l.take l.length=l:=List.take_length
 by_cases hlt:i<l.length
 ·have hb:(aj l).getD i 0=((l.getD i 0).toNat:Int):=OA hlt
  have hs:=zG hlt
  have ha:=zA hlt h1
  have hv2:=uw (l.take (i+1)) (by rw [List.all_eq_true] at h1 ⊢;intro x hx;exact h1 x (List.mem_of_mem_take hx))
  have hp:(2:Nat) ^ (l.take (i+1)).length≤2 ^ 21:=Nat.pow_le_pow_right (by decide) (by rw [List.length_take];omega)
  rw [show (2:Nat) ^ 21=2097152 from rfl] at hp
  have hc:(l.getD i 0).toNat=48∨(l.getD i 0).toNat=49:=by rcases ha with e|e<;>rw [e]<;>decide
  generalize l.getD i 0=c at *
  generalize ig (l.take i)=v at *
  have hcc:((c.toNat:Nat):Int) - 48=((c.toNat - 48:Nat):Int):=by omega
  generalize c.toNat=cn at *
  have f1:((cn:Int)=95)=False:=eq_false (by omega)
  have f2:(48≤(cn:Int))=True:=eq_true (by omega)
  have f3:((cn:Int)≤57)=True:=eq_true (by omega)
  (repeat' with_reducible first|intro _|refine rz ?_|refine ra ?_ ?_|omega|simp only [go_sem,hb,hbl,f1,f2,f3])
  refine ⟨i+1,aO.ak rfl ?_ ?_,by omega,by omega⟩<;>simp only [go_sem,Int.natCast_succ,hs]
  all_goals omega
 ·have e:i=l.length:=by omega
  subst e
  rw [hcut]
  (repeat' with_reducible first|intro _|refine rz ?_|refine ra ?_ ?_|omega|simp only [go_sem,hbl])
  refine aV.auto 0 ?_ rfl ?_<;>simp only [go_sem,Int.natCast_succ,Post]
theorem Qw (l:Bytes) (h1:l.all fK=true) (h0:l≠[]) (hl:l.length≤21) :
  aA Tryz.prog 183 [.str l,.int .i64 2,.int .i64 64] (.tup [.int .i64 (ig l),.raw .nilIface]) []:=by
 have k:=Qn l h1 h0 hl
 have hv:=uw l h1
 have hp:(2:Nat) ^ l.length≤2 ^ 21:=Nat.pow_le_pow_right (by decide) hl
 rw [show (2:Nat) ^ 21=2097152 from rfl] at hp
 have hlen:0<l.length:=List.length_pos_iff.2 h0
 have ha:=zA hlen h1
 have hc:(l.getD 0 0).toNat=48∨(l.getD 0 0).toNat=49:=by rcases ha with e|e<;>rw [e]<;>decide
 generalize ig l=v at *
 have f1:(((l.getD 0 0).toNat:Int)=43)=False:=eq_false (by omega)
 have f2:(((l.getD 0 0).toNat:Int)=45)=False:=eq_false (by omega)
 refine aA.aG Tryz.func183 rfl (by decide) (by simp [Tryz.f183]) [.tmp 6,.tmp 7] rfl fun w0 T0 _=>?_
 simp only [Tryz.f183,au]
 (repeat' with_reducible first|intro _|refine rz ?_|refine ra ?_ ?_|omega|simp only [go_sem,h0,f1,f2])
 refine ah.k k ?_
 (repeat' with_reducible first|intro _|exact dn|refine rn ?_|refine ra ?_ ?_)
 refine bW.at 9223372036854775808 (by decide) ?_
 (repeat' with_reducible first|intro _|exact dn|refine rn ?_|refine ra ?_ ?_)
 refine aV.auto 0 ?_ rfl ?_<;>simp only [go_sem,Int.natCast_succ,Post]
theorem Qs (l:Bytes) (h1:l.all fK=true) (h0:l≠[]) (hl:l.length≤21) :
  aA Tryz.prog 143 [.str l,.int .i64 2,.int .i64 64] (.tup [.int .i64 (ig l),.raw .nilIface]) []:=by
 have k:=Qw l h1 h0 hl
 refine aA.aG Tryz.func143 rfl (by decide) (by simp [Tryz.f143]) [.tmp 6,.tmp 7] rfl fun w0 T0 _=>?_
 simp only [Tryz.f143,au]
 (repeat' with_reducible first|intro _|exact dn|refine rn ?_|refine ra ?_ ?_)
 refine ah.k k ?_
 (repeat' with_reducible first|intro _|exact dn|refine rn ?_|refine ra ?_ ?_)
 refine aV.auto 0 ?_ rfl ?_<;>simp only [go_sem,Int.natCast_succ,Post]
end Go.Fv.H
/- The reference's packBits: the walk. -/
namespace Go.Fv.H
open Go Go.Proofs
set_option maxHeartbeats 4000000 in
theorem Me (l:Bytes) (h1:l.all fK=true) (hl:l.length=8) :
  aA Tryz.prog 136 [.str l,.int .i64 2,.int .i64 8] (.tup [.int .u64 (ig l),.raw .nilIface]) []:=by
 have h0:l≠[]:=fun e=>by rw [e] at hl;cases hl
 have hv:=uw l h1
 refine aA.aG Tryz.func136 rfl (by decide) (by simp [Tryz.f136]) [.tmp 6,.tmp 7] rfl fun w0 T0 _=>?_
 simp only [Tryz.f136,au]
 (repeat' with_reducible first|intro _|refine rz ?_|refine ra ?_ ?_|omega|simp only [go_sem,h0])
 refine bW.at 256 (by decide) ?_
 refine bW.at 255 (by decide) ?_
 (repeat' with_reducible first|intro _|exact dn|refine rn ?_|refine ra ?_ ?_)
 have hbl:=Ob l
 refine aI.intro (fun i:Nat=>⟨172,[(101,.int .i64 i),(100,.int .i64 l.length),(99,.own 0),(13,.int .u64 (ig (l.take i))),(12,.bool false),(11,.int .u64 255),(10,.int .u64 9223372036854775808),(9,.str l),(8,.bool false),(0,.str l),(1,.int .i64 2),(2,.int .i64 8)],[(0,.row 5 (.ints .u8 (aj l)))],1⟩) (fun i=>i≤l.length) (fun i=>l.length - i) 0 ?_ (Nat.zero_le _) fun i hi=>?_
 ·refine aO.ak rfl ?_ ?_<;>simp only [go_sem,Int.natCast_succ,hbl]
  rfl
 have hcut:l.take l.length=l:=List.take_length
 by_cases hlt:i<l.length
 ·have hb:(aj l).getD i 0=((l.getD i 0).toNat:Int):=OA hlt
  have hs:=zG hlt
  have ha:=zA hlt h1
  have hv2:=uw (l.take (i+1)) (by rw [List.all_eq_true] at h1 ⊢;intro x hx;exact h1 x (List.mem_of_mem_take hx))
  have hp:(2:Nat) ^ (l.take (i+1)).length≤2 ^ 8:=Nat.pow_le_pow_right (by decide) (by rw [List.length_take];omega)
  rw [show (2:Nat) ^ 8=256 from rfl] at hp
  have hc:(l.getD i 0).toNat=48∨(l.getD i 0).toNat=49:=by rcases ha with e|e<;>rw [e]<;>decide
  generalize l.getD i 0=c at *
  generalize ig (l.take i)=v at *
  have hcc:((c.toNat:Nat):Int) - 48=((c.toNat - 48:Nat):Int):=by omega
  generalize c.toNat=cn at *
  have f1:((cn:Int)=95)=False:=eq_false (by omega)
  have f2:(48≤(cn:Int))=True:=eq_true (by omega)
  have f3:((cn:Int)≤57)=True:=eq_true (by omega)
  (repeat' with_reducible first|intro _|refine rz ?_|refine ra ?_ ?_|omega|simp only [go_sem,hb,hbl,f1,f2,f3])
  refine ⟨i+1,aO.ak rfl ?_ ?_,by omega,by omega⟩<;>simp only [go_sem,Int.natCast_succ,hs]
  all_goals omega
 ·have e:i=l.length:=by omega
  subst e
  rw [hcut]
  (repeat' with_reducible first|intro _|refine rz ?_|refine ra ?_ ?_|omega|simp only [go_sem,hbl])
  refine aV.auto 0 ?_ rfl ?_<;>simp only [go_sem,Int.natCast_succ,Post]
theorem QM (l:Bytes) (h1:l.all fK=true) (hl:l.length=8) :
  aA Tryz.prog 97 [.str l,.int .i64 2,.int .i64 8] (.tup [.int .u64 (ig l),.raw .nilIface]) []:=by
 have k:=Me l h1 hl
 refine aA.aG Tryz.func97 rfl (by decide) (by simp [Tryz.f97]) [.tmp 6,.tmp 7] rfl fun w0 T0 _=>?_
 simp only [Tryz.f97,au]
 (repeat' with_reducible first|intro _|exact dn|refine rn ?_|refine ra ?_ ?_)
 refine ah.k k ?_
 (repeat' with_reducible first|intro _|exact dn|refine rn ?_|refine ra ?_ ?_)
 refine aV.auto 0 ?_ rfl ?_<;>simp only [go_sem,Int.natCast_succ,Post]
theorem XH {α:Type} {l:List α} (h:l.length=8):∃ a b c d e f g i,l=[a,b,c,d,e,f,g,i]:=by
 match l,h with
 | [a,b,c,d,e,f,g,i],_=>exact ⟨a,b,c,d,e,f,g,i,rfl⟩
theorem rO {c:UInt8} (h:fK c=true):c.toNat - 48=if c=49 then 1 else 0:=by
 have h3:c=48∨c=49:=by simpa [fK] using h
 rcases h3 with rfl|rfl<;>rfl
theorem WT {s:Bytes} (h1:s.all fK=true) {j:Nat} (h:8*j+8≤s.length):ig ((s.drop (8*j)).take 8)=pk s j:=by
 have hl:((s.drop (8*j)).take 8).length=8:=by rw [List.length_take,List.length_drop];omega
 have hal:∀ x,x∈(s.drop (8*j)).take 8→fK x=true:=fun x hx=>(List.all_eq_true.1 h1) x (List.mem_of_mem_drop (List.mem_of_mem_take hx))
 have hg:∀ k,k<8→bt s (8*j+k)=if ((s.drop (8*j)).take 8).getD k 0=49 then 1 else 0:=fun k hk=>by
  unfold bt
  rw [List.getD_eq_getElem?_getD,List.getD_eq_getElem?_getD,List.getElem?_take,if_pos hk,List.getElem?_drop]
 obtain ⟨a,b,c,d,e,f,g,i,hL⟩:=XH hl
 rw [hL] at hal hg ⊢
 unfold pk
 have g0:=hg 0 (by decide)
 rw [Nat.add_zero] at g0
 rw [g0,hg 1 (by decide),hg 2 (by decide),hg 3 (by decide),hg 4 (by decide),hg 5 (by decide),hg 6 (by decide),hg 7 (by decide)]
 unfold ig
 simp only [List.foldl_cons,List.foldl_nil,List.getD_cons_zero,List.getD_cons_succ]
 rw [rO (hal a (by simp)),rO (hal b (by simp)),rO (hal c (by simp)),rO (hal d (by simp)),rO (hal e (by simp)),rO (hal f (by simp)),rO (hal g (by simp)),rO (hal i (by simp))]
 generalize (if a=49 then 1 else 0)=a
 omega
theorem V3 (s:Bytes) (n j:Nat):pk (s++List.replicate n 48) j=pk s j:=by
 have key:∀ k,bt (s++List.replicate n 48) k=bt s k:=fun k=>by
  unfold bt
  rw [List.getD_eq_getElem?_getD,List.getD_eq_getElem?_getD]
  by_cases hk:k<s.length
  ·rw [List.getElem?_append_left hk]
  ·rw [List.getElem?_append_right (by omega),List.getElem?_replicate,List.getElem?_eq_none (l:=s) (by omega)]
   split<;>decide
 unfold pk
 simp only [key]
theorem TU (j:Nat) (s:Bytes):aj (AL (j+1) s)=aj (AL j s)++[((pk s j:Nat):Int)]:=by
 unfold aj AL
 rw [List.range_succ,List.map_append,List.map_append]
 have:=Jg s j
 simp
 omega
set_option maxHeartbeats 4000000 in
theorem rP (s:Bytes) (h1:s.all fK=true) (hs:s.length≤1000000000):aA Tryz.prog 56 [.str s] (.str (jr s)) []:=by
 refine aA.aG Tryz.func56 rfl (by decide) (by simp [Tryz.f56]) [.tmp 2] rfl fun w0 T0 _=>?_
 simp only [Tryz.f56,au]
 obtain ⟨z,m,hz,hm⟩:∃ z m,z<8∧s.length+z=8*m:=⟨8*((s.length+7) / 8) - s.length,(s.length+7) / 8,by omega,by omega⟩
 (repeat' with_reducible first|intro _|exact dn|refine rn ?_|refine ra ?_ ?_)
 refine aI.intro (fun i:Nat=>⟨29,[(2,.str []),(0,.str (s++List.replicate i 48))],[],0⟩) (fun i=>i≤z) (fun i=>z - i) 0 ?_ (Nat.zero_le _) fun i hi=>?_
 ·refine aO.ak rfl ?_ ?_<;>simp only [go_sem,Int.natCast_succ]
 have hrl:(s++List.replicate i 48).length=s.length+i:=by rw [List.length_append,List.length_replicate]
 have hsnoc:s++List.replicate (i+1) (48:UInt8)=(s++List.replicate i 48)++[48]:=by rw [List.replicate_succ',List.append_assoc]
 have d1:((s.length+i:Nat):Int).tmod 8=(((s.length+i)%8:Nat):Int):=by rw [Int.tmod_eq_emod_of_nonneg (by omega)];omega
 by_cases hlt:i<z
 ·have f1:((((s.length+i)%8:Nat):Int)=0)=False:=eq_false (by omega)
  (repeat' with_reducible first|intro _|refine rz ?_|refine ra ?_ ?_|omega|simp only [go_sem,hrl,d1,f1])
  refine ⟨i+1,aO.ak rfl ?_ ?_,by omega,by omega⟩<;>simp only [go_sem,Int.natCast_succ,hsnoc]
 have f1:((((s.length+i)%8:Nat):Int)=0)=True:=eq_true (by omega)
 have e:i=z:=by omega
 subst e
 have hpk:∀ j,pk (s++List.replicate i 48) j=pk s j:=V3 s i
 have hall:(s++List.replicate i (48:UInt8)).all fK=true:=by
  rw [List.all_append,h1,Bool.true_and,List.all_eq_true]
  intro x hx;rw [(List.mem_replicate.1 hx).2];decide
 generalize hS:s++List.replicate i (48:UInt8)=S at *
 have hSl:S.length=8*m:=by omega
 have hval:∀ j,j<m→ig ((S.drop (8*j)).take 8)=pk s j:=fun j hj=>by rw [WT hall (by omega),hpk]
 have hpB:jr s=AL m s:=by unfold jr;congr 1;omega
 rw [hpB]
 (repeat' with_reducible first|intro _|refine rz ?_|refine ra ?_ ?_|omega|simp only [go_sem,hrl,d1,f1])
 refine aI.intro (fun j:Nat=>⟨29,[(2,.str []),(3,.own 0),(0,.str (S.drop (8*j)))],[(0,.row 5 (.ints .u8 (aj (AL j s))))],1⟩) (fun j=>j≤m) (fun j=>m - j) 0 ?_ (Nat.zero_le _) fun j hj=>?_
 ·refine aO.ak rfl ?_ ?_<;>simp only [go_sem,Int.natCast_succ,Nat.mul_zero]
  all_goals rfl
 have hdl:(S.drop (8*j)).length=8*m - 8*j:=by rw [List.length_drop,hSl]
 have hbl:=cO (AL j s)
 have hbk:=iG (AL j s)
 rw [xu] at hbl
 by_cases hjlt:j<m
 ·have hne:(S.drop (8*j)=[])=False:=eq_false fun e=>by rw [e] at hdl;simp at hdl;omega
  have hdd:(S.drop (8*j)).drop 8=S.drop (8*(j+1)):=by rw [List.drop_drop];congr 1
  have hv:=hval j hjlt
  have hp:=Jg s j
  have hall2:((S.drop (8*j)).take 8).all fK=true:=by
   rw [List.all_eq_true]
   exact fun x hx=>(List.all_eq_true.1 hall) x (List.mem_of_mem_drop (List.mem_of_mem_take hx))
  have ht8:((S.drop (8*j)).take 8).length=8:=by rw [List.length_take];omega
  have k:=QM _ hall2 ht8
  rw [hv] at k
  have hsu:=TU j s
  generalize AL j s=cu at *
  generalize pk s j=q at *
  have hw:IntKind.u8.wrap (q:Int)=(q:Int):=by rw [kL];omega
  (repeat' with_reducible first|intro _|refine rz ?_|refine ra ?_ ?_|omega|simp only [go_sem,hne,hdl])
  refine ah.k k ?_
  (repeat' with_reducible first|intro _|refine rz ?_|refine ra ?_ ?_|omega|simp only [go_sem,hw,hdd])
  refine ⟨j+1,aO.ak rfl ?_ ?_,by omega,by omega⟩<;>simp only [go_sem,Int.natCast_succ,hsu]
  ·exact List.take_of_length_le (by rw [hdl,List.length_drop,hSl];omega)
 ·have hne:(S.drop (8*j)=[])=True:=eq_true (List.length_eq_zero_iff.1 (by omega))
  have e:j=m:=by omega
  subst e
  (repeat' with_reducible first|intro _|refine rz ?_|refine ra ?_ ?_|omega|simp only [go_sem,hne])
  refine aV.auto 0 ?_ rfl ?_<;>simp only [go_sem,Int.natCast_succ,Post,hbk]
end Go.Fv.H
/- The reference's rowOf and bit: the walk; codes are made of "0" and "1". -/
namespace Go.Fv.H
open Go Go.Proofs
theorem MH (n:Nat):(dR n).all fK=true:=by
 unfold dR
 rw [List.all_append,MQ,Bool.and_true,List.all_eq_true]
 intro x hx;rw [(List.mem_replicate.1 hx).2];decide
theorem Ud (l:List Int):(dw l).all fK=true:=by
 unfold dw
 rw [List.all_flatMap,List.all_eq_true]
 exact fun x _=>MH _
theorem JX (w:Nat) (p:List Bool) (y:Nat):(iI w p y).all fK=true:=by
 unfold iI
 rw [List.all_flatMap,List.all_eq_true]
 exact fun x _=>Ud _
theorem Vg (k:Nat):(aK.getD k []).all fK=true:=by
 by_cases h:k<7
 ·have hc:k=0∨k=1∨k=2∨k=3∨k=4∨k=5∨k=6:=by omega
  rcases hc with rfl|rfl|rfl|rfl|rfl|rfl|rfl<;>rfl
 ·rw [List.getD_eq_getElem?_getD,List.getElem?_eq_none (show aK.length≤k by show 7≤k;omega)];rfl
theorem U6 (row above:List Bool) (p:Nat) (ink:Bool):(aT row above p ink).c.all fK=true:=by
 unfold aT
 split
 ·exact (by decide:eX.all fK=true)
 ·split
  ·exact Vg _
  ·dsimp only
   rw [List.all_append,List.all_append,MH,MH]
   decide
theorem OG {row above:List Bool} (hw:above.length=row.length):∀ (f p:Nat) (ink:Bool),row.length+1 - p≤f→(lX row above p ink).all fK=true
 | 0,p,ink,h=>by rw [jS (by omega)];rfl
 | f+1,p,ink,h=>by
  by_cases hp:p≤row.length
  ·have hs:=kM hw hp ink
   rw [ni hw hp,List.all_append,U6,Bool.true_and]
   exact OG hw f _ _ (by omega)
  ·rw [jS hp];rfl
theorem RP {row above:List Bool} (hw:above.length=row.length):(eu row above).all fK=true:=by
 unfold eu
 split
 ·rfl
 ·exact OG hw (row.length+1) 0 false (by omega)
theorem Gu (w h:Nat) (p:List Bool) (hp:p.length=w*h) (y:Nat) (hy:y≤h):(dZ w p y).all fK=true:=by
 unfold dZ
 rw [List.all_flatMap,List.all_eq_true]
 intro j hj
 rw [List.mem_range] at hj
 have hl:=gq hp (y:=j) (by omega)
 refine RP ?_
 rw [hl]
 unfold rC
 split
 ·exact List.length_replicate
 ·exact gq hp (by omega)
theorem KT (p:List Bool):(fF p).all fK=true:=by
 unfold fF
 rw [List.all_map,List.all_eq_true]
 intro x _
 cases x<;>rfl
theorem Wv (b:Bool):aA Tryz.prog 55 [.bool b] (.int .i64 (if b=true then 1 else 0)) []:=by
 refine aA.aG Tryz.func55 rfl (by decide) (by simp [Tryz.f55]) [.tmp 2] rfl fun w0 T0 _=>?_
 simp only [Tryz.f55,au]
 cases b <;>
  ((repeat' with_reducible first|intro _|exact dn|refine rn ?_|refine ra ?_ ?_)
   refine aV.auto 0 ?_ rfl ?_<;>simp only [go_sem,Int.natCast_succ,Post])
theorem DT (w h:Nat) (hw:w≤4000) (hh:h≤4000) (p:List Bool) (hp:p.length=w*h) (y:Nat) (hy:y<h) :
  aA Tryz.prog 59 [.agg [.int .i64 w,.int .i64 h,.ro (.bools p)],.int .i64 y] (.ro (.bools (rowP w p y))) []:=by
 have h1:y*w+w≤h*w:=by rw [←Nat.succ_mul];exact Nat.mul_le_mul_right _ hy
 have h2:h*w≤4000*4000:=Nat.mul_le_mul hh hw
 have h3:w*h=h*w:=Nat.mul_comm _ _
 have e1:(y:Int)*(w:Int)=((y*w:Nat):Int):=(Int.natCast_mul y w).symm
 have e2:((y:Int)+1)*(w:Int)=((y*w+w:Nat):Int):=by rw [Int.add_mul,Int.one_mul,e1];omega
 have e3:y*w+w - y*w=w:=by omega
 generalize hyw:y*w=a at *
 refine aA.aG Tryz.func59 rfl (by decide) (by simp [Tryz.f59]) [.tmp 4] rfl fun w0 T0 _=>?_
 simp only [Tryz.f59,au]
 have f1:((y:Int)<0)=False:=eq_false (by omega)
 (repeat' with_reducible first|intro _|refine rz ?_|refine ra ?_ ?_|omega|simp only [go_sem,e1,e2,f1])
 refine aV.auto 0 ?_ rfl ?_<;>simp only [go_sem,Int.natCast_succ,Post,rowP,hyw,e3]
theorem Ql (w h:Nat) (hw:w≤4000) (p:List Bool) :
  aA Tryz.prog 59 [.agg [.int .i64 w,.int .i64 h,.ro (.bools p)],.int .i64 (-1)] (.own 0) [(0,.row 4 (.bools (List.replicate w false)))]:=by
 refine aA.aG Tryz.func59 rfl (by decide) (by simp [Tryz.f59]) [.tmp 4] rfl fun w0 T0 _=>?_
 simp only [Tryz.f59,au]
 (repeat' with_reducible first|intro _|exact dn|refine rn ?_|refine ra ?_ ?_)
 refine aV.auto 1 ?_ rfl ?_<;>simp only [go_sem,Int.natCast_succ,Post]
end Go.Fv.H
