/-
  A part of the proof of the claim: walks over the program's functions and the plain laws that these need. No condition of its own.
-/
import Derived.Test.YtodlgmmbfbiilaaGreatDoorHArcMCardPart3
import Derived.Test.YtodlgmmbfbiilaaGreatDoorHArcMCardPart5
import Derived.Test.YtodlgmmbfbiilaaGreatDoorHArcMCardPart6
import Derived.Test.YtodlgmmbfbiilaaGreatDoorHArcMCardPart4
import Derived.Test.YtodlgmmbfbiilaaGreatDoorHArcMCardPart2
import Derived.Test.YtodlgmmbfbiilaaGreatDoorFvPart10
set_option linter.unusedSimpArgs false
set_option linter.unusedVariables false
set_option linter.unnecessarySimpa false
set_option maxRecDepth 8000
/- shrink.dataOf: the walk. -/
namespace Go.Fv.H
open Go Go.Proofs
theorem wY {row above:List Bool} (hr:row.length≤4000) (hw:above.length=row.length):(eY row above).length≤100*(row.length+1):=by
 have key:∀ (f p:Nat) (ink:Bool),row.length+1 - p≤f→(mQ row above p ink).length≤100*f:=by
  intro f
  induction f with
  | zero=>intro p ink h;rw [kM (by omega)];simp
  | succ f ih=>
   intro p ink h
   by_cases hp:p≤row.length
   ·have hs:=lq hw hp ink
    have hsh:=yI (above:=above) hr p ink
    rw [oh hw hp,List.length_append]
    have:=ih (aV row above p ink).p (aV row above p ink).k (by omega)
    omega
   ·rw [kM hp];simp
 unfold eY
 split
 ·simp
 ·exact key (row.length+1) 0 false (by omega)
theorem CV {w h:Nat} {p:List Bool} (hp:p.length=w*h) {y:Nat} (hy:y<h):(sN w p y).length=w:=by
 unfold sN
 split
 ·exact List.length_replicate
 ·exact iC hp (by omega)
theorem pO (w:Nat) (p:List Bool) (y:Nat):eP w p (y+1)=eP w p y++eY (rowP w p y) (sN w p y):=by
 unfold eP;rw [List.range_succ,List.flatMap_append];simp
theorem rW (w:Nat) (p:List Bool) (y:Nat):iY w p (y+1)=iY w p y++dI (iW (rowP w p y)):=by
 unfold iY;rw [List.range_succ,List.flatMap_append];simp
theorem E5 {l:List Int} {j:Nat} (h:j<l.length):dI (l.take (j+1))=dI (l.take j)++dS (l.getD j 0+1).toNat:=by
 unfold dI;rw [List.take_succ_eq_append_getElem h,List.flatMap_append,getD_lt h];simp
theorem vJ (r:List Bool):(iW r).length≤r.length+1∧∀ x,x∈iW r→0≤x∧x≤r.length:=by
 obtain ⟨h1,_,h3⟩:=rV r r.length
 exact ⟨h1,h3⟩
theorem rJ {w h:Nat} {p:List Bool} (hw:w≤4000) (hp:p.length=w*h):∀ y,y≤h→(eP w p y).length≤100*(w+1)*y
 | 0,_=>by simp [eP]
 | y+1,hy=>by
  have h1:=rJ hw hp y (by omega)
  have hl:=iC hp (y:=y) (by omega)
  have h2:=wY (row:=rowP w p y) (above:=sN w p y) (by omega) (by rw [CV hp (by omega),hl])
  rw [hl] at h2
  rw [pO,List.length_append,Nat.mul_succ];omega
theorem Ae {l:List Int} (hl:∀ x,x∈l→0≤x∧x≤4000):(dI l).length≤41*l.length:=by
 induction l with
 | nil=>simp [dI]
 | cons x l ih=>
  have h1:=ih fun y hy=>hl y (.tail _ hy)
  have h2:=hl x (.head _)
  have h3:=dF (n:=(x+1).toNat) (by omega)
  have e:dI (x::l)=dS (x+1).toNat++dI l:=by unfold dI;simp
  rw [e,List.length_append,List.length_cons];omega
theorem vK {w h:Nat} {p:List Bool} (hw:w≤4000) (hp:p.length=w*h):∀ y,y≤h→(iY w p y).length≤41*(w+1)*y
 | 0,_=>by simp [iY]
 | y+1,hy=>by
  have h1:=vK hw hp y (by omega)
  have hl:=iC hp (y:=y) (by omega)
  obtain ⟨h2,h3⟩:=vJ (rowP w p y)
  have h4:=Ae (l:=iW (rowP w p y)) fun x hx=>by have:=h3 x hx;omega
  rw [rW,List.length_append,Nat.mul_succ]
  rw [hl] at h2
  have h5:41*(iW (rowP w p y)).length≤41*(w+1):=Nat.mul_le_mul_left _ h2
  omega
theorem Hr {row above:List Bool} (h0:0<row.length) (hr:row.length≤4000) (hw:above.length=row.length):0<(eY row above).length:=by
 unfold eY
 rw [if_neg (by omega),oh hw (by omega),List.length_append]
 have hs:0<(aV row above 0 false).c.length:=by
  unfold aV
  split
  ·exact (by decide:0<fJ.length)
  ·split
   ·dsimp only;exact Ew (by omega)
   ·dsimp only;rw [List.length_append];have:eF.length=3:=rfl;omega
 omega
structure DX where
 y:Nat
 u:Bool
structure DR where
 j:Nat
 u:Bool
structure BU (o:Bytes) (u:Bool):Prop where
 h1:u=true→0<o.length
 h2:u=false→o=[]
theorem Rk (n:Nat):0<(dS n).length:=by
 have:=uT n
 rw [Ci];omega
set_option maxHeartbeats 16000000 in
theorem SQ (w h:Nat) (hw0:0<w) (hw:w≤4000) (hh:h≤4000) (hwh:w*h≤1048576) (p:List Bool) (hp:p.length=w*h) (kind:Int) :
  aA Tryz.prog 107 [.agg [.int .i64 w,.int .i64 h,.ro (.bools p)],.int .i64 kind] (.own 0) [(0,.row 5 (.ints .u8 (aj (bV w h p kind))))]:=by
 refine aA.aG Tryz.func107 rfl (by decide) (by simp [Tryz.f107]) [.tmp 4] rfl fun w0 T0 _=>?_
 simp only [Tryz.f107,au]
 by_cases c1:kind=1
 ·have e:bV w h p kind=jF (fZ p):=if_pos c1
  rw [e]
  have k1:=SH (w:Int) (h:Int) p (by omega)
  have k2:=zW (fZ p) (by rw [jP];omega)
  have g1:(kind=1)=True:=eq_true c1
  (repeat' with_reducible first|intro _|refine rz ?_|refine ra ?_ ?_|omega|simp only [go_sem,g1])
  refine ah.k k1 ?_
  (repeat' with_reducible first|intro _|exact dn|refine rn ?_|refine ra ?_ ?_)
  refine ah.o k2 1 ?_
  (repeat' with_reducible first|intro _|exact dn|refine rn ?_|refine ra ?_ ?_)
  refine aT.auto 1 ?_ rfl ?_<;>simp only [go_sem,Int.natCast_succ,Post]
 have g1:(kind=1)=False:=eq_false c1
 by_cases c4:kind=4
 ·have e:bV w h p kind=sS w h p:=by unfold bV;rw [if_neg c1,if_pos c4]
  rw [e]
  have k1:=KE w h hw0 hw hh hwh p hp
  have g4:(kind=4)=True:=eq_true c4
  (repeat' with_reducible first|intro _|refine rz ?_|refine ra ?_ ?_|omega|simp only [go_sem,g1,g4])
  refine ah.o k1 1 ?_
  (repeat' with_reducible first|intro _|exact dn|refine rn ?_|refine ra ?_ ?_)
  refine aT.auto 1 ?_ rfl ?_<;>simp only [go_sem,Int.natCast_succ,Post]
 have g4:(kind=4)=False:=eq_false c4
 have b1:41*(w+1)*h≤100000000:=by
  have:(w+1)*h≤1052576:=by rw [Nat.add_mul,Nat.one_mul];omega
  rw [Nat.mul_assoc];omega
 have b2:100*(w+1)*h≤200000000:=by
  have:(w+1)*h≤1052576:=by rw [Nat.add_mul,Nat.one_mul];omega
  rw [Nat.mul_assoc];omega
 by_cases c2:kind=2
 ·have e:bV w h p kind=jF (iY w p h):=by unfold bV;rw [if_neg c1,if_neg c4,if_pos c2]
  rw [e]
  have g2:(kind=2)=True:=eq_true c2
  have bl:=vK hw hp
  (repeat' with_reducible first|intro _|refine rz ?_|refine ra ?_ ?_|omega|simp only [go_sem,g1,g4,g2])
  refine aF.intro (fun x:DX=>⟨63,[(43,.int .i64 x.y),(42,.int .i64 h),(5,.ptr 1 0),(2,.ptr 0 0)],(0,.box 24 [.int .i64 w,.int .i64 h,.ro (.bools p)])::(bif x.u then [(1,.box 89 [.ptr 1 0,.own 2]),(2,.row 5 (.ints .u8 (aj (iY w p x.y))))] else [(1,.box 89 [.raw (.pointer none),.nilS])]),bif x.u then 3 else 2⟩) (fun x=>x.y≤h∧BU (iY w p x.y) x.u) (fun x=>h - x.y) ⟨0,false⟩ ?_ ⟨Nat.zero_le _,fun h=>by (cases h),fun _=>rfl⟩ fun x hx=>?_
  ·refine aK.ak rfl ?_ ?_<;>simp only [go_sem,Int.natCast_succ]
   all_goals first|rfl|exact ⟨rfl,rfl⟩
  obtain ⟨y,u⟩:=x
  obtain ⟨hy,hu1,hu2⟩:=hx
  dsimp only at hy hu1 hu2 ⊢
  have hbly:=bl y hy
  have hmy:41*(w+1)*y≤41*(w+1)*h:=Nat.mul_le_mul_left _ hy
  by_cases hylt:y<h
  rotate_left
  ·have f1:((y:Int)<(h:Int))=False:=eq_false (by omega)
   have e:y=h:=by omega
   subst e
   have k2:=zW (iY w p y) (by omega)
   cases u with
   | true=>
    have kst:=gB (iY w p y) (hu1 rfl)
    simp only [cond_true,cond_false,List.cons_append,List.nil_append]
    (repeat' with_reducible first|intro _|refine rz ?_|refine ra ?_ ?_|omega|simp only [go_sem,f1])
    refine ah.i [1,2] kst 2 ?_
    (repeat' with_reducible first|intro _|exact dn|refine rn ?_|refine ra ?_ ?_)
    refine ah.o k2 1 ?_
    (repeat' with_reducible first|intro _|exact dn|refine rn ?_|refine ra ?_ ?_)
    refine aT.auto 1 ?_ rfl ?_<;>simp only [go_sem,Int.natCast_succ,Post]
   | false=>
    have hz:=hu2 rfl
    rw [hz] at k2 ⊢
    have kst:=gK
    simp only [cond_true,cond_false,List.cons_append,List.nil_append]
    (repeat' with_reducible first|intro _|refine rz ?_|refine ra ?_ ?_|omega|simp only [go_sem,f1])
    refine ah.i [1] kst 1 ?_
    (repeat' with_reducible first|intro _|exact dn|refine rn ?_|refine ra ?_ ?_)
    refine ah.o k2 1 ?_
    (repeat' with_reducible first|intro _|exact dn|refine rn ?_|refine ra ?_ ?_)
    refine aT.auto 1 ?_ rfl ?_<;>simp only [go_sem,Int.natCast_succ,Post]
  have f1:((y:Int)<(h:Int))=True:=eq_true (by omega)
  have hl:=iC hp hylt
  have kr:=WM w h hw hh p hp y hylt
  have kn:=Yn (rowP w p y) (by omega)
  obtain ⟨n1,n2⟩:=vJ (rowP w p y)
  have hsucc:=rW w p y
  have hbly2:=bl (y+1) (by omega)
  have hrr:(bF (rowP w p y) (rowP w p y).length).1=iW (rowP w p y):=rfl
  rw [hrr] at kn
  generalize hL:iW (rowP w p y)=L at *
  generalize rowP w p y=rw_ at *
  generalize iY w p y=o0 at *
  (repeat' with_reducible first|intro _|refine rz ?_|refine ra ?_ ?_|omega|simp only [go_sem,f1])
  refine ah.Ug (.ro (.bools rw_)) kr (by simp only [aI,aQ,bJ,aU,aH,List.drop_zero,lk,reduceIte,reduceCtorEq,Nat.reduceEqDiff,Option.some.injEq,Item.row.injEq,Item.box.injEq,AV.ro.injEq,exists_eq_left,exists_and_left,exists_eq_left',exists_eq_right,and_assoc,and_true,true_and,List.cons.injEq,exists_eq',exists_eq]) (by simp [dG,aQ,aU,bJ,aH,lk,aI]) rfl ?_
  (repeat' with_reducible first|intro _|exact dn|refine rn ?_|refine ra ?_ ?_)
  refine ah.ro (.ro (.ints .i64 L)) (bZ.eH kn rfl (by simp [fQ,fP,jd,iO,lC])) (by simp only [aI,aQ,bJ,aU,aH,List.drop_zero,lk,reduceIte,reduceCtorEq,Nat.reduceEqDiff,Option.some.injEq,Item.row.injEq,Item.box.injEq,AV.ro.injEq,exists_eq_left,exists_and_left,exists_eq_left',exists_eq_right,and_assoc,and_true,true_and,List.cons.injEq,exists_eq',exists_eq]) (by simp [dG,aQ,aU,bJ,aH,lk,aI]) rfl ?_
  (repeat' with_reducible first|intro _|exact dn|refine rn ?_|refine ra ?_ ?_)
  refine aF.intro (fun x:DR=>⟨63,[(51,.int .i64 x.j),(50,.int .i64 L.length),(49,.ro (.ints .i64 L)),(43,.int .i64 y),(42,.int .i64 h),(5,.ptr 1 0),(2,.ptr 0 0)],(0,.box 24 [.int .i64 w,.int .i64 h,.ro (.bools p)])::(bif x.u then [(1,.box 89 [.ptr 1 0,.own 2]),(2,.row 5 (.ints .u8 (aj (o0++dI (L.take x.j)))))] else [(1,.box 89 [.raw (.pointer none),.nilS])]),bif x.u then 3 else 2⟩) (fun x=>x.j≤L.length∧BU (o0++dI (L.take x.j)) x.u) (fun x=>L.length - x.j) ⟨0,u⟩ ?_ ⟨Nat.zero_le _,by
   have e:o0++dI (L.take 0)=o0:=by simp [dI]
   rw [e];exact ⟨hu1,hu2⟩⟩ fun x hx=>?_
  ·have e:dI []=[]:=rfl
   cases u<;>(simp only [cond_true,cond_false];refine aK.ak rfl ?_ ?_<;>simp only [go_sem,Int.natCast_succ,e])
   all_goals first|rfl|exact ⟨rfl,rfl⟩
  obtain ⟨j,v⟩:=x
  obtain ⟨hj,hv1,hv2⟩:=hx
  dsimp only at hj hv1 hv2 ⊢
  have hgl:(dI (L.take j)).length≤41*4001:=by
   have h1:=Ae (l:=L.take j) fun x hx=>by have:=n2 x (List.mem_of_mem_take hx);omega
   have h2:(L.take j).length≤4001:=by rw [List.length_take];omega
   omega
  have hbq:41*(w+1)*y≤100000000:=by omega
  by_cases hjlt:j<L.length
  rotate_left
  ·have fj:((j:Int)<(L.length:Int))=False:=eq_false (by omega)
   have hjl:L.take j=L:=List.take_of_length_le (by omega)
   rw [hjl] at hv1 hv2 ⊢
   cases v <;>
    (simp only [cond_true,cond_false,List.cons_append,List.nil_append]
     (repeat' with_reducible first|intro _|refine rz ?_|refine ra ?_ ?_|omega|simp only [go_sem,fj]))
   ·refine ⟨⟨y+1,false⟩,aK.ak rfl ?_ ?_,⟨by dsimp only;omega,by rw [hsucc];exact ⟨hv1,hv2⟩⟩,by dsimp only;omega⟩<;>simp only [go_sem,Int.natCast_succ,hsucc]
    all_goals first|rfl|exact ⟨rfl,rfl⟩
   ·refine ⟨⟨y+1,true⟩,aK.ak rfl ?_ ?_,⟨by dsimp only;omega,by rw [hsucc];exact ⟨hv1,hv2⟩⟩,by dsimp only;omega⟩<;>simp only [go_sem,Int.natCast_succ,hsucc]
    all_goals first|rfl|exact ⟨rfl,rfl⟩
  have fj:((j:Int)<(L.length:Int))=True:=eq_true (by omega)
  have htk:=E5 hjlt
  have hnb:=n2 (L.getD j 0) (by rw [getD_lt hjlt];exact List.getElem_mem hjlt)
  have kg:=uf (L.getD j 0+1).toNat (by omega)
  rw [show (((L.getD j 0+1).toNat:Nat):Int)=L.getD j 0+1 by omega] at kg
  have hgp:=Rk (L.getD j 0+1).toNat
  have hgs:=dF (n:=(L.getD j 0+1).toNat) (by omega)
  generalize dS (L.getD j 0+1).toNat=g at *
  generalize hn0:L.getD j 0=n0 at *
  cases v with
  | true=>
   have kw2:=dY (o0++dI (L.take j)) g (by rw [List.length_append];omega) (by omega)
   simp only [cond_true,cond_false,List.cons_append,List.nil_append]
   (repeat' with_reducible first|intro _|refine rz ?_|refine ra ?_ ?_|omega|simp only [go_sem,fj,hn0])
   refine ah.k kg ?_
   (repeat' with_reducible first|intro _|exact dn|refine rn ?_|refine ra ?_ ?_)
   refine ah.i [1,2] kw2 3 ?_
   (repeat' with_reducible first|intro _|exact dn|refine rn ?_|refine ra ?_ ?_)
   refine ⟨⟨j+1,true⟩,aK.ak rfl ?_ ?_,⟨by dsimp only;omega,fun _=>by dsimp only;rw [htk,List.length_append,List.length_append];omega,fun h=>by (cases h)⟩,by dsimp only;omega⟩<;>simp only [go_sem,Int.natCast_succ,htk,List.append_assoc]
   all_goals first|rfl|exact ⟨rfl,rfl⟩
  | false=>
   have hz:=hv2 rfl
   have kw2:=gG g (by omega)
   simp only [cond_true,cond_false,List.cons_append,List.nil_append]
   (repeat' with_reducible first|intro _|refine rz ?_|refine ra ?_ ?_|omega|simp only [go_sem,fj,hn0])
   refine ah.k kg ?_
   (repeat' with_reducible first|intro _|exact dn|refine rn ?_|refine ra ?_ ?_)
   refine ah.i [1] kw2 2 ?_
   (repeat' with_reducible first|intro _|exact dn|refine rn ?_|refine ra ?_ ?_)
   have hz2:o0++dI (L.take (j+1))=g:=by rw [htk,←List.append_assoc,hz,List.nil_append]
   refine ⟨⟨j+1,true⟩,aK.ak rfl ?_ ?_,⟨by dsimp only;omega,fun _=>by dsimp only;rw [hz2];omega,fun h=>by (cases h)⟩,by dsimp only;omega⟩<;>simp only [go_sem,Int.natCast_succ,hz2]
   all_goals first|rfl|exact ⟨rfl,rfl⟩
 have e:bV w h p kind=jF (eP w p h):=by unfold bV;rw [if_neg c1,if_neg c4,if_neg c2]
 rw [e]
 have g2:(kind=2)=False:=eq_false c2
 have bl:=rJ hw hp
 (repeat' with_reducible first|intro _|refine rz ?_|refine ra ?_ ?_|omega|simp only [go_sem,g1,g4,g2])
 refine aF.intro (fun x:DX=>⟨63,[(17,.int .i64 x.y),(16,.int .i64 h),(9,.ro (.bools (sN w p x.y))),(5,.ptr 1 0),(2,.ptr 0 0)],(0,.box 24 [.int .i64 w,.int .i64 h,.ro (.bools p)])::(bif x.u then [(1,.box 89 [.ptr 1 0,.own 2]),(2,.row 5 (.ints .u8 (aj (eP w p x.y))))] else [(1,.box 89 [.raw (.pointer none),.nilS])]),bif x.u then 3 else 2⟩) (fun x=>x.y≤h∧BU (eP w p x.y) x.u) (fun x=>h - x.y) ⟨0,false⟩ ?_ ⟨Nat.zero_le _,fun h=>by (cases h),fun _=>rfl⟩ fun x hx=>?_
 ·have e0:sN w p 0=List.replicate w false:=rfl
  refine aK.trans (aK.fz 3 (e:=4) (r:=.bools (List.replicate w false)) rfl rfl (Nat.zero_le _)) (aK.ak rfl ?_ ?_)<;>simp only [go_sem,Int.natCast_succ,e0]
  all_goals first|rfl|exact ⟨rfl,rfl⟩|trace_state
 obtain ⟨y,u⟩:=x
 obtain ⟨hy,hu1,hu2⟩:=hx
 dsimp only at hy hu1 hu2 ⊢
 have hbly:=bl y hy
 have hmy:100*(w+1)*y≤100*(w+1)*h:=Nat.mul_le_mul_left _ hy
 by_cases hylt:y<h
 rotate_left
 ·have f1:((y:Int)<(h:Int))=False:=eq_false (by omega)
  have e:y=h:=by omega
  subst e
  have k2:=zW (eP w p y) (by omega)
  cases u with
  | true=>
   have kst:=gB (eP w p y) (hu1 rfl)
   simp only [cond_true,cond_false,List.cons_append,List.nil_append]
   (repeat' with_reducible first|intro _|refine rz ?_|refine ra ?_ ?_|omega|simp only [go_sem,f1])
   refine ah.i [1,2] kst 2 ?_
   (repeat' with_reducible first|intro _|exact dn|refine rn ?_|refine ra ?_ ?_)
   refine ah.o k2 1 ?_
   (repeat' with_reducible first|intro _|exact dn|refine rn ?_|refine ra ?_ ?_)
   refine aT.auto 1 ?_ rfl ?_<;>simp only [go_sem,Int.natCast_succ,Post]
  | false=>
   have hz:=hu2 rfl
   rw [hz] at k2 ⊢
   have kst:=gK
   simp only [cond_true,cond_false,List.cons_append,List.nil_append]
   (repeat' with_reducible first|intro _|refine rz ?_|refine ra ?_ ?_|omega|simp only [go_sem,f1])
   refine ah.i [1] kst 1 ?_
   (repeat' with_reducible first|intro _|exact dn|refine rn ?_|refine ra ?_ ?_)
   refine ah.o k2 1 ?_
   (repeat' with_reducible first|intro _|exact dn|refine rn ?_|refine ra ?_ ?_)
   refine aT.auto 1 ?_ rfl ?_<;>simp only [go_sem,Int.natCast_succ,Post]
 have f1:((y:Int)<(h:Int))=True:=eq_true (by omega)
 have hl:=iC hp hylt
 have hul:=CV hp hylt
 have kr:=WM w h hw hh p hp y hylt
 have kl:=Rx (rowP w p y) (sN w p y) (by omega) (by omega)
 have hll:=wY (row:=rowP w p y) (above:=sN w p y) (by omega) (by omega)
 have hlp:0<(eY (rowP w p y) (sN w p y)).length:=Hr (by omega) (by omega) (by omega)
 have hsucc:=pO w p y
 have hbly2:=bl (y+1) (by omega)
 have hup:sN w p (y+1)=rowP w p y:=by unfold sN;rw [if_neg (by omega)];rfl
 generalize eY (rowP w p y) (sN w p y)=lb at *
 generalize rowP w p y=rw_ at *
 generalize hup0:sN w p y=ab at *
 generalize hlb0:eP w p y=o0 at *
 cases u with
 | true=>
  have kw2:=dY o0 lb (by omega) (by omega)
  simp only [cond_true,cond_false,List.cons_append,List.nil_append]
  (repeat' with_reducible first|intro _|refine rz ?_|refine ra ?_ ?_|omega|simp only [go_sem,f1])
  refine ah.Ug (.ro (.bools rw_)) kr (by simp only [aI,aQ,bJ,aU,aH,List.drop_zero,lk,reduceIte,reduceCtorEq,Nat.reduceEqDiff,Option.some.injEq,Item.row.injEq,Item.box.injEq,AV.ro.injEq,exists_eq_left,exists_and_left,exists_eq_left',exists_eq_right,and_assoc,and_true,true_and,List.cons.injEq,exists_eq',exists_eq]) (by simp [dG,aQ,aU,bJ,aH,lk,aI]) rfl ?_
  (repeat' with_reducible first|intro _|exact dn|refine rn ?_|refine ra ?_ ?_)
  refine ah.k kl ?_
  (repeat' with_reducible first|intro _|exact dn|refine rn ?_|refine ra ?_ ?_)
  refine ah.i [1,2] kw2 3 ?_
  (repeat' with_reducible first|intro _|exact dn|refine rn ?_|refine ra ?_ ?_)
  refine ah.Ug (.ro (.bools rw_)) kr (by simp only [aI,aQ,bJ,aU,aH,List.drop_zero,lk,reduceIte,reduceCtorEq,Nat.reduceEqDiff,Option.some.injEq,Item.row.injEq,Item.box.injEq,AV.ro.injEq,exists_eq_left,exists_and_left,exists_eq_left',exists_eq_right,and_assoc,and_true,true_and,List.cons.injEq,exists_eq',exists_eq]) (by simp [dG,aQ,aU,bJ,aH,lk,aI]) rfl ?_
  (repeat' with_reducible first|intro _|exact dn|refine rn ?_|refine ra ?_ ?_)
  refine ⟨⟨y+1,true⟩,aK.ak rfl ?_ ?_,⟨by dsimp only;omega,fun _=>by dsimp only;rw [hsucc,List.length_append];omega,fun h=>by (cases h)⟩,by dsimp only;omega⟩<;>simp only [go_sem,Int.natCast_succ,hsucc,hup]
  all_goals first|rfl|exact ⟨rfl,rfl⟩
 | false=>
  have kw2:=gG lb (by omega)
  simp only [cond_true,cond_false,List.cons_append,List.nil_append]
  (repeat' with_reducible first|intro _|refine rz ?_|refine ra ?_ ?_|omega|simp only [go_sem,f1])
  refine ah.Ug (.ro (.bools rw_)) kr (by simp only [aI,aQ,bJ,aU,aH,List.drop_zero,lk,reduceIte,reduceCtorEq,Nat.reduceEqDiff,Option.some.injEq,Item.row.injEq,Item.box.injEq,AV.ro.injEq,exists_eq_left,exists_and_left,exists_eq_left',exists_eq_right,and_assoc,and_true,true_and,List.cons.injEq,exists_eq',exists_eq]) (by simp [dG,aQ,aU,bJ,aH,lk,aI]) rfl ?_
  (repeat' with_reducible first|intro _|exact dn|refine rn ?_|refine ra ?_ ?_)
  refine ah.k kl ?_
  (repeat' with_reducible first|intro _|exact dn|refine rn ?_|refine ra ?_ ?_)
  refine ah.i [1] kw2 2 ?_
  (repeat' with_reducible first|intro _|exact dn|refine rn ?_|refine ra ?_ ?_)
  refine ah.Ug (.ro (.bools rw_)) kr (by simp only [aI,aQ,bJ,aU,aH,List.drop_zero,lk,reduceIte,reduceCtorEq,Nat.reduceEqDiff,Option.some.injEq,Item.row.injEq,Item.box.injEq,AV.ro.injEq,exists_eq_left,exists_and_left,exists_eq_left',exists_eq_right,and_assoc,and_true,true_and,List.cons.injEq,exists_eq',exists_eq]) (by simp [dG,aQ,aU,bJ,aH,lk,aI]) rfl ?_
  (repeat' with_reducible first|intro _|exact dn|refine rn ?_|refine ra ?_ ?_)
  have hz2:eP w p (y+1)=lb:=by rw [hsucc,hu2 rfl,List.nil_append]
  refine ⟨⟨y+1,true⟩,aK.ak rfl ?_ ?_,⟨by dsimp only;omega,fun _=>by dsimp only;rw [hz2];exact hlp,fun h=>by (cases h)⟩,by dsimp only;omega⟩<;>simp only [go_sem,Int.natCast_succ,hz2,hup]
  all_goals first|rfl|exact ⟨rfl,rfl⟩
def dX:List Int→Int
 | []=>0
 | e::l=>if e=0 then dX l else e
set_option maxHeartbeats 2000000 in
theorem oH (l:List Int) (hl:l.length≤1000):aA Tryz.prog 28 [.ro (.ints .i64 l)] (.int .i64 (dX l)) []:=by
 refine aA.aG Tryz.func28 rfl (by decide) (by simp [Tryz.f28]) [.tmp 2] rfl fun w0 T0 _=>?_
 simp only [Tryz.f28,au]
 (repeat' with_reducible first|intro _|exact dn|refine rn ?_|refine ra ?_ ?_)
 refine aF.intro (fun i:Nat=>⟨15,[(7,.int .i64 i),(6,.int .i64 l.length),(5,.ro (.ints .i64 l))],[],0⟩) (fun i=>i≤l.length∧dX (l.drop i)=dX l) (fun i=>l.length - i) 0 ?_ ⟨Nat.zero_le _,rfl⟩ fun i hi=>?_
 ·refine aK.ak rfl ?_ ?_<;>simp only [go_sem,Int.natCast_succ]
 obtain ⟨hi,he⟩:=hi
 (repeat' with_reducible first|intro _|exact dn|refine rn ?_|refine ra ?_ ?_)
 ·have hlt:i<l.length:=by omega
  have hd:l.drop i=l.getD i 0::l.drop (i+1):=by rw [List.drop_eq_getElem_cons hlt,getD_lt hlt]
  rw [hd,dX,if_neg (by omega)] at he
  rw [←he]
  refine aT.auto 0 ?_ rfl ?_<;>simp only [go_sem,Int.natCast_succ,Post]
 ·have hlt:i<l.length:=by omega
  have hd:l.drop i=l.getD i 0::l.drop (i+1):=by rw [List.drop_eq_getElem_cons hlt,getD_lt hlt]
  rw [hd,dX,if_pos (by omega)] at he
  refine ⟨i+1,aK.ak rfl ?_ ?_,⟨by omega,he⟩,by omega⟩<;>simp only [go_sem,Int.natCast_succ]
  all_goals rfl
 ·have e:i=l.length:=by omega
  subst e
  rw [List.drop_length] at he
  rw [←he]
  refine aT.auto 0 ?_ rfl ?_<;>simp only [go_sem,Int.natCast_succ,Post,dX]
set_option maxHeartbeats 4000000 in
theorem lD (w h:Int):aA Tryz.prog 72 [.int .i64 w,.int .i64 h] (.int .i64 (bn w h)) []:=by
 refine aA.aG Tryz.func72 rfl (by decide) (by simp [Tryz.f72]) [.tmp 4] rfl fun w0 T0 _=>?_
 simp only [Tryz.f72,au]
 by_cases hw:1≤w∧w≤4000
 ·by_cases hh:1≤h∧h≤4000
  ·have hm1:0≤w*h:=Int.mul_nonneg (by omega) (by omega)
   have hm2:w*h≤4000*4000:=Int.mul_le_mul hw.2 hh.2 (by omega) (by omega)
   have e:bn w h=dX [if false=true then 3 else 0,if decide (1048576<w*h)=true then 4 else 0]:=by
    unfold bn
    rw [if_neg (by omega)]
    by_cases hc:1048576<w*h<;>simp [dX,hc]
   rw [e]
   (repeat' with_reducible first|intro _|exact dn|refine rn ?_|refine ra ?_ ?_)
   refine ah.k (iw w 1 4000) ?_
   rw [decide_eq_true hw]
   (repeat' with_reducible first|intro _|exact dn|refine rn ?_|refine ra ?_ ?_)
   refine ah.k (iw h 1 4000) ?_
   rw [decide_eq_true hh]
   (repeat' with_reducible first|intro _|exact dn|refine rn ?_|refine ra ?_ ?_)
   refine ah.k (nS false 3) ?_
   (repeat' with_reducible first|intro _|exact dn|refine rn ?_|refine ra ?_ ?_)
   refine ah.k (iw w 1 4000) ?_
   rw [decide_eq_true hw]
   (repeat' with_reducible first|intro _|exact dn|refine rn ?_|refine ra ?_ ?_)
   refine ah.k (iw h 1 4000) ?_
   rw [decide_eq_true hh]
   (repeat' with_reducible first|intro _|exact dn|refine rn ?_|refine ra ?_ ?_)
   refine ah.fr (bZ.eH (nS (decide (1048576<w*h)) 4) rfl rfl) (by simp only [aI,aQ,bJ,aU,aH,List.drop_zero,lk,reduceIte,reduceCtorEq,Nat.reduceEqDiff,Option.some.injEq,Item.row.injEq,Item.box.injEq,AV.ro.injEq,exists_eq_left,exists_and_left,exists_eq_left',exists_eq_right,and_assoc,and_true,true_and,List.cons.injEq,exists_eq',exists_eq]) 0 rfl (by simp [iQ]) ?_
   generalize hx:(if decide (1048576<w*h)=true then (4:Int) else 0)=x
   (repeat' with_reducible first|intro _|exact dn|refine rn ?_|refine ra ?_ ?_)
   refine ah.k (oH [0,x] (by simp)) ?_
   (repeat' with_reducible first|intro _|exact dn|refine rn ?_|refine ra ?_ ?_)
   refine aT.auto 0 ?_ rfl ?_<;>simp only [go_sem,Int.natCast_succ,Post]
  ·have e:bn w h=dX [3,0]:=by
    unfold bn
    rw [if_pos (by omega)];rfl
   rw [e]
   (repeat' with_reducible first|intro _|exact dn|refine rn ?_|refine ra ?_ ?_)
   refine ah.k (iw w 1 4000) ?_
   rw [decide_eq_true hw]
   (repeat' with_reducible first|intro _|exact dn|refine rn ?_|refine ra ?_ ?_)
   refine ah.k (iw h 1 4000) ?_
   rw [decide_eq_false hh]
   (repeat' with_reducible first|intro _|exact dn|refine rn ?_|refine ra ?_ ?_)
   refine ah.k (nS true 3) ?_
   (repeat' with_reducible first|intro _|exact dn|refine rn ?_|refine ra ?_ ?_)
   refine ah.k (iw w 1 4000) ?_
   rw [decide_eq_true hw]
   (repeat' with_reducible first|intro _|exact dn|refine rn ?_|refine ra ?_ ?_)
   refine ah.k (iw h 1 4000) ?_
   rw [decide_eq_false hh]
   (repeat' with_reducible first|intro _|exact dn|refine rn ?_|refine ra ?_ ?_)
   refine ah.k (nS false 4) ?_
   (repeat' with_reducible first|intro _|exact dn|refine rn ?_|refine ra ?_ ?_)
   refine ah.k (oH [3,0] (by simp)) ?_
   (repeat' with_reducible first|intro _|exact dn|refine rn ?_|refine ra ?_ ?_)
   refine aT.auto 0 ?_ rfl ?_<;>simp only [go_sem,Int.natCast_succ,Post]
 ·have e:bn w h=dX [3,0]:=by
   unfold bn
   rw [if_pos (by omega)];rfl
  rw [e]
  (repeat' with_reducible first|intro _|exact dn|refine rn ?_|refine ra ?_ ?_)
  refine ah.k (iw w 1 4000) ?_
  rw [decide_eq_false hw]
  (repeat' with_reducible first|intro _|exact dn|refine rn ?_|refine ra ?_ ?_)
  refine ah.k (nS true 3) ?_
  (repeat' with_reducible first|intro _|exact dn|refine rn ?_|refine ra ?_ ?_)
  refine ah.k (iw w 1 4000) ?_
  rw [decide_eq_false hw]
  (repeat' with_reducible first|intro _|exact dn|refine rn ?_|refine ra ?_ ?_)
  refine ah.k (nS false 4) ?_
  (repeat' with_reducible first|intro _|exact dn|refine rn ?_|refine ra ?_ ?_)
  refine ah.k (oH [3,0] (by simp)) ?_
  (repeat' with_reducible first|intro _|exact dn|refine rn ?_|refine ra ?_ ?_)
  refine aT.auto 0 ?_ rfl ?_<;>simp only [go_sem,Int.natCast_succ,Post]
theorem F9 (w h:Int) (n:Nat) (m:Int) (hm:m=IntKind.i64.wrap (w*h)):jy w h n=dX [bn w h,if decide (¬(n:Int)=m)=true then 2 else 0]:=by
 unfold jy
 by_cases e:bn w h=0
 ·have hs:=fD e
  rw [jM (jX.2 ⟨by omega,by omega⟩)] at hm
  rw [if_pos e]
  by_cases c:(n:Int)=w*h
  ·simp [dX,e,hm,c]
  ·simp [dX,e,hm,c]
 ·rw [if_neg e];simp [dX,e]
set_option maxHeartbeats 4000000 in
theorem EM (w h:Int) (p:List Bool):aA Tryz.prog 46 [.agg [.int .i64 w,.int .i64 h,.ro (.bools p)]] (.int .i64 (jy w h p.length)) []:=by
 obtain ⟨m,hm⟩:∃ m,m=IntKind.i64.wrap (w*h):=⟨_,rfl⟩
 have hmi:jW .i64 m:=by rw [hm];exact dN _ _
 rw [F9 w h p.length m hm]
 refine aA.aG Tryz.func46 rfl (by decide) (by simp [Tryz.f46]) [.tmp 2] rfl fun w0 T0 _=>?_
 simp only [Tryz.f46,au]
 (repeat' with_reducible first|intro _|exact dn|refine rn ?_|refine ra ?_ ?_)
 refine aN.lex [12,15] [(0,[1]),(1,[1]),(2,[1]),(3,[1]),(4,[1]),(5,[1]),(6,[1]),(7,[1])] (by kernel_rfl) (by kernel_rfl) ?_
 (repeat' with_reducible first|intro _|exact dn|refine rn ?_|refine ra ?_ ?_)
 refine QV.intro (.int .i64 (bn w h)) ?_ ?_
 ·(repeat' with_reducible first|intro _|exact dn|refine rn ?_|refine ra ?_ ?_)
  refine ah.k (lD w h) ?_
  (repeat' with_reducible first|intro _|exact dn|refine rn ?_|refine ra ?_ ?_)
 (repeat' with_reducible first|intro _|exact dn|refine rn ?_|refine ra ?_ ?_)
 refine QE.intro (.int .i64 m) [(0,.box 24 [.int .i64 w,.int .i64 h,.ro (.bools p)])] 1 ?_ ?_
 ·simp only [go_sem,hm]
  exact fun n hn _=>hn
 (repeat' with_reducible first|intro _|exact dn|refine rn ?_|refine ra ?_ ?_)
 refine QV.intro (.int .i64 (if decide (¬(p.length:Int)=m)=true then 2 else 0)) ?_ ?_
 ·(repeat' with_reducible first|intro _|exact dn|refine rn ?_|refine ra ?_ ?_)
  refine ah.fr (bZ.eH (nS (decide (¬(p.length:Int)=m)) 2) rfl rfl) (by simp only [aI,aQ,bJ,aU,aH,List.drop_zero,lk,reduceIte,reduceCtorEq,Nat.reduceEqDiff,Option.some.injEq,Item.row.injEq,Item.box.injEq,AV.ro.injEq,exists_eq_left,exists_and_left,exists_eq_left',exists_eq_right,and_assoc,and_true,true_and,List.cons.injEq,exists_eq',exists_eq]) 0 rfl (by simp [iQ]) ?_
  (repeat' with_reducible first|intro _|exact dn|refine rn ?_|refine ra ?_ ?_)
 generalize hx:(if decide (¬(p.length:Int)=m)=true then (2:Int) else 0)=x
 (repeat' with_reducible first|intro _|exact dn|refine rn ?_|refine ra ?_ ?_)
 refine QV.intro (.int .i64 (dX [bn w h,x])) ?_ ?_
 ·(repeat' with_reducible first|intro _|exact dn|refine rn ?_|refine ra ?_ ?_)
  refine ah.k (oH [bn w h,x] (by simp)) ?_
  (repeat' with_reducible first|intro _|exact dn|refine rn ?_|refine ra ?_ ?_)
 (repeat' with_reducible first|intro _|exact dn|refine rn ?_|refine ra ?_ ?_)
 ·refine ah.k (lD w h) ?_
  (repeat' with_reducible first|intro _|exact dn|refine rn ?_|refine ra ?_ ?_)
 ·refine aT.auto 0 ?_ rfl ?_<;>simp only [go_sem,Int.natCast_succ,Post]
end Go.Fv.H
/- shrink.encode, Encode, best: the walk. -/
namespace Go.Fv.H
open Go Go.Proofs
theorem oq (s:Bytes):(jF s).length=(s.length+7) / 8:=yP _ _
theorem Qv (w h:Nat) (p:List Bool):(sS w h p).length≤4+p.length:=by
 unfold sS
 rw [aS]
 have:=RX w h p p.length
 omega
theorem GX {w h:Nat} (hw:w≤4000) (hh:h≤4000) (hwh:w*h≤1048576) {p:List Bool} (hp:p.length=w*h) (kind:Int):(bV w h p kind).length≤100000000:=by
 have b1:41*(w+1)*h≤100000000:=by
  have:(w+1)*h≤1052576:=by rw [Nat.add_mul,Nat.one_mul];omega
  rw [Nat.mul_assoc];omega
 have b2:100*(w+1)*h≤200000000:=by
  have:(w+1)*h≤1052576:=by rw [Nat.add_mul,Nat.one_mul];omega
  rw [Nat.mul_assoc];omega
 have h1:=vK hw hp h (Nat.le_refl _)
 have h2:=rJ hw hp h (Nat.le_refl _)
 have h3:=Qv w h p
 unfold bV
 split
 ·rw [oq,jP];omega
 ·split
  ·omega
  ·split
   ·rw [oq];omega
   ·rw [oq];omega
set_option maxHeartbeats 8000000 in
theorem uY (w h:Nat) (hw0:0<w) (hw:w≤4000) (hh:h≤4000) (hwh:w*h≤1048576) (p:List Bool) (hp:p.length=w*h) (kind:Int) (hk:1≤kind∧kind≤4) :
  aA Tryz.prog 69 [.agg [.int .i64 w,.int .i64 h,.ro (.bools p)],.int .i64 kind] (.str (eu w h p kind)) []:=by
 have hdl:=GX hw hh hwh hp kind
 have kd:=SQ w h hw0 hw hh hwh p hp kind
 have n1:=wO kind kind.toNat 1 (.inl (by omega)) (by omega) (by omega) (by decide)
 have n2:=wO (w:Int) w 2 (.inl rfl) (by omega) (by omega) (by decide)
 have n3:=wO (h:Int) h 2 (.inl rfl) (by omega) (by omega) (by decide)
 have n4:=wO ((bV w h p kind).length:Int) (bV w h p kind).length 4 (.inl rfl) (by omega) (by omega) (by decide)
 rw [show ((1:Nat):Int)=1 from rfl] at n1
 rw [show ((2:Nat):Int)=2 from rfl] at n2 n3
 rw [show ((4:Nat):Int)=4 from rfl] at n4
 have henc:eu w h p kind=headB w h p kind++cO (headB w h p kind):=rfl
 have hhead:headB w h p kind=cZ 1 kind.toNat++cZ 2 w++cZ 2 h++cZ 4 (bV w h p kind).length++bV w h p kind:=rfl
 have hhl:(headB w h p kind).length=9+(bV w h p kind).length:=by
  rw [hhead];simp only [List.length_append,aS]
 have ks:=kS (headB w h p kind) (by omega)
 have hsl:=oQ (headB w h p kind)
 rw [henc]
 have l1:=aS 1 kind.toNat
 have l2:=aS 2 w
 have l3:=aS 2 h
 have l4:=aS 4 (bV w h p kind).length
 have hbl:=dM (bV w h p kind)
 have hbk:=iU (bV w h p kind)
 generalize headB w h p kind=hd at *
 generalize cZ 1 kind.toNat=x1 at *
 generalize cZ 2 w=x2 at *
 generalize cZ 2 h=x3 at *
 generalize cZ 4 (bV w h p kind).length=x4 at *
 generalize bV w h p kind=dt at *
 refine aA.aG Tryz.func69 rfl (by decide) (by simp [Tryz.f69]) [.tmp 4] rfl fun w0 T0 _=>?_
 simp only [Tryz.f69,au]
 (repeat' with_reducible first|intro _|exact dn|refine rn ?_|refine ra ?_ ?_)
 refine ah.o kd 1 ?_
 (repeat' with_reducible first|intro _|exact dn|refine rn ?_|refine ra ?_ ?_)
 refine aN.lex [] [] (by kernel_rfl) (by kernel_rfl) ?_
 (repeat' with_reducible first|intro _|exact dn|refine rn ?_|refine ra ?_ ?_)
 (refine QV.intro (.str x1) ?_ ?_;focus ((repeat' with_reducible first|intro _|exact dn|refine rn ?_|refine ra ?_ ?_);refine ah.k (n1) ?_;(repeat' with_reducible first|intro _|exact dn|refine rn ?_|refine ra ?_ ?_)))
 (repeat' with_reducible first|intro _|exact dn|refine rn ?_|refine ra ?_ ?_)
 (refine QV.intro (.str x2) ?_ ?_;focus ((repeat' with_reducible first|intro _|exact dn|refine rn ?_|refine ra ?_ ?_);refine ah.k (n2) ?_;(repeat' with_reducible first|intro _|exact dn|refine rn ?_|refine ra ?_ ?_)))
 (repeat' with_reducible first|intro _|exact dn|refine rn ?_|refine ra ?_ ?_)
 (refine QV.intro (.str x3) ?_ ?_;focus ((repeat' with_reducible first|intro _|exact dn|refine rn ?_|refine ra ?_ ?_);refine ah.k (n3) ?_;(repeat' with_reducible first|intro _|exact dn|refine rn ?_|refine ra ?_ ?_)))
 (repeat' with_reducible first|intro _|refine rz ?_|refine ra ?_ ?_|omega|simp only [go_sem,hbl])
 (refine QV.intro (.str x4) ?_ ?_;focus ((repeat' with_reducible first|intro _|exact dn|refine rn ?_|refine ra ?_ ?_);refine ah.k (n4) ?_;(repeat' with_reducible first|intro _|exact dn|refine rn ?_|refine ra ?_ ?_)))
 (repeat' with_reducible first|intro _|refine rz ?_|refine ra ?_ ?_|omega|simp only [go_sem,hbl,hbk])
 rw [←hhead]
 refine ah.k ks ?_
 (repeat' with_reducible first|intro _|exact dn|refine rn ?_|refine ra ?_ ?_)
 refine aT.auto 0 ?_ rfl ?_<;>simp only [go_sem,Int.natCast_succ,Post]
end Go.Fv.H
/- shrink.Encode, Context, Best: the walk. -/
namespace Go.Fv.H
open Go Go.Proofs
structure zo (w h:Nat) (p:List Bool):Prop where
 w0:0<w
 w1:w≤4000
 h0:0<h
 h1:h≤4000
 wh:w*h≤1048576
 p:p.length=w*h
theorem nY (kind:Int):aA Tryz.prog 66 [.int .i64 kind] (.bool (decide (1≤kind∧kind≤4))) []:=by
 refine aA.aG Tryz.func66 rfl (by decide) (by simp [Tryz.f66]) [.tmp 2] rfl fun w0 T0 _=>?_
 simp only [Tryz.f66,au]
 (repeat' with_reducible first|intro _|exact dn|refine rn ?_|refine ra ?_ ?_)
 refine aT.auto 0 ?_ rfl ?_<;>simp only [go_sem,Int.natCast_succ,Post]
def fF (w h:Nat) (p:List Bool):Nat→Bytes × Int
 | 0=>([],0)
 | k+1=>if (fF w h p k).2=0∨(eu w h p ((k:Int)+1)).length<(fF w h p k).1.length then (eu w h p ((k:Int)+1),(k:Int)+1) else fF w h p k
set_option maxHeartbeats 4000000 in
theorem Xu (w h:Nat) (p:List Bool) (g:zo w h p) :
  aA Tryz.prog 78 [.agg [.int .i64 w,.int .i64 h,.ro (.bools p)]] (.tup [.str (fF w h p 4).1,.int .i64 (fF w h p 4).2]) []:=by
 refine aA.aG Tryz.func78 rfl (by decide) (by simp [Tryz.f78]) [.tmp 2,.tmp 3] rfl fun w0 T0 _=>?_
 simp only [Tryz.f78,au]
 (repeat' with_reducible first|intro _|exact dn|refine rn ?_|refine ra ?_ ?_)
 refine aF.intro (fun i:Nat=>⟨26,[(4,.int .i64 ((i:Int)+1)),(3,.int .i64 (fF w h p i).2),(2,.str (fF w h p i).1),(1,.ptr 0 0)],[(0,.box 24 [.int .i64 w,.int .i64 h,.ro (.bools p)])],1⟩) (fun i=>i≤4) (fun i=>4 - i) 0 ?_ (Nat.zero_le _) fun i hi=>?_
 ·refine aK.ak rfl ?_ ?_<;>simp only [go_sem,Int.natCast_succ]
  all_goals first|rfl|exact ⟨rfl,rfl⟩|exact ⟨rfl,rfl,rfl⟩
 by_cases hlt:i<4
 ·have f1:((i:Int)+1≤4)=True:=eq_true (by omega)
  have ke:=uY w h g.w0 g.w1 g.h1 g.wh p g.p ((i:Int)+1) (by omega)
  have hst:fF w h p (i+1)=if (fF w h p i).2=0∨(eu w h p ((i:Int)+1)).length<(fF w h p i).1.length then (eu w h p ((i:Int)+1),(i:Int)+1) else fF w h p i:=rfl
  generalize eu w h p ((i:Int)+1)=e at *
  generalize hb:fF w h p i=b at *
  obtain ⟨s,k⟩:=b
  dsimp only at *
  (repeat' with_reducible first|intro _|refine rz ?_|refine ra ?_ ?_|omega|simp only [go_sem,f1])
  refine ah.k ke ?_
  by_cases h0:k=0
  ·have f2:(k=0)=True:=eq_true h0
   rw [if_pos (.inl h0)] at hst
   (repeat' with_reducible first|intro _|refine rz ?_|refine ra ?_ ?_|omega|simp only [go_sem,f2])
   refine ⟨i+1,aK.ak rfl ?_ ?_,by omega,by omega⟩<;>simp only [go_sem,Int.natCast_succ,hst]
  have f2:(k=0)=False:=eq_false h0
  by_cases h3:e.length<s.length
  ·have f3:((e.length:Int)<(s.length:Int))=True:=eq_true (by omega)
   rw [if_pos (.inr h3)] at hst
   (repeat' with_reducible first|intro _|refine rz ?_|refine ra ?_ ?_|omega|simp only [go_sem,f2,f3])
   refine ⟨i+1,aK.ak rfl ?_ ?_,by omega,by omega⟩<;>simp only [go_sem,Int.natCast_succ,hst]
  ·have f3:((e.length:Int)<(s.length:Int))=False:=eq_false (by omega)
   rw [if_neg (fun q=>q.elim h0 h3)] at hst
   (repeat' with_reducible first|intro _|refine rz ?_|refine ra ?_ ?_|omega|simp only [go_sem,f2,f3])
   refine ⟨i+1,aK.ak rfl ?_ ?_,by omega,by omega⟩<;>simp only [go_sem,Int.natCast_succ,hst]
 ·have f1:((i:Int)+1≤4)=False:=eq_false (by omega)
  have e:i=4:=by omega
  subst e
  (repeat' with_reducible first|intro _|refine rz ?_|refine ra ?_ ?_|omega|simp only [go_sem,f1])
  refine aT.auto 0 ?_ rfl ?_<;>simp only [go_sem,Int.natCast_succ,Post]
end Go.Fv.H
/- The reading of a page, in plain words. -/
namespace Go.Fv.H
open Go
structure DQ where
 (w h:Nat) (p:List Bool) (e:Int)
def dK (s:Bytes):Nat:=aW (s.take 1)
def dW (s:Bytes):Nat:=aW ((s.drop 1).take 2)
def dH (s:Bytes):Nat:=aW ((s.drop 3).take 2)
def dL (s:Bytes):Nat:=aW ((s.drop 5).take 4)
def dD (s:Bytes):Bytes:=(s.drop 9).take (s.length - 17)
def yh (s:Bytes):List Bool × Bool:=mW (dK s) (dW s) (dH s) (dD s)
def DF (e:Int):DQ:=⟨0,0,[],e⟩
def Ld (s:Bytes):Prop:=(yh s).2=true∧eu (dW s) (dH s) (yh s).1 (dK s)=s
instance (s:Bytes):Decidable (Ld s):=inferInstanceAs (Decidable (_∧_))
def qo (s:Bytes):DQ:=
 if 2097152<s.length then DF 4
 else if s.length<17∨s.length≠17+dL s then DF 8
 else if cO (s.take (s.length - 8))≠s.drop (s.length - 8) then DF 14
 else if ¬(1≤dK s∧dK s≤4) then DF 1
 else if bn (dW s) (dH s)≠0 then DF (bn (dW s) (dH s))
 else if Ld s then ⟨dW s,dH s,(yh s).1,0⟩ else DF 8
theorem PN {n:Nat} {s:Bytes} (h:(kQ n s).2=true):(kQ n s).1.length=n:=by
 unfold kQ at h ⊢
 split at h
 ·cases h
 ·rename_i hs
  rw [if_neg hs]
  unfold oM
  rw [List.length_map,List.length_take];omega
theorem Ik (w:Nat):∀ (f:Nat) (n:Nat) (ink:Bool) (s:Bytes),s.length≤f→n≤w→∀ t,(fM w n ink s).2=some t→(fM w n ink s).1.length=w - n
 | f,n,ink,s,hf,hn,t,h=>by
  by_cases hnw:n<w
  rotate_left
  ·rw [vG hnw]
   show (0:Nat)=_;omega
  cases hrd:o7 s with
  | none=>rw [xA hnw ink hrd] at h;cases h
  | some z=>
   obtain ⟨m,l⟩:=z
   by_cases hov:w - n<m - 1
   ·rw [xB hnw ink hrd hov] at h;cases h
   rw [rU hnw ink hrd hov] at h ⊢
   have h1:=CQ hrd
   have h2:=kR hrd
   cases f with
   | zero=>omega
   | succ f=>
    have ih:=Ik w f (n+(m - 1)) (!ink) (s.drop l) (by rw [List.length_drop];omega) (by omega) t h
    show (List.replicate (m - 1) ink++_).length=_
    rw [List.length_append,List.length_replicate,ih];omega
theorem EU (w:Nat):∀ (h:Nat) (s:Bytes),(dP w h s).2=true→(dP w h s).1.length=w*h
 | 0,s,_=>rfl
 | h+1,s,hq=>by
  have e:dP w (h+1) s=jJ (dP w h) (fM w 0 false s):=rfl
  rw [e] at hq ⊢
  have hl:=Ik w s.length 0 false s (Nat.le_refl _) (Nat.zero_le _)
  generalize fM w 0 false s=q at *
  obtain ⟨q1,q2⟩:=q
  cases q2 with
  | none=>cases hq
  | some t=>
   have hq2:(dP w h t).2=true:=hq
   have ih:=EU w h t hq2
   have:=hl t rfl
   show (q1++(dP w h t).1).length=_
   rw [List.length_append,ih,Nat.mul_succ]
   dsimp only at this
   omega
theorem Ej (w:Nat):∀ (h:Nat) (ab:List Bool) (s:Bytes),ab.length=w→(dA h ab s).2=true→(dA h ab s).1.length=w*h
 | 0,_,_,_,_=>rfl
 | h+1,ab,s,ha,hq=>by
  cases hr:dU true ab s with
  | none=>
   have e:dA (h+1) ab s=([],false):=by
    show (match dU true ab s with|none=>_|some (r,n)=>_)=_
    rw [hr]
   rw [e] at hq;cases hq
  | some z=>
   obtain ⟨r,n⟩:=z
   have e:dA (h+1) ab s=(r++(dA h r (s.drop n)).1,(dA h r (s.drop n)).2):=by
    show (match dU true ab s with|none=>_|some (r,n)=>_)=_
    rw [hr]
   rw [e] at hq ⊢
   have hrl:=(uy hr).1
   have ih:=Ej w h r (s.drop n) (by omega) hq
   show (r++(dA h r (s.drop n)).1).length=_
   rw [List.length_append,ih,Nat.mul_succ];omega
theorem EF {kind:Int} {w h:Nat} {d:Bytes} (hq:(mW kind w h d).2=true):(mW kind w h d).1.length=w*h:=by
 unfold mW at hq ⊢
 split at hq
 ·rename_i h4;rw [if_pos h4];exact (xR w h d (w*h) (w*h)).P
 ·rename_i h4
  rw [if_neg h4]
  split at hq
  ·rename_i h1;rw [if_pos h1];exact PN hq
  ·rename_i h1
   rw [if_neg h1]
   split at hq
   ·rename_i h2;rw [if_pos h2];exact EU w h _ hq
   ·rename_i h2;rw [if_neg h2];exact Ej w h _ _ List.length_replicate hq
theorem Hq (w h:Nat) (p:List Bool) (kind:Int):(headB w h p kind).length=9+(bV w h p kind).length:=by
 unfold headB
 simp only [List.length_append,aS]
theorem tK (w h:Nat) (p:List Bool) (kind:Int):(eu w h p kind).length=17+(bV w h p kind).length:=by
 unfold eu
 rw [List.length_append,Hq,oQ];omega
theorem qy (w h:Nat) (p:List Bool) (kind:Int):eu w h p kind=cZ 1 kind.toNat++(cZ 2 w++(cZ 2 h++(cZ 4 (bV w h p kind).length++(bV w h p kind++cO (headB w h p kind))))):=by
 unfold eu
 generalize cO (headB w h p kind)=S
 unfold headB
 simp only [List.append_assoc]
theorem take_len {a b:Bytes} {n:Nat} (h:a.length=n):(a++b).take n=a:=by rw [←h,List.take_left]
theorem tJ {a b:Bytes} {n:Nat} (h:a.length=n):(a++b).drop n=b:=by rw [←h,List.drop_left]
theorem qw {a b:Bytes} {n m:Nat} (h:a.length=n):(a++b).drop (n+m)=b.drop m:=by rw [←List.drop_drop,tJ h]
theorem Y6 (w h:Nat) (p:List Bool) {kind:Int} (hk:1≤kind∧kind≤4):(dK (eu w h p kind):Int)=kind:=by
 unfold dK
 rw [qy,take_len (aS _ _),pU,Nat.mod_eq_of_lt (by omega)];omega
theorem Y8 {w:Nat} (h:Nat) (p:List Bool) (kind:Int) (hw:w≤4000):dW (eu w h p kind)=w:=by
 unfold dW
 rw [qy,tJ (aS _ _),take_len (aS _ _),pU,Nat.mod_eq_of_lt (by omega)]
theorem Y5 (w:Nat) {h:Nat} (p:List Bool) (kind:Int) (hh:h≤4000):dH (eu w h p kind)=h:=by
 unfold dH
 rw [qy,show (3:Nat)=1+2 from rfl,qw (aS _ _),tJ (aS _ _),take_len (aS _ _),pU,Nat.mod_eq_of_lt (by omega)]
theorem Y7 (w h:Nat) (p:List Bool) (kind:Int) (hd:(bV w h p kind).length≤100000000):dL (eu w h p kind)=(bV w h p kind).length:=by
 unfold dL
 rw [qy,show (5:Nat)=1+(2+2) from rfl,qw (aS _ _),qw (aS _ _),tJ (aS _ _),take_len (aS _ _),pU,Nat.mod_eq_of_lt (by omega)]
theorem U3 (w h:Nat) (p:List Bool) (kind:Int):dD (eu w h p kind)=bV w h p kind:=by
 unfold dD
 have hl:=tK w h p kind
 have e:(eu w h p kind).length - 17=(bV w h p kind).length:=by omega
 rw [e,qy,show (9:Nat)=1+(2+(2+4)) from rfl,qw (aS _ _),qw (aS _ _),qw (aS _ _),tJ (aS _ _),take_len rfl]
theorem U4 (w h:Nat) (p:List Bool) (kind:Int):cO ((eu w h p kind).take ((eu w h p kind).length - 8))=(eu w h p kind).drop ((eu w h p kind).length - 8):=by
 have hl:=tK w h p kind
 have hl2:=Hq w h p kind
 have e:(eu w h p kind).length - 8=(headB w h p kind).length:=by omega
 rw [e]
 unfold eu
 rw [List.take_left,List.drop_left]
theorem U5 {w h:Nat} {p:List Bool} (g:zo w h p) {kind:Int} (hk:1≤kind∧kind≤4) (hs:(eu w h p kind).length≤2097152):qo (eu w h p kind)=⟨w,h,p,0⟩:=by
 have hl:=tK w h p kind
 have k1:=Y6 w h p hk
 have k2:=Y8 h p kind g.w1
 have k3:=Y5 w p kind g.h1
 have k4:=Y7 w h p kind (by omega)
 have k5:=U3 w h p kind
 have k6:=U4 w h p kind
 have hpg:yh (eu w h p kind)=(p,true):=by
  unfold yh
  rw [k1,k2,k3,k5]
  exact TU g.w0 g.w1 g.p hk
 unfold qo
 rw [if_neg (by omega),if_neg (by omega),if_neg (fun h=>h k6),if_neg (by omega)]
 have hsz:bn (w:Int) (h:Int)=0:=by
  have e:((w:Int)*(h:Int))=((w*h:Nat):Int):=(Int.natCast_mul w h).symm
  have g1:=g.w0
  have g2:=g.w1
  have g3:=g.h0
  have g4:=g.h1
  have g5:=g.wh
  exact Qa (by omega) (by omega) (by omega) (by omega) (by rw [e];omega)
 have hgood:Ld (eu w h p kind):=⟨by rw [hpg],by rw [hpg,k1,k2,k3]⟩
 rw [k2,k3,if_neg (fun h=>h hsz),if_pos hgood,hpg]
def qO (kind:Int) (w h:Nat) (d:Bytes):List Bool × Bool:=if kind=4 then kZ w h d (w*h) else mW kind w h d
def Bl (s:Bytes):List Bool × Bool:=qO (dK s) (dW s) (dH s) (dD s)
def MX (s:Bytes):Prop:=(Bl s).2=true∧eu (dW s) (dH s) (Bl s).1 (dK s)=s
instance (s:Bytes):Decidable (MX s):=inferInstanceAs (Decidable (_∧_))
theorem Nv {kind:Int} {w h:Nat} {d:Bytes} (hq:(qO kind w h d).2=true):(qO kind w h d).1.length=w*h:=by
 unfold qO at hq ⊢
 split at hq
 ·rename_i h4;rw [if_pos h4];exact Ur w h d (w*h)
 ·rename_i h4;rw [if_neg h4];exact EF hq
theorem Wy {s:Bytes} (hw:0<dW s):(MX s↔Ld s)∧(MX s→(Bl s).1=(yh s).1):=by
 unfold MX Ld Bl yh qO
 by_cases h4:(dK s:Int)=4
 ·rw [if_pos h4,h4]
  have hp:mW 4 (dW s) (dH s) (dD s)=((dJ (dW s) (dH s) (dD s) (dW s*dH s) (dW s*dH s)).P,true):=by unfold mW;rw [if_pos rfl]
  rw [hp]
  dsimp only
  have hn:=(xR (dW s) (dH s) (dD s) (dW s*dH s) (dW s*dH s)).P
  refine ⟨⟨fun ⟨h1,h2⟩=>⟨rfl,by rw [←NT h1];exact h2⟩,fun ⟨_,h2⟩=>?_⟩,fun ⟨h1,h2⟩=>NT h1⟩
  have hd:dD s=sS (dW s) (dH s) (dJ (dW s) (dH s) (dD s) (dW s*dH s) (dW s*dH s)).P:=by
   have e:=congrArg dD h2
   rw [U3] at e
   exact e.symm
  generalize (dJ (dW s) (dH s) (dD s) (dW s*dH s) (dW s*dH s)).P=P at *
  rw [hd,←hn,Qh (dW s) (dH s) P hw]
  exact ⟨rfl,h2⟩
 ·rw [if_neg h4]
  exact ⟨Iff.rfl,fun _=>rfl⟩
end Go.Fv.H
/- What Take and Check answer, in plain words. -/
namespace Go.Fv.H
open Go Go.Proofs
def gV (s name:Bytes):DQ:=
 if (bU s).2≠0 then DF (bU s).2
 else if eU name=true then
  match (bU s).1.find? (fun x=>decide (x.n=name)) with
  | some x=>qo ((s.drop x.a).take x.k)
  | none=>DF 10
 else DF 5
def KX (s:Bytes):List En→Nat→Nat × Int
 | [],i=>(i,0)
 | x::l,i=>if (qo ((s.drop x.a).take x.k)).e≠0 then (i,(qo ((s.drop x.a).take x.k)).e) else KX s l (i+1)
def SK (s:Bytes):Nat × Int:=if (bU s).2≠0 then (0,(bU s).2) else KX s (bU s).1 0
def rowsOf {α:Type} (w:Nat) (p:Nat→Nat→α) (n:Nat):List α:=(List.range n).map fun k=>p (k%w) (k / w)
theorem P7 {α:Type} (w:Nat) (p:Nat→Nat→α) (n:Nat):(rowsOf w p n).length=n:=by simp [rowsOf]
theorem Nu {α:Type} {w:Nat} (p:Nat→Nat→α) {x y:Nat} (hx:x<w):rowsOf w p (y*w+(x+1))=rowsOf w p (y*w+x)++[p x y]:=by
 unfold rowsOf
 rw [←Nat.add_assoc,List.range_succ,List.map_append]
 have e1:(y*w+x)%w=x:=by rw [Nat.mul_comm,Nat.mul_add_mod,Nat.mod_eq_of_lt hx]
 have e2:(y*w+x) / w=y:=by rw [Nat.mul_comm,Nat.mul_add_div (by omega),Nat.div_eq_of_lt hx,Nat.add_zero]
 simp [e1,e2]
set_option maxHeartbeats 1000000 in
theorem X3 (w h:Nat) (hw:w≤4000) (hh:h≤4000) (f:Nat) (caps:List AV) [IG caps] (p:Nat→Nat→Bool) (hp:∀ x y:Nat,x<w→y<h→bZ Tryz.prog f ([.int .i64 x,.int .i64 y]++caps) (.bool (p x y)) []) :
  aA Tryz.prog 52 [.int .i64 w,.int .i64 h,.fn f caps] (.agg [.int .i64 w,.int .i64 h,.own 0]) [(0,.row 4 (.bools (rowsOf w p (h*w))))]:=by
 refine aA.aG Tryz.func52 rfl (by decide) (by simp [Tryz.f52]) [.cell 6 24] rfl fun w0 T0 _=>?_
 simp only [Tryz.f52,au]
 simp only [go_sem]
 (repeat' first|(with_reducible refine sQ.intro fun _=>?_)|((with_reducible refine bD.intro ?_ ?_);(· first|omega|(with_reducible refine bD.intro ?_ ?_<;>omega)|(simp;done)|(simp;omega)))|((with_reducible refine bY.i64 ?_ ?_ ?_);(· omega);(· omega))|((with_reducible refine Ite.decide (fun _=>?_) (fun _=>?_))<;>first|(exfalso;omega)|simp only [go_sem])|((with_reducible refine Ite.bool (fun _=>?_) (fun _=>?_))<;>simp only [go_sem])|(with_reducible refine And.intro ?_ ?_))
 refine aF.intro (fun y:Nat=>⟨33,[(14,.int .i64 y),(13,.int .i64 h),(7,.ptr 1 0),(6,.ptr 0 0),(0,.int .i64 w),(2,.fn f caps)],[(1,.box 24 [.int .i64 w,.int .i64 h,.own 2]),(0,.box 24 [.int .i64 0,.int .i64 0,.nilS]),(2,.row 4 (.bools (rowsOf w p (y*w))))],3⟩) (fun y=>y≤h) (fun y=>h - y) 0 ?_ (Nat.zero_le _) fun y hy=>?_
 ·refine aK.trans (aK.jD (P:=Tryz.prog) 1 2 4 e4 rfl rfl) (aK.ak rfl ?_ ?_)<;>simp only [go_sem,Int.natCast_succ,rowsOf,put,Nat.zero_mul,List.range_zero,List.map_nil]
 simp only [go_sem]
 (repeat' first|(with_reducible refine sQ.intro fun _=>?_)|((with_reducible refine bD.intro ?_ ?_);(· first|omega|(with_reducible refine bD.intro ?_ ?_<;>omega)|(simp;done)|(simp;omega)))|((with_reducible refine bY.i64 ?_ ?_ ?_);(· omega);(· omega))|((with_reducible refine Ite.decide (fun _=>?_) (fun _=>?_))<;>first|(exfalso;omega)|simp only [go_sem])|((with_reducible refine Ite.bool (fun _=>?_) (fun _=>?_))<;>simp only [go_sem])|(with_reducible refine And.intro ?_ ?_))
 ·refine aF.intro (fun x:Nat=>⟨33,[(18,.int .i64 x),(17,.int .i64 w),(8,.int .i64 y),(14,.int .i64 y),(13,.int .i64 h),(7,.ptr 1 0),(6,.ptr 0 0),(0,.int .i64 w),(2,.fn f caps)],[(1,.box 24 [.int .i64 w,.int .i64 h,.own 2]),(0,.box 24 [.int .i64 0,.int .i64 0,.nilS]),(2,.row 4 (.bools (rowsOf w p (y*w+x))))],3⟩) (fun x=>x≤w) (fun x=>w - x) 0 ?_ (Nat.zero_le _) fun x hx=>?_
  ·refine aK.ak rfl ?_ ?_<;>simp only [go_sem,Int.natCast_succ]
  simp only [go_sem]
  (repeat' first|(with_reducible refine sQ.intro fun _=>?_)|((with_reducible refine bD.intro ?_ ?_);(· first|omega|(with_reducible refine bD.intro ?_ ?_<;>omega)|(simp;done)|(simp;omega)))|((with_reducible refine bY.i64 ?_ ?_ ?_);(· omega);(· omega))|((with_reducible refine Ite.decide (fun _=>?_) (fun _=>?_))<;>first|(exfalso;omega)|simp only [go_sem])|((with_reducible refine Ite.bool (fun _=>?_) (fun _=>?_))<;>simp only [go_sem])|(with_reducible refine And.intro ?_ ?_))
  ·refine aN.lex [6,7,9] [(0,[1]),(1,[1])] (by kernel_rfl) (by kernel_rfl) ?_
   simp only [go_sem]
   (repeat' first|(with_reducible refine sQ.intro fun _=>?_)|((with_reducible refine bD.intro ?_ ?_);(· first|omega|(with_reducible refine bD.intro ?_ ?_<;>omega)|(simp;done)|(simp;omega)))|((with_reducible refine bY.i64 ?_ ?_ ?_);(· omega);(· omega))|((with_reducible refine Ite.decide (fun _=>?_) (fun _=>?_))<;>first|(exfalso;omega)|simp only [go_sem])|((with_reducible refine Ite.bool (fun _=>?_) (fun _=>?_))<;>simp only [go_sem])|(with_reducible refine And.intro ?_ ?_))
   refine QV.intro (.bool (p x y)) ?_ ?_
   ·simp only [go_sem]
    refine ah.fr (args':=[.int .i64 x,.int .i64 y]++caps) (hp x y (by omega) (by omega)) (by simp [aQ,aU,aH,Oo]) 0 rfl (by simp [iQ]) ?_
    simp only [go_sem]
   ·simp only [go_sem]
    have hb:y*w+x≤4000*4000+4000:=Nat.add_le_add (Nat.mul_le_mul (by omega) hw) (by omega)
    have hr:=P7 w p (y*w+x)
    have hs:=Nu p (x:=x) (y:=y) (w:=w) (by omega)
    (repeat' first|(with_reducible refine sQ.intro fun _=>?_)|((with_reducible refine bD.intro ?_ ?_);(· first|omega|(with_reducible refine bD.intro ?_ ?_<;>omega)|(simp;done)|(simp;omega)))|((with_reducible refine bY.i64 ?_ ?_ ?_);(· omega);(· omega))|((with_reducible refine Ite.decide (fun _=>?_) (fun _=>?_))<;>first|(exfalso;omega)|simp only [go_sem])|((with_reducible refine Ite.bool (fun _=>?_) (fun _=>?_))<;>simp only [go_sem])|(with_reducible refine And.intro ?_ ?_))
    refine ⟨x+1,aK.ak rfl ?_ ?_,by omega,by omega⟩<;>simp only [go_sem,Int.natCast_succ,hs]
    all_goals rfl
  ·refine ⟨y+1,aK.ak rfl ?_ ?_,by omega,by omega⟩<;>simp only [go_sem,Int.natCast_succ]
   have e:x=w:=by omega
   all_goals first|rfl|rw [e,Nat.succ_mul]
 ·have e:y=h:=by omega
  subst e
  refine aT.auto 1 ?_ rfl ?_<;>simp only [go_sem,Int.natCast_succ,Post]
  all_goals simp only [go_sem]
theorem YX (a:Int) (m:Nat) (hm:m<2 ^ 63):0≤gY .and .i64 a m∧gY .and .i64 a m≤m:=by
 unfold gY
 dsimp only
 have h1:(BitVec.ofInt 64 a &&& BitVec.ofInt 64 (m:Int)).toNat≤m:=by
  rw [BitVec.toNat_and]
  refine Nat.le_trans Nat.and_le_right ?_
  rw [BitVec.ofInt_natCast,BitVec.toNat_ofNat]
  exact Nat.mod_le _ _
 rw [show IntKind.i64.bits=64 from rfl]
 rw [jM (jX.2 ⟨by omega,by omega⟩)]
 omega
def qA (a:Int) (m:Nat):Nat:=(1+gY .and .i64 a m).toNat
theorem Q5 (a:Int) (m:Nat) (hm:m<2 ^ 63):1≤qA a m∧qA a m≤m+1∧1+gY .and .i64 a m=((qA a m:Nat):Int):=by
 have:=YX a m hm
 unfold qA;omega
def Tm (p:List Bool) (w x y:Nat):Bool:=decide (0<p.length) && p.getD ((y*w+x)%p.length) false
set_option maxHeartbeats 2000000 in
theorem XI (W H:Int) (p:List Bool) (w x y:Nat) (hw:w≤32) (hx:x<w) (hy:y<32) :
  aA Tryz.prog 53 [.int .i64 x,.int .i64 y,.cell [.int .i64 W,.int .i64 H,.ro (.bools p)],.cell [.int .i64 w]] (.bool (Tm p w x y)) []:=by
 have b1:y*w≤32*32:=Nat.mul_le_mul (by omega) hw
 have hm:=Nat.mod_lt (y*w+x) (y:=p.length)
 refine aA.aG Tryz.func53 rfl (by decide) (by simp [Tryz.f53]) [.tmp 6] rfl fun w0 T0 _=>?_
 simp only [Tryz.f53,au]
 (repeat' with_reducible first|intro _|exact dn|refine rn ?_|refine ra ?_ ?_)
 refine aN.lex [] [] (by kernel_rfl) (by kernel_rfl) ?_
 (repeat' with_reducible first|intro _|refine rz ?_|refine ra ?_ ?_|omega|simp only [go_sem,up_mul,up_add,up_tmod,Int.toNat_natCast])
 refine aT.auto 0 ?_ rfl ?_<;>simp only [go_sem,Int.natCast_succ,Post,Tm]
 simp
set_option maxHeartbeats 2000000 in
theorem Zh (W H:Int) (p:List Bool) :
  aA Tryz.prog 12 [.agg [.int .i64 W,.int .i64 H,.ro (.bools p)]] (.agg [.int .i64 (qA W 31),.int .i64 (qA H 31),.own 0]) [(0,.row 4 (.bools (rowsOf (qA W 31) (Tm p (qA W 31)) (qA H 31*qA W 31))))]:=by
 obtain ⟨w1,w2,w3⟩:=Q5 W 31 (by decide)
 obtain ⟨h1,h2,h3⟩:=Q5 H 31 (by decide)
 replace w3:1+gY .and .i64 W 31=((qA W 31:Nat):Int):=w3
 replace h3:1+gY .and .i64 H 31=((qA H 31:Nat):Int):=h3
 generalize qA W 31=w at *
 generalize qA H 31=h at *
 haveI c1:IG [.cell [.int .i64 W,.int .i64 H,.ro (.bools p)],.cell [.int .i64 w]]:=⟨rfl⟩
 have k1:=X3 w h (by omega) (by omega) 53 [.cell [.int .i64 W,.int .i64 H,.ro (.bools p)],.cell [.int .i64 w]] (Tm p w)
  (fun x y hx hy=>bZ.eH (XI W H p w x y (by omega) hx (by omega)) rfl rfl)
 generalize rowsOf w (Tm p w) (h*w)=out at *
 refine aA.aG Tryz.func12 rfl (by decide) (by simp [Tryz.f12]) [.cell 2 24] rfl fun w0 T0 _=>?_
 simp only [Tryz.f12,au]
 (repeat' with_reducible first|intro _|exact dn|refine rn ?_|refine ra ?_ ?_)
 refine aN.lex [8,9] [(0,[1]),(1,[1]),(2,[1]),(3,[1]),(4,[1,2]),(5,[1,2]),(6,[1,2]),(7,[1,2])] (by kernel_rfl) (by kernel_rfl) ?_
 (repeat' with_reducible first|intro _|refine rz ?_|refine ra ?_ ?_|omega|simp only [go_sem,w3,h3])
 refine ah.o k1 1 ?_
 (repeat' with_reducible first|intro _|exact dn|refine rn ?_|refine ra ?_ ?_)
 refine aT.auto 1 ?_ rfl ?_<;>simp only [go_sem,Int.natCast_succ,Post]
 all_goals simp only [go_sem]
end Go.Fv.H
