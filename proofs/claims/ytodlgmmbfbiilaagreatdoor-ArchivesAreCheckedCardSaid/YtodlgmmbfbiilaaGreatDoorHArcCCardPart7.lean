/-
  A part of the proof of the claim: walks over the program's functions and the plain laws that these need. No condition of its own.
-/
import Derived.Test.YtodlgmmbfbiilaaGreatDoorHArcCCardPart3
import Derived.Test.YtodlgmmbfbiilaaGreatDoorHArcCCardPart5
import Derived.Test.YtodlgmmbfbiilaaGreatDoorHArcCCardPart6
import Derived.Test.YtodlgmmbfbiilaaGreatDoorHArcCCardPart4
import Derived.Test.YtodlgmmbfbiilaaGreatDoorHArcCCardPart2
import Derived.Test.YtodlgmmbfbiilaaGreatDoorFvPart10
set_option linter.unusedSimpArgs false
set_option linter.unusedVariables false
set_option linter.unnecessarySimpa false
set_option maxRecDepth 8000
/- shrink.dataOf: the walk. -/
namespace Go.Fv.H
open Go Go.Proofs
theorem wY {row above:List Bool} (hr:row.length≤4000) (hw:above.length=row.length):(eX row above).length≤100*(row.length+1):=by
 have key:∀ (f p:Nat) (ink:Bool),row.length+1 - p≤f→(mX row above p ink).length≤100*f:=by
  intro f
  induction f with
  | zero=>intro p ink h;rw [kP (by omega)];simp
  | succ f ih=>
   intro p ink h
   by_cases hp:p≤row.length
   ·have hs:=lD hw hp ink
    have hsh:=yP (above:=above) hr p ink
    rw [oq hw hp,List.length_append]
    have:=ih (aW row above p ink).p (aW row above p ink).k (by omega)
    omega
   ·rw [kP hp];simp
 unfold eX
 split
 ·simp
 ·exact key (row.length+1) 0 false (by omega)
theorem Dq {w h:Nat} {p:List Bool} (hp:p.length=w*h) {y:Nat} (hy:y<h):(sS w p y).length=w:=by
 unfold sS
 split
 ·exact List.length_replicate
 ·exact iD hp (by omega)
theorem pX (w:Nat) (p:List Bool) (y:Nat):eU w p (y+1)=eU w p y++eX (rowP w p y) (sS w p y):=by
 unfold eU;rw [List.range_succ,List.flatMap_append];simp
theorem rZ (w:Nat) (p:List Bool) (y:Nat):je w p (y+1)=je w p y++dM (iY (rowP w p y)):=by
 unfold je;rw [List.range_succ,List.flatMap_append];simp
theorem FH {l:List Int} {j:Nat} (h:j<l.length):dM (l.take (j+1))=dM (l.take j)++dV (l.getD j 0+1).toNat:=by
 unfold dM;rw [List.take_succ_eq_append_getElem h,List.flatMap_append,getD_lt h];simp
theorem vN (r:List Bool):(iY r).length≤r.length+1∧∀ x,x∈iY r→0≤x∧x≤r.length:=by
 obtain ⟨h1,_,h3⟩:=rY r r.length
 exact ⟨h1,h3⟩
theorem rQ {w h:Nat} {p:List Bool} (hw:w≤4000) (hp:p.length=w*h):∀ y,y≤h→(eU w p y).length≤100*(w+1)*y
 | 0,_=>by simp [eU]
 | y+1,hy=>by
  have h1:=rQ hw hp y (by omega)
  have hl:=iD hp (y:=y) (by omega)
  have h2:=wY (row:=rowP w p y) (above:=sS w p y) (by omega) (by rw [Dq hp (by omega),hl])
  rw [hl] at h2
  rw [pX,List.length_append,Nat.mul_succ];omega
theorem Au {l:List Int} (hl:∀ x,x∈l→0≤x∧x≤4000):(dM l).length≤41*l.length:=by
 induction l with
 | nil=>simp [dM]
 | cons x l ih=>
  have h1:=ih fun y hy=>hl y (.tail _ hy)
  have h2:=hl x (.head _)
  have h3:=dI (n:=(x+1).toNat) (by omega)
  have e:dM (x::l)=dV (x+1).toNat++dM l:=by unfold dM;simp
  rw [e,List.length_append,List.length_cons];omega
theorem vO {w h:Nat} {p:List Bool} (hw:w≤4000) (hp:p.length=w*h):∀ y,y≤h→(je w p y).length≤41*(w+1)*y
 | 0,_=>by simp [je]
 | y+1,hy=>by
  have h1:=vO hw hp y (by omega)
  have hl:=iD hp (y:=y) (by omega)
  obtain ⟨h2,h3⟩:=vN (rowP w p y)
  have h4:=Au (l:=iY (rowP w p y)) fun x hx=>by have:=h3 x hx;omega
  rw [rZ,List.length_append,Nat.mul_succ]
  rw [hl] at h2
  have h5:41*(iY (rowP w p y)).length≤41*(w+1):=Nat.mul_le_mul_left _ h2
  omega
theorem Ic {row above:List Bool} (h0:0<row.length) (hr:row.length≤4000) (hw:above.length=row.length):0<(eX row above).length:=by
 unfold eX
 rw [if_neg (by omega),oq hw (by omega),List.length_append]
 have hs:0<(aW row above 0 false).c.length:=by
  unfold aW
  split
  ·exact (by decide:0<fH.length)
  ·split
   ·dsimp only;exact EO (by omega)
   ·dsimp only;rw [List.length_append];have:eH.length=3:=rfl;omega
 omega
structure DX where
 y:Nat
 u:Bool
structure DR where
 j:Nat
 u:Bool
structure BU (o:Bytes) (u:Bool):Prop where
 h1:u=true→0<o.length
 h2:u=false→o=[]
theorem RN (n:Nat):0<(dV n).length:=by
 have:=uV n
 rw [CV];omega
set_option maxHeartbeats 16000000 in
theorem TF (w h:Nat) (hw0:0<w) (hw:w≤4000) (hh:h≤4000) (hwh:w*h≤1048576) (p:List Bool) (hp:p.length=w*h) (kind:Int) :
  aA Tryz.prog 107 [.agg [.int .i64 w,.int .i64 h,.ro (.bools p)],.int .i64 kind] (.own 0) [(0,.row 5 (.ints .u8 (aj (bU w h p kind))))]:=by
 refine aA.aG Tryz.func107 rfl (by decide) (by simp [Tryz.f107]) [.tmp 4] rfl fun w0 T0 _=>?_
 simp only [Tryz.f107,au]
 by_cases c1:kind=1
 ·have e:bU w h p kind=jJ (fZ p):=if_pos c1
  rw [e]
  have k1:=TA (w:Int) (h:Int) p (by omega)
  have k2:=Ai (fZ p) (by rw [jT];omega)
  have g1:(kind=1)=True:=eq_true c1
  (repeat' with_reducible first|intro _|refine rz ?_|refine ra ?_ ?_|omega|simp only [go_sem,g1])
  refine ah.k k1 ?_
  (repeat' with_reducible first|intro _|exact dn|refine rn ?_|refine ra ?_ ?_)
  refine ah.o k2 1 ?_
  (repeat' with_reducible first|intro _|exact dn|refine rn ?_|refine ra ?_ ?_)
  refine aU.auto 1 ?_ rfl ?_<;>simp only [go_sem,Int.natCast_succ,Post]
 have g1:(kind=1)=False:=eq_false c1
 by_cases c4:kind=4
 ·have e:bU w h p kind=sV w h p:=by unfold bU;rw [if_neg c1,if_pos c4]
  rw [e]
  have k1:=Lc w h hw0 hw hh hwh p hp
  have g4:(kind=4)=True:=eq_true c4
  (repeat' with_reducible first|intro _|refine rz ?_|refine ra ?_ ?_|omega|simp only [go_sem,g1,g4])
  refine ah.o k1 1 ?_
  (repeat' with_reducible first|intro _|exact dn|refine rn ?_|refine ra ?_ ?_)
  refine aU.auto 1 ?_ rfl ?_<;>simp only [go_sem,Int.natCast_succ,Post]
 have g4:(kind=4)=False:=eq_false c4
 have b1:41*(w+1)*h≤100000000:=by
  have:(w+1)*h≤1052576:=by rw [Nat.add_mul,Nat.one_mul];omega
  rw [Nat.mul_assoc];omega
 have b2:100*(w+1)*h≤200000000:=by
  have:(w+1)*h≤1052576:=by rw [Nat.add_mul,Nat.one_mul];omega
  rw [Nat.mul_assoc];omega
 by_cases c2:kind=2
 ·have e:bU w h p kind=jJ (je w p h):=by unfold bU;rw [if_neg c1,if_neg c4,if_pos c2]
  rw [e]
  have g2:(kind=2)=True:=eq_true c2
  have bl:=vO hw hp
  (repeat' with_reducible first|intro _|refine rz ?_|refine ra ?_ ?_|omega|simp only [go_sem,g1,g4,g2])
  refine aF.intro (fun x:DX=>⟨63,[(43,.int .i64 x.y),(42,.int .i64 h),(5,.ptr 1 0),(2,.ptr 0 0)],(0,.box 24 [.int .i64 w,.int .i64 h,.ro (.bools p)])::(bif x.u then [(1,.box 89 [.ptr 1 0,.own 2]),(2,.row 5 (.ints .u8 (aj (je w p x.y))))] else [(1,.box 89 [.raw (.pointer none),.nilS])]),bif x.u then 3 else 2⟩) (fun x=>x.y≤h∧BU (je w p x.y) x.u) (fun x=>h - x.y) ⟨0,false⟩ ?_ ⟨Nat.zero_le _,fun h=>by (cases h),fun _=>rfl⟩ fun x hx=>?_
  ·refine aK.ak rfl ?_ ?_<;>simp only [go_sem,Int.natCast_succ]
   all_goals first|rfl|exact ⟨rfl,rfl⟩
  obtain ⟨y,u⟩:=x
  obtain ⟨hy,hu1,hu2⟩:=hx
  dsimp only at hy hu1 hu2 ⊢
  have hbly:=bl y hy
  have hmy:41*(w+1)*y≤41*(w+1)*h:=Nat.mul_le_mul_left _ hy
  by_cases hylt:y<h
  rotate_left
  ·have f1:((y:Int)<(h:Int))=False:=eq_false (by omega)
   have e:y=h:=by omega
   subst e
   have k2:=Ai (je w p y) (by omega)
   cases u with
   | true=>
    have kst:=gB (je w p y) (hu1 rfl)
    simp only [cond_true,cond_false,List.cons_append,List.nil_append]
    (repeat' with_reducible first|intro _|refine rz ?_|refine ra ?_ ?_|omega|simp only [go_sem,f1])
    refine ah.i [1,2] kst 2 ?_
    (repeat' with_reducible first|intro _|exact dn|refine rn ?_|refine ra ?_ ?_)
    refine ah.o k2 1 ?_
    (repeat' with_reducible first|intro _|exact dn|refine rn ?_|refine ra ?_ ?_)
    refine aU.auto 1 ?_ rfl ?_<;>simp only [go_sem,Int.natCast_succ,Post]
   | false=>
    have hz:=hu2 rfl
    rw [hz] at k2 ⊢
    have kst:=gQ
    simp only [cond_true,cond_false,List.cons_append,List.nil_append]
    (repeat' with_reducible first|intro _|refine rz ?_|refine ra ?_ ?_|omega|simp only [go_sem,f1])
    refine ah.i [1] kst 1 ?_
    (repeat' with_reducible first|intro _|exact dn|refine rn ?_|refine ra ?_ ?_)
    refine ah.o k2 1 ?_
    (repeat' with_reducible first|intro _|exact dn|refine rn ?_|refine ra ?_ ?_)
    refine aU.auto 1 ?_ rfl ?_<;>simp only [go_sem,Int.natCast_succ,Post]
  have f1:((y:Int)<(h:Int))=True:=eq_true (by omega)
  have hl:=iD hp hylt
  have kr:=Xn w h hw hh p hp y hylt
  have kn:=YR (rowP w p y) (by omega)
  obtain ⟨n1,n2⟩:=vN (rowP w p y)
  have hsucc:=rZ w p y
  have hbly2:=bl (y+1) (by omega)
  have hrr:(bD (rowP w p y) (rowP w p y).length).1=iY (rowP w p y):=rfl
  rw [hrr] at kn
  generalize hL:iY (rowP w p y)=L at *
  generalize rowP w p y=rw_ at *
  generalize je w p y=o0 at *
  (repeat' with_reducible first|intro _|refine rz ?_|refine ra ?_ ?_|omega|simp only [go_sem,f1])
  refine ah.UE (.ro (.bools rw_)) kr (by simp only [aI,aS,bH,aV,aH,List.drop_zero,lk,reduceIte,reduceCtorEq,Nat.reduceEqDiff,Option.some.injEq,Item.row.injEq,Item.box.injEq,AV.ro.injEq,exists_eq_left,exists_and_left,exists_eq_left',exists_eq_right,and_assoc,and_true,true_and,List.cons.injEq,exists_eq',exists_eq]) (by simp [dJ,aS,aV,bH,aH,lk,aI]) rfl ?_
  (repeat' with_reducible first|intro _|exact dn|refine rn ?_|refine ra ?_ ?_)
  refine ah.ro (.ro (.ints .i64 L)) (cO.eY kn rfl (by simp [fQ,fP,jh,iQ,lG])) (by simp only [aI,aS,bH,aV,aH,List.drop_zero,lk,reduceIte,reduceCtorEq,Nat.reduceEqDiff,Option.some.injEq,Item.row.injEq,Item.box.injEq,AV.ro.injEq,exists_eq_left,exists_and_left,exists_eq_left',exists_eq_right,and_assoc,and_true,true_and,List.cons.injEq,exists_eq',exists_eq]) (by simp [dJ,aS,aV,bH,aH,lk,aI]) rfl ?_
  (repeat' with_reducible first|intro _|exact dn|refine rn ?_|refine ra ?_ ?_)
  refine aF.intro (fun x:DR=>⟨63,[(51,.int .i64 x.j),(50,.int .i64 L.length),(49,.ro (.ints .i64 L)),(43,.int .i64 y),(42,.int .i64 h),(5,.ptr 1 0),(2,.ptr 0 0)],(0,.box 24 [.int .i64 w,.int .i64 h,.ro (.bools p)])::(bif x.u then [(1,.box 89 [.ptr 1 0,.own 2]),(2,.row 5 (.ints .u8 (aj (o0++dM (L.take x.j)))))] else [(1,.box 89 [.raw (.pointer none),.nilS])]),bif x.u then 3 else 2⟩) (fun x=>x.j≤L.length∧BU (o0++dM (L.take x.j)) x.u) (fun x=>L.length - x.j) ⟨0,u⟩ ?_ ⟨Nat.zero_le _,by
   have e:o0++dM (L.take 0)=o0:=by simp [dM]
   rw [e];exact ⟨hu1,hu2⟩⟩ fun x hx=>?_
  ·have e:dM []=[]:=rfl
   cases u<;>(simp only [cond_true,cond_false];refine aK.ak rfl ?_ ?_<;>simp only [go_sem,Int.natCast_succ,e])
   all_goals first|rfl|exact ⟨rfl,rfl⟩
  obtain ⟨j,v⟩:=x
  obtain ⟨hj,hv1,hv2⟩:=hx
  dsimp only at hj hv1 hv2 ⊢
  have hgl:(dM (L.take j)).length≤41*4001:=by
   have h1:=Au (l:=L.take j) fun x hx=>by have:=n2 x (List.mem_of_mem_take hx);omega
   have h2:(L.take j).length≤4001:=by rw [List.length_take];omega
   omega
  have hbq:41*(w+1)*y≤100000000:=by omega
  by_cases hjlt:j<L.length
  rotate_left
  ·have fj:((j:Int)<(L.length:Int))=False:=eq_false (by omega)
   have hjl:L.take j=L:=List.take_of_length_le (by omega)
   rw [hjl] at hv1 hv2 ⊢
   cases v <;>
    (simp only [cond_true,cond_false,List.cons_append,List.nil_append]
     (repeat' with_reducible first|intro _|refine rz ?_|refine ra ?_ ?_|omega|simp only [go_sem,fj]))
   ·refine ⟨⟨y+1,false⟩,aK.ak rfl ?_ ?_,⟨by dsimp only;omega,by rw [hsucc];exact ⟨hv1,hv2⟩⟩,by dsimp only;omega⟩<;>simp only [go_sem,Int.natCast_succ,hsucc]
    all_goals first|rfl|exact ⟨rfl,rfl⟩
   ·refine ⟨⟨y+1,true⟩,aK.ak rfl ?_ ?_,⟨by dsimp only;omega,by rw [hsucc];exact ⟨hv1,hv2⟩⟩,by dsimp only;omega⟩<;>simp only [go_sem,Int.natCast_succ,hsucc]
    all_goals first|rfl|exact ⟨rfl,rfl⟩
  have fj:((j:Int)<(L.length:Int))=True:=eq_true (by omega)
  have htk:=FH hjlt
  have hnb:=n2 (L.getD j 0) (by rw [getD_lt hjlt];exact List.getElem_mem hjlt)
  have kg:=ug (L.getD j 0+1).toNat (by omega)
  rw [show (((L.getD j 0+1).toNat:Nat):Int)=L.getD j 0+1 by omega] at kg
  have hgp:=RN (L.getD j 0+1).toNat
  have hgs:=dI (n:=(L.getD j 0+1).toNat) (by omega)
  generalize dV (L.getD j 0+1).toNat=g at *
  generalize hn0:L.getD j 0=n0 at *
  cases v with
  | true=>
   have kw2:=eF (o0++dM (L.take j)) g (by rw [List.length_append];omega) (by omega)
   simp only [cond_true,cond_false,List.cons_append,List.nil_append]
   (repeat' with_reducible first|intro _|refine rz ?_|refine ra ?_ ?_|omega|simp only [go_sem,fj,hn0])
   refine ah.k kg ?_
   (repeat' with_reducible first|intro _|exact dn|refine rn ?_|refine ra ?_ ?_)
   refine ah.i [1,2] kw2 3 ?_
   (repeat' with_reducible first|intro _|exact dn|refine rn ?_|refine ra ?_ ?_)
   refine ⟨⟨j+1,true⟩,aK.ak rfl ?_ ?_,⟨by dsimp only;omega,fun _=>by dsimp only;rw [htk,List.length_append,List.length_append];omega,fun h=>by (cases h)⟩,by dsimp only;omega⟩<;>simp only [go_sem,Int.natCast_succ,htk,List.append_assoc]
   all_goals first|rfl|exact ⟨rfl,rfl⟩
  | false=>
   have hz:=hv2 rfl
   have kw2:=gG g (by omega)
   simp only [cond_true,cond_false,List.cons_append,List.nil_append]
   (repeat' with_reducible first|intro _|refine rz ?_|refine ra ?_ ?_|omega|simp only [go_sem,fj,hn0])
   refine ah.k kg ?_
   (repeat' with_reducible first|intro _|exact dn|refine rn ?_|refine ra ?_ ?_)
   refine ah.i [1] kw2 2 ?_
   (repeat' with_reducible first|intro _|exact dn|refine rn ?_|refine ra ?_ ?_)
   have hz2:o0++dM (L.take (j+1))=g:=by rw [htk,←List.append_assoc,hz,List.nil_append]
   refine ⟨⟨j+1,true⟩,aK.ak rfl ?_ ?_,⟨by dsimp only;omega,fun _=>by dsimp only;rw [hz2];omega,fun h=>by (cases h)⟩,by dsimp only;omega⟩<;>simp only [go_sem,Int.natCast_succ,hz2]
   all_goals first|rfl|exact ⟨rfl,rfl⟩
 have e:bU w h p kind=jJ (eU w p h):=by unfold bU;rw [if_neg c1,if_neg c4,if_neg c2]
 rw [e]
 have g2:(kind=2)=False:=eq_false c2
 have bl:=rQ hw hp
 (repeat' with_reducible first|intro _|refine rz ?_|refine ra ?_ ?_|omega|simp only [go_sem,g1,g4,g2])
 refine aF.intro (fun x:DX=>⟨63,[(17,.int .i64 x.y),(16,.int .i64 h),(9,.ro (.bools (sS w p x.y))),(5,.ptr 1 0),(2,.ptr 0 0)],(0,.box 24 [.int .i64 w,.int .i64 h,.ro (.bools p)])::(bif x.u then [(1,.box 89 [.ptr 1 0,.own 2]),(2,.row 5 (.ints .u8 (aj (eU w p x.y))))] else [(1,.box 89 [.raw (.pointer none),.nilS])]),bif x.u then 3 else 2⟩) (fun x=>x.y≤h∧BU (eU w p x.y) x.u) (fun x=>h - x.y) ⟨0,false⟩ ?_ ⟨Nat.zero_le _,fun h=>by (cases h),fun _=>rfl⟩ fun x hx=>?_
 ·have e0:sS w p 0=List.replicate w false:=rfl
  refine aK.trans (aK.fz 3 (e:=4) (r:=.bools (List.replicate w false)) rfl rfl (Nat.zero_le _)) (aK.ak rfl ?_ ?_)<;>simp only [go_sem,Int.natCast_succ,e0]
  all_goals first|rfl|exact ⟨rfl,rfl⟩|trace_state
 obtain ⟨y,u⟩:=x
 obtain ⟨hy,hu1,hu2⟩:=hx
 dsimp only at hy hu1 hu2 ⊢
 have hbly:=bl y hy
 have hmy:100*(w+1)*y≤100*(w+1)*h:=Nat.mul_le_mul_left _ hy
 by_cases hylt:y<h
 rotate_left
 ·have f1:((y:Int)<(h:Int))=False:=eq_false (by omega)
  have e:y=h:=by omega
  subst e
  have k2:=Ai (eU w p y) (by omega)
  cases u with
  | true=>
   have kst:=gB (eU w p y) (hu1 rfl)
   simp only [cond_true,cond_false,List.cons_append,List.nil_append]
   (repeat' with_reducible first|intro _|refine rz ?_|refine ra ?_ ?_|omega|simp only [go_sem,f1])
   refine ah.i [1,2] kst 2 ?_
   (repeat' with_reducible first|intro _|exact dn|refine rn ?_|refine ra ?_ ?_)
   refine ah.o k2 1 ?_
   (repeat' with_reducible first|intro _|exact dn|refine rn ?_|refine ra ?_ ?_)
   refine aU.auto 1 ?_ rfl ?_<;>simp only [go_sem,Int.natCast_succ,Post]
  | false=>
   have hz:=hu2 rfl
   rw [hz] at k2 ⊢
   have kst:=gQ
   simp only [cond_true,cond_false,List.cons_append,List.nil_append]
   (repeat' with_reducible first|intro _|refine rz ?_|refine ra ?_ ?_|omega|simp only [go_sem,f1])
   refine ah.i [1] kst 1 ?_
   (repeat' with_reducible first|intro _|exact dn|refine rn ?_|refine ra ?_ ?_)
   refine ah.o k2 1 ?_
   (repeat' with_reducible first|intro _|exact dn|refine rn ?_|refine ra ?_ ?_)
   refine aU.auto 1 ?_ rfl ?_<;>simp only [go_sem,Int.natCast_succ,Post]
 have f1:((y:Int)<(h:Int))=True:=eq_true (by omega)
 have hl:=iD hp hylt
 have hul:=Dq hp hylt
 have kr:=Xn w h hw hh p hp y hylt
 have kl:=RX (rowP w p y) (sS w p y) (by omega) (by omega)
 have hll:=wY (row:=rowP w p y) (above:=sS w p y) (by omega) (by omega)
 have hlp:0<(eX (rowP w p y) (sS w p y)).length:=Ic (by omega) (by omega) (by omega)
 have hsucc:=pX w p y
 have hbly2:=bl (y+1) (by omega)
 have hup:sS w p (y+1)=rowP w p y:=by unfold sS;rw [if_neg (by omega)];rfl
 generalize eX (rowP w p y) (sS w p y)=lb at *
 generalize rowP w p y=rw_ at *
 generalize hup0:sS w p y=ab at *
 generalize hlb0:eU w p y=o0 at *
 cases u with
 | true=>
  have kw2:=eF o0 lb (by omega) (by omega)
  simp only [cond_true,cond_false,List.cons_append,List.nil_append]
  (repeat' with_reducible first|intro _|refine rz ?_|refine ra ?_ ?_|omega|simp only [go_sem,f1])
  refine ah.UE (.ro (.bools rw_)) kr (by simp only [aI,aS,bH,aV,aH,List.drop_zero,lk,reduceIte,reduceCtorEq,Nat.reduceEqDiff,Option.some.injEq,Item.row.injEq,Item.box.injEq,AV.ro.injEq,exists_eq_left,exists_and_left,exists_eq_left',exists_eq_right,and_assoc,and_true,true_and,List.cons.injEq,exists_eq',exists_eq]) (by simp [dJ,aS,aV,bH,aH,lk,aI]) rfl ?_
  (repeat' with_reducible first|intro _|exact dn|refine rn ?_|refine ra ?_ ?_)
  refine ah.k kl ?_
  (repeat' with_reducible first|intro _|exact dn|refine rn ?_|refine ra ?_ ?_)
  refine ah.i [1,2] kw2 3 ?_
  (repeat' with_reducible first|intro _|exact dn|refine rn ?_|refine ra ?_ ?_)
  refine ah.UE (.ro (.bools rw_)) kr (by simp only [aI,aS,bH,aV,aH,List.drop_zero,lk,reduceIte,reduceCtorEq,Nat.reduceEqDiff,Option.some.injEq,Item.row.injEq,Item.box.injEq,AV.ro.injEq,exists_eq_left,exists_and_left,exists_eq_left',exists_eq_right,and_assoc,and_true,true_and,List.cons.injEq,exists_eq',exists_eq]) (by simp [dJ,aS,aV,bH,aH,lk,aI]) rfl ?_
  (repeat' with_reducible first|intro _|exact dn|refine rn ?_|refine ra ?_ ?_)
  refine ⟨⟨y+1,true⟩,aK.ak rfl ?_ ?_,⟨by dsimp only;omega,fun _=>by dsimp only;rw [hsucc,List.length_append];omega,fun h=>by (cases h)⟩,by dsimp only;omega⟩<;>simp only [go_sem,Int.natCast_succ,hsucc,hup]
  all_goals first|rfl|exact ⟨rfl,rfl⟩
 | false=>
  have kw2:=gG lb (by omega)
  simp only [cond_true,cond_false,List.cons_append,List.nil_append]
  (repeat' with_reducible first|intro _|refine rz ?_|refine ra ?_ ?_|omega|simp only [go_sem,f1])
  refine ah.UE (.ro (.bools rw_)) kr (by simp only [aI,aS,bH,aV,aH,List.drop_zero,lk,reduceIte,reduceCtorEq,Nat.reduceEqDiff,Option.some.injEq,Item.row.injEq,Item.box.injEq,AV.ro.injEq,exists_eq_left,exists_and_left,exists_eq_left',exists_eq_right,and_assoc,and_true,true_and,List.cons.injEq,exists_eq',exists_eq]) (by simp [dJ,aS,aV,bH,aH,lk,aI]) rfl ?_
  (repeat' with_reducible first|intro _|exact dn|refine rn ?_|refine ra ?_ ?_)
  refine ah.k kl ?_
  (repeat' with_reducible first|intro _|exact dn|refine rn ?_|refine ra ?_ ?_)
  refine ah.i [1] kw2 2 ?_
  (repeat' with_reducible first|intro _|exact dn|refine rn ?_|refine ra ?_ ?_)
  refine ah.UE (.ro (.bools rw_)) kr (by simp only [aI,aS,bH,aV,aH,List.drop_zero,lk,reduceIte,reduceCtorEq,Nat.reduceEqDiff,Option.some.injEq,Item.row.injEq,Item.box.injEq,AV.ro.injEq,exists_eq_left,exists_and_left,exists_eq_left',exists_eq_right,and_assoc,and_true,true_and,List.cons.injEq,exists_eq',exists_eq]) (by simp [dJ,aS,aV,bH,aH,lk,aI]) rfl ?_
  (repeat' with_reducible first|intro _|exact dn|refine rn ?_|refine ra ?_ ?_)
  have hz2:eU w p (y+1)=lb:=by rw [hsucc,hu2 rfl,List.nil_append]
  refine ⟨⟨y+1,true⟩,aK.ak rfl ?_ ?_,⟨by dsimp only;omega,fun _=>by dsimp only;rw [hz2];exact hlp,fun h=>by (cases h)⟩,by dsimp only;omega⟩<;>simp only [go_sem,Int.natCast_succ,hz2,hup]
  all_goals first|rfl|exact ⟨rfl,rfl⟩
def eu:List Int→Int
 | []=>0
 | e::l=>if e=0 then eu l else e
set_option maxHeartbeats 2000000 in
theorem oL (l:List Int) (hl:l.length≤1000):aA Tryz.prog 28 [.ro (.ints .i64 l)] (.int .i64 (eu l)) []:=by
 refine aA.aG Tryz.func28 rfl (by decide) (by simp [Tryz.f28]) [.tmp 2] rfl fun w0 T0 _=>?_
 simp only [Tryz.f28,au]
 (repeat' with_reducible first|intro _|exact dn|refine rn ?_|refine ra ?_ ?_)
 refine aF.intro (fun i:Nat=>⟨15,[(7,.int .i64 i),(6,.int .i64 l.length),(5,.ro (.ints .i64 l))],[],0⟩) (fun i=>i≤l.length∧eu (l.drop i)=eu l) (fun i=>l.length - i) 0 ?_ ⟨Nat.zero_le _,rfl⟩ fun i hi=>?_
 ·refine aK.ak rfl ?_ ?_<;>simp only [go_sem,Int.natCast_succ]
 obtain ⟨hi,he⟩:=hi
 (repeat' with_reducible first|intro _|exact dn|refine rn ?_|refine ra ?_ ?_)
 ·have hlt:i<l.length:=by omega
  have hd:l.drop i=l.getD i 0::l.drop (i+1):=by rw [List.drop_eq_getElem_cons hlt,getD_lt hlt]
  rw [hd,eu,if_neg (by omega)] at he
  rw [←he]
  refine aU.auto 0 ?_ rfl ?_<;>simp only [go_sem,Int.natCast_succ,Post]
 ·have hlt:i<l.length:=by omega
  have hd:l.drop i=l.getD i 0::l.drop (i+1):=by rw [List.drop_eq_getElem_cons hlt,getD_lt hlt]
  rw [hd,eu,if_pos (by omega)] at he
  refine ⟨i+1,aK.ak rfl ?_ ?_,⟨by omega,he⟩,by omega⟩<;>simp only [go_sem,Int.natCast_succ]
  all_goals rfl
 ·have e:i=l.length:=by omega
  subst e
  rw [List.drop_length] at he
  rw [←he]
  refine aU.auto 0 ?_ rfl ?_<;>simp only [go_sem,Int.natCast_succ,Post,eu]
set_option maxHeartbeats 4000000 in
theorem lH (w h:Int):aA Tryz.prog 72 [.int .i64 w,.int .i64 h] (.int .i64 (bF w h)) []:=by
 refine aA.aG Tryz.func72 rfl (by decide) (by simp [Tryz.f72]) [.tmp 4] rfl fun w0 T0 _=>?_
 simp only [Tryz.f72,au]
 by_cases hw:1≤w∧w≤4000
 ·by_cases hh:1≤h∧h≤4000
  ·have hm1:0≤w*h:=Int.mul_nonneg (by omega) (by omega)
   have hm2:w*h≤4000*4000:=Int.mul_le_mul hw.2 hh.2 (by omega) (by omega)
   have e:bF w h=eu [if false=true then 3 else 0,if decide (1048576<w*h)=true then 4 else 0]:=by
    unfold bF
    rw [if_neg (by omega)]
    by_cases hc:1048576<w*h<;>simp [eu,hc]
   rw [e]
   (repeat' with_reducible first|intro _|exact dn|refine rn ?_|refine ra ?_ ?_)
   refine ah.k (iy w 1 4000) ?_
   rw [decide_eq_true hw]
   (repeat' with_reducible first|intro _|exact dn|refine rn ?_|refine ra ?_ ?_)
   refine ah.k (iy h 1 4000) ?_
   rw [decide_eq_true hh]
   (repeat' with_reducible first|intro _|exact dn|refine rn ?_|refine ra ?_ ?_)
   refine ah.k (nV false 3) ?_
   (repeat' with_reducible first|intro _|exact dn|refine rn ?_|refine ra ?_ ?_)
   refine ah.k (iy w 1 4000) ?_
   rw [decide_eq_true hw]
   (repeat' with_reducible first|intro _|exact dn|refine rn ?_|refine ra ?_ ?_)
   refine ah.k (iy h 1 4000) ?_
   rw [decide_eq_true hh]
   (repeat' with_reducible first|intro _|exact dn|refine rn ?_|refine ra ?_ ?_)
   refine ah.fr (cO.eY (nV (decide (1048576<w*h)) 4) rfl rfl) (by simp only [aI,aS,bH,aV,aH,List.drop_zero,lk,reduceIte,reduceCtorEq,Nat.reduceEqDiff,Option.some.injEq,Item.row.injEq,Item.box.injEq,AV.ro.injEq,exists_eq_left,exists_and_left,exists_eq_left',exists_eq_right,and_assoc,and_true,true_and,List.cons.injEq,exists_eq',exists_eq]) 0 rfl (by simp [jd]) ?_
   generalize hx:(if decide (1048576<w*h)=true then (4:Int) else 0)=x
   (repeat' with_reducible first|intro _|exact dn|refine rn ?_|refine ra ?_ ?_)
   refine ah.k (oL [0,x] (by simp)) ?_
   (repeat' with_reducible first|intro _|exact dn|refine rn ?_|refine ra ?_ ?_)
   refine aU.auto 0 ?_ rfl ?_<;>simp only [go_sem,Int.natCast_succ,Post]
  ·have e:bF w h=eu [3,0]:=by
    unfold bF
    rw [if_pos (by omega)];rfl
   rw [e]
   (repeat' with_reducible first|intro _|exact dn|refine rn ?_|refine ra ?_ ?_)
   refine ah.k (iy w 1 4000) ?_
   rw [decide_eq_true hw]
   (repeat' with_reducible first|intro _|exact dn|refine rn ?_|refine ra ?_ ?_)
   refine ah.k (iy h 1 4000) ?_
   rw [decide_eq_false hh]
   (repeat' with_reducible first|intro _|exact dn|refine rn ?_|refine ra ?_ ?_)
   refine ah.k (nV true 3) ?_
   (repeat' with_reducible first|intro _|exact dn|refine rn ?_|refine ra ?_ ?_)
   refine ah.k (iy w 1 4000) ?_
   rw [decide_eq_true hw]
   (repeat' with_reducible first|intro _|exact dn|refine rn ?_|refine ra ?_ ?_)
   refine ah.k (iy h 1 4000) ?_
   rw [decide_eq_false hh]
   (repeat' with_reducible first|intro _|exact dn|refine rn ?_|refine ra ?_ ?_)
   refine ah.k (nV false 4) ?_
   (repeat' with_reducible first|intro _|exact dn|refine rn ?_|refine ra ?_ ?_)
   refine ah.k (oL [3,0] (by simp)) ?_
   (repeat' with_reducible first|intro _|exact dn|refine rn ?_|refine ra ?_ ?_)
   refine aU.auto 0 ?_ rfl ?_<;>simp only [go_sem,Int.natCast_succ,Post]
 ·have e:bF w h=eu [3,0]:=by
   unfold bF
   rw [if_pos (by omega)];rfl
  rw [e]
  (repeat' with_reducible first|intro _|exact dn|refine rn ?_|refine ra ?_ ?_)
  refine ah.k (iy w 1 4000) ?_
  rw [decide_eq_false hw]
  (repeat' with_reducible first|intro _|exact dn|refine rn ?_|refine ra ?_ ?_)
  refine ah.k (nV true 3) ?_
  (repeat' with_reducible first|intro _|exact dn|refine rn ?_|refine ra ?_ ?_)
  refine ah.k (iy w 1 4000) ?_
  rw [decide_eq_false hw]
  (repeat' with_reducible first|intro _|exact dn|refine rn ?_|refine ra ?_ ?_)
  refine ah.k (nV false 4) ?_
  (repeat' with_reducible first|intro _|exact dn|refine rn ?_|refine ra ?_ ?_)
  refine ah.k (oL [3,0] (by simp)) ?_
  (repeat' with_reducible first|intro _|exact dn|refine rn ?_|refine ra ?_ ?_)
  refine aU.auto 0 ?_ rfl ?_<;>simp only [go_sem,Int.natCast_succ,Post]
theorem Gx (w h:Int) (n:Nat) (m:Int) (hm:m=IntKind.i64.wrap (w*h)):vC w h n=eu [bF w h,if decide (¬(n:Int)=m)=true then 2 else 0]:=by
 unfold vC
 by_cases e:bF w h=0
 ·have hs:=fE e
  rw [jR (kC.2 ⟨by omega,by omega⟩)] at hm
  rw [if_pos e]
  by_cases c:(n:Int)=w*h
  ·simp [eu,e,hm,c]
  ·simp [eu,e,hm,c]
 ·rw [if_neg e];simp [eu,e]
set_option maxHeartbeats 4000000 in
theorem Ql (w h:Int) (p:List Bool):aA Tryz.prog 46 [.agg [.int .i64 w,.int .i64 h,.ro (.bools p)]] (.int .i64 (vC w h p.length)) []:=by
 obtain ⟨m,hm⟩:∃ m,m=IntKind.i64.wrap (w*h):=⟨_,rfl⟩
 have hmi:jZ .i64 m:=by rw [hm];exact dP _ _
 rw [Gx w h p.length m hm]
 refine aA.aG Tryz.func46 rfl (by decide) (by simp [Tryz.f46]) [.tmp 2] rfl fun w0 T0 _=>?_
 simp only [Tryz.f46,au]
 (repeat' with_reducible first|intro _|exact dn|refine rn ?_|refine ra ?_ ?_)
 refine aN.lex [12,15] [(0,[1]),(1,[1]),(2,[1]),(3,[1]),(4,[1]),(5,[1]),(6,[1]),(7,[1])] (by kernel_rfl) (by kernel_rfl) ?_
 (repeat' with_reducible first|intro _|exact dn|refine rn ?_|refine ra ?_ ?_)
 refine QV.intro (.int .i64 (bF w h)) ?_ ?_
 ·(repeat' with_reducible first|intro _|exact dn|refine rn ?_|refine ra ?_ ?_)
  refine ah.k (lH w h) ?_
  (repeat' with_reducible first|intro _|exact dn|refine rn ?_|refine ra ?_ ?_)
 (repeat' with_reducible first|intro _|exact dn|refine rn ?_|refine ra ?_ ?_)
 refine QE.intro (.int .i64 m) [(0,.box 24 [.int .i64 w,.int .i64 h,.ro (.bools p)])] 1 ?_ ?_
 ·simp only [go_sem,hm]
  exact fun n hn _=>hn
 (repeat' with_reducible first|intro _|exact dn|refine rn ?_|refine ra ?_ ?_)
 refine QV.intro (.int .i64 (if decide (¬(p.length:Int)=m)=true then 2 else 0)) ?_ ?_
 ·(repeat' with_reducible first|intro _|exact dn|refine rn ?_|refine ra ?_ ?_)
  refine ah.fr (cO.eY (nV (decide (¬(p.length:Int)=m)) 2) rfl rfl) (by simp only [aI,aS,bH,aV,aH,List.drop_zero,lk,reduceIte,reduceCtorEq,Nat.reduceEqDiff,Option.some.injEq,Item.row.injEq,Item.box.injEq,AV.ro.injEq,exists_eq_left,exists_and_left,exists_eq_left',exists_eq_right,and_assoc,and_true,true_and,List.cons.injEq,exists_eq',exists_eq]) 0 rfl (by simp [jd]) ?_
  (repeat' with_reducible first|intro _|exact dn|refine rn ?_|refine ra ?_ ?_)
 generalize hx:(if decide (¬(p.length:Int)=m)=true then (2:Int) else 0)=x
 (repeat' with_reducible first|intro _|exact dn|refine rn ?_|refine ra ?_ ?_)
 refine QV.intro (.int .i64 (eu [bF w h,x])) ?_ ?_
 ·(repeat' with_reducible first|intro _|exact dn|refine rn ?_|refine ra ?_ ?_)
  refine ah.k (oL [bF w h,x] (by simp)) ?_
  (repeat' with_reducible first|intro _|exact dn|refine rn ?_|refine ra ?_ ?_)
 (repeat' with_reducible first|intro _|exact dn|refine rn ?_|refine ra ?_ ?_)
 ·refine ah.k (lH w h) ?_
  (repeat' with_reducible first|intro _|exact dn|refine rn ?_|refine ra ?_ ?_)
 ·refine aU.auto 0 ?_ rfl ?_<;>simp only [go_sem,Int.natCast_succ,Post]
end Go.Fv.H
/- shrink.encode, Encode, best: the walk. -/
namespace Go.Fv.H
open Go Go.Proofs
theorem ou (s:Bytes):(jJ s).length=(s.length+7) / 8:=yZ _ _
theorem QZ (w h:Nat) (p:List Bool):(sV w h p).length≤4+p.length:=by
 unfold sV
 rw [aQ]
 have:=SQ w h p p.length
 omega
theorem Hq {w h:Nat} (hw:w≤4000) (hh:h≤4000) (hwh:w*h≤1048576) {p:List Bool} (hp:p.length=w*h) (kind:Int):(bU w h p kind).length≤100000000:=by
 have b1:41*(w+1)*h≤100000000:=by
  have:(w+1)*h≤1052576:=by rw [Nat.add_mul,Nat.one_mul];omega
  rw [Nat.mul_assoc];omega
 have b2:100*(w+1)*h≤200000000:=by
  have:(w+1)*h≤1052576:=by rw [Nat.add_mul,Nat.one_mul];omega
  rw [Nat.mul_assoc];omega
 have h1:=vO hw hp h (Nat.le_refl _)
 have h2:=rQ hw hp h (Nat.le_refl _)
 have h3:=QZ w h p
 unfold bU
 split
 ·rw [ou,jT];omega
 ·split
  ·omega
  ·split
   ·rw [ou];omega
   ·rw [ou];omega
set_option maxHeartbeats 8000000 in
theorem Ht (w h:Nat) (hw0:0<w) (hw:w≤4000) (hh:h≤4000) (hwh:w*h≤1048576) (p:List Bool) (hp:p.length=w*h) (kind:Int) (hk:1≤kind∧kind≤4) :
  aA Tryz.prog 69 [.agg [.int .i64 w,.int .i64 h,.ro (.bools p)],.int .i64 kind] (.str (dY w h p kind)) []:=by
 have hdl:=Hq hw hh hwh hp kind
 have kd:=TF w h hw0 hw hh hwh p hp kind
 have n1:=Jg kind kind.toNat 1 (.inl (by omega)) (by omega) (by omega) (by decide)
 have n2:=Jg (w:Int) w 2 (.inl rfl) (by omega) (by omega) (by decide)
 have n3:=Jg (h:Int) h 2 (.inl rfl) (by omega) (by omega) (by decide)
 have n4:=Jg ((bU w h p kind).length:Int) (bU w h p kind).length 4 (.inl rfl) (by omega) (by omega) (by decide)
 rw [show ((1:Nat):Int)=1 from rfl] at n1
 rw [show ((2:Nat):Int)=2 from rfl] at n2 n3
 rw [show ((4:Nat):Int)=4 from rfl] at n4
 have henc:dY w h p kind=headB w h p kind++bY (headB w h p kind):=rfl
 have hhead:headB w h p kind=bV 1 kind.toNat++bV 2 w++bV 2 h++bV 4 (bU w h p kind).length++bU w h p kind:=rfl
 have hhl:(headB w h p kind).length=9+(bU w h p kind).length:=by
  rw [hhead];simp only [List.length_append,aQ]
 have ks:=mM (headB w h p kind) (by omega)
 have hsl:=mJ (headB w h p kind)
 rw [henc]
 have l1:=aQ 1 kind.toNat
 have l2:=aQ 2 w
 have l3:=aQ 2 h
 have l4:=aQ 4 (bU w h p kind).length
 have hbl:=cZ (bU w h p kind)
 have hbk:=iV (bU w h p kind)
 generalize headB w h p kind=hd at *
 generalize bV 1 kind.toNat=x1 at *
 generalize bV 2 w=x2 at *
 generalize bV 2 h=x3 at *
 generalize bV 4 (bU w h p kind).length=x4 at *
 generalize bU w h p kind=dt at *
 refine aA.aG Tryz.func69 rfl (by decide) (by simp [Tryz.f69]) [.tmp 4] rfl fun w0 T0 _=>?_
 simp only [Tryz.f69,au]
 (repeat' with_reducible first|intro _|exact dn|refine rn ?_|refine ra ?_ ?_)
 refine ah.o kd 1 ?_
 (repeat' with_reducible first|intro _|exact dn|refine rn ?_|refine ra ?_ ?_)
 refine aN.lex [] [] (by kernel_rfl) (by kernel_rfl) ?_
 (repeat' with_reducible first|intro _|exact dn|refine rn ?_|refine ra ?_ ?_)
 (refine QV.intro (.str x1) ?_ ?_;focus ((repeat' with_reducible first|intro _|exact dn|refine rn ?_|refine ra ?_ ?_);refine ah.k (n1) ?_;(repeat' with_reducible first|intro _|exact dn|refine rn ?_|refine ra ?_ ?_)))
 (repeat' with_reducible first|intro _|exact dn|refine rn ?_|refine ra ?_ ?_)
 (refine QV.intro (.str x2) ?_ ?_;focus ((repeat' with_reducible first|intro _|exact dn|refine rn ?_|refine ra ?_ ?_);refine ah.k (n2) ?_;(repeat' with_reducible first|intro _|exact dn|refine rn ?_|refine ra ?_ ?_)))
 (repeat' with_reducible first|intro _|exact dn|refine rn ?_|refine ra ?_ ?_)
 (refine QV.intro (.str x3) ?_ ?_;focus ((repeat' with_reducible first|intro _|exact dn|refine rn ?_|refine ra ?_ ?_);refine ah.k (n3) ?_;(repeat' with_reducible first|intro _|exact dn|refine rn ?_|refine ra ?_ ?_)))
 (repeat' with_reducible first|intro _|refine rz ?_|refine ra ?_ ?_|omega|simp only [go_sem,hbl])
 (refine QV.intro (.str x4) ?_ ?_;focus ((repeat' with_reducible first|intro _|exact dn|refine rn ?_|refine ra ?_ ?_);refine ah.k (n4) ?_;(repeat' with_reducible first|intro _|exact dn|refine rn ?_|refine ra ?_ ?_)))
 (repeat' with_reducible first|intro _|refine rz ?_|refine ra ?_ ?_|omega|simp only [go_sem,hbl,hbk])
 rw [←hhead]
 refine ah.k ks ?_
 (repeat' with_reducible first|intro _|exact dn|refine rn ?_|refine ra ?_ ?_)
 refine aU.auto 0 ?_ rfl ?_<;>simp only [go_sem,Int.natCast_succ,Post]
end Go.Fv.H
/- shrink.Encode, Context, Best: the walk. -/
namespace Go.Fv.H
open Go Go.Proofs
structure DF (w h:Nat) (p:List Bool):Prop where
 w0:0<w
 w1:w≤4000
 h0:0<h
 h1:h≤4000
 wh:w*h≤1048576
 p:p.length=w*h
theorem qG (kind:Int):aA Tryz.prog 66 [.int .i64 kind] (.bool (decide (1≤kind∧kind≤4))) []:=by
 refine aA.aG Tryz.func66 rfl (by decide) (by simp [Tryz.f66]) [.tmp 2] rfl fun w0 T0 _=>?_
 simp only [Tryz.f66,au]
 (repeat' with_reducible first|intro _|exact dn|refine rn ?_|refine ra ?_ ?_)
 refine aU.auto 0 ?_ rfl ?_<;>simp only [go_sem,Int.natCast_succ,Post]
def iZ (w h:Nat) (p:List Bool):Nat→Bytes × Int
 | 0=>([],0)
 | k+1=>if (iZ w h p k).2=0∨(dY w h p ((k:Int)+1)).length<(iZ w h p k).1.length then (dY w h p ((k:Int)+1),(k:Int)+1) else iZ w h p k
end Go.Fv.H
/- The reading of a page, in plain words. -/
namespace Go.Fv.H
open Go
structure DQ where
 (w h:Nat) (p:List Bool) (e:Int)
def dK (s:Bytes):Nat:=aT (s.take 1)
def dW (s:Bytes):Nat:=aT ((s.drop 1).take 2)
def dH (s:Bytes):Nat:=aT ((s.drop 3).take 2)
def dL (s:Bytes):Nat:=aT ((s.drop 5).take 4)
def dD (s:Bytes):Bytes:=(s.drop 9).take (s.length - 17)
def yC (s:Bytes):List Bool × Bool:=ni (dK s) (dW s) (dH s) (dD s)
def D8 (e:Int):DQ:=⟨0,0,[],e⟩
def LK (s:Bytes):Prop:=(yC s).2=true∧dY (dW s) (dH s) (yC s).1 (dK s)=s
instance (s:Bytes):Decidable (LK s):=inferInstanceAs (Decidable (_∧_))
def jc (s:Bytes):DQ:=
 if 2097152<s.length then D8 4
 else if s.length<17∨s.length≠17+dL s then D8 8
 else if bY (s.take (s.length - 8))≠s.drop (s.length - 8) then D8 14
 else if ¬(1≤dK s∧dK s≤4) then D8 1
 else if bF (dW s) (dH s)≠0 then D8 (bF (dW s) (dH s))
 else if LK s then ⟨dW s,dH s,(yC s).1,0⟩ else D8 8
theorem Qi {n:Nat} {s:Bytes} (h:(kT n s).2=true):(kT n s).1.length=n:=by
 unfold kT at h ⊢
 split at h
 ·cases h
 ·rename_i hs
  rw [if_neg hs]
  unfold oU
  rw [List.length_map,List.length_take];omega
theorem IG (w:Nat):∀ (f:Nat) (n:Nat) (ink:Bool) (s:Bytes),s.length≤f→n≤w→∀ t,(fK w n ink s).2=some t→(fK w n ink s).1.length=w - n
 | f,n,ink,s,hf,hn,t,h=>by
  by_cases hnw:n<w
  rotate_left
  ·rw [vJ hnw]
   show (0:Nat)=_;omega
  cases hrd:pG s with
  | none=>rw [xA hnw ink hrd] at h;cases h
  | some z=>
   obtain ⟨m,l⟩:=z
   by_cases hov:w - n<m - 1
   ·rw [xB hnw ink hrd hov] at h;cases h
   rw [rX hnw ink hrd hov] at h ⊢
   have h1:=Dj hrd
   have h2:=kU hrd
   cases f with
   | zero=>omega
   | succ f=>
    have ih:=IG w f (n+(m - 1)) (!ink) (s.drop l) (by rw [List.length_drop];omega) (by omega) t h
    show (List.replicate (m - 1) ink++_).length=_
    rw [List.length_append,List.length_replicate,ih];omega
theorem Fq (w:Nat):∀ (h:Nat) (s:Bytes),(dR w h s).2=true→(dR w h s).1.length=w*h
 | 0,s,_=>rfl
 | h+1,s,hq=>by
  have e:dR w (h+1) s=jO (dR w h) (fK w 0 false s):=rfl
  rw [e] at hq ⊢
  have hl:=IG w s.length 0 false s (Nat.le_refl _) (Nat.zero_le _)
  generalize fK w 0 false s=q at *
  obtain ⟨q1,q2⟩:=q
  cases q2 with
  | none=>cases hq
  | some t=>
   have hq2:(dR w h t).2=true:=hq
   have ih:=Fq w h t hq2
   have:=hl t rfl
   show (q1++(dR w h t).1).length=_
   rw [List.length_append,ih,Nat.mul_succ]
   dsimp only at this
   omega
theorem EH (w:Nat):∀ (h:Nat) (ab:List Bool) (s:Bytes),ab.length=w→(dw h ab s).2=true→(dw h ab s).1.length=w*h
 | 0,_,_,_,_=>rfl
 | h+1,ab,s,ha,hq=>by
  cases hr:dX true ab s with
  | none=>
   have e:dw (h+1) ab s=([],false):=by
    show (match dX true ab s with|none=>_|some (r,n)=>_)=_
    rw [hr]
   rw [e] at hq;cases hq
  | some z=>
   obtain ⟨r,n⟩:=z
   have e:dw (h+1) ab s=(r++(dw h r (s.drop n)).1,(dw h r (s.drop n)).2):=by
    show (match dX true ab s with|none=>_|some (r,n)=>_)=_
    rw [hr]
   rw [e] at hq ⊢
   have hrl:=(uD hr).1
   have ih:=EH w h r (s.drop n) (by omega) hq
   show (r++(dw h r (s.drop n)).1).length=_
   rw [List.length_append,ih,Nat.mul_succ];omega
theorem yY {kind:Int} {w h:Nat} {d:Bytes} (hq:(ni kind w h d).2=true):(ni kind w h d).1.length=w*h:=by
 unfold ni at hq ⊢
 split at hq
 ·rename_i h4;rw [if_pos h4];exact (xX w h d (w*h) (w*h)).P
 ·rename_i h4
  rw [if_neg h4]
  split at hq
  ·rename_i h1;rw [if_pos h1];exact Qi hq
  ·rename_i h1
   rw [if_neg h1]
   split at hq
   ·rename_i h2;rw [if_pos h2];exact Fq w h _ hq
   ·rename_i h2;rw [if_neg h2];exact EH w h _ _ List.length_replicate hq
theorem Ib (w h:Nat) (p:List Bool) (kind:Int):(headB w h p kind).length=9+(bU w h p kind).length:=by
 unfold headB
 simp only [List.length_append,aQ]
theorem oK (w h:Nat) (p:List Bool) (kind:Int):(dY w h p kind).length=17+(bU w h p kind).length:=by
 unfold dY
 rw [List.length_append,Ib,mJ];omega
theorem nZ (w h:Nat) (p:List Bool) (kind:Int):dY w h p kind=bV 1 kind.toNat++(bV 2 w++(bV 2 h++(bV 4 (bU w h p kind).length++(bU w h p kind++bY (headB w h p kind))))):=by
 unfold dY
 generalize bY (headB w h p kind)=S
 unfold headB
 simp only [List.append_assoc]
theorem take_len {a b:Bytes} {n:Nat} (h:a.length=n):(a++b).take n=a:=by rw [←h,List.take_left]
theorem kM {a b:Bytes} {n:Nat} (h:a.length=n):(a++b).drop n=b:=by rw [←h,List.drop_left]
theorem oJ {a b:Bytes} {n m:Nat} (h:a.length=n):(a++b).drop (n+m)=b.drop m:=by rw [←List.drop_drop,kM h]
theorem ZA (w h:Nat) (p:List Bool) {kind:Int} (hk:1≤kind∧kind≤4):(dK (dY w h p kind):Int)=kind:=by
 unfold dK
 rw [nZ,take_len (aQ _ _),ji,Nat.mod_eq_of_lt (by omega)];omega
theorem ZC {w:Nat} (h:Nat) (p:List Bool) (kind:Int) (hw:w≤4000):dW (dY w h p kind)=w:=by
 unfold dW
 rw [nZ,kM (aQ _ _),take_len (aQ _ _),ji,Nat.mod_eq_of_lt (by omega)]
theorem Zz (w:Nat) {h:Nat} (p:List Bool) (kind:Int) (hh:h≤4000):dH (dY w h p kind)=h:=by
 unfold dH
 rw [nZ,show (3:Nat)=1+2 from rfl,oJ (aQ _ _),kM (aQ _ _),take_len (aQ _ _),ji,Nat.mod_eq_of_lt (by omega)]
theorem ZB (w h:Nat) (p:List Bool) (kind:Int) (hd:(bU w h p kind).length≤100000000):dL (dY w h p kind)=(bU w h p kind).length:=by
 unfold dL
 rw [nZ,show (5:Nat)=1+(2+2) from rfl,oJ (aQ _ _),oJ (aQ _ _),kM (aQ _ _),take_len (aQ _ _),ji,Nat.mod_eq_of_lt (by omega)]
theorem Vt (w h:Nat) (p:List Bool) (kind:Int):dD (dY w h p kind)=bU w h p kind:=by
 unfold dD
 have hl:=oK w h p kind
 have e:(dY w h p kind).length - 17=(bU w h p kind).length:=by omega
 rw [e,nZ,show (9:Nat)=1+(2+(2+4)) from rfl,oJ (aQ _ _),oJ (aQ _ _),oJ (aQ _ _),kM (aQ _ _),take_len rfl]
theorem D9 (w h:Nat) (p:List Bool) (kind:Int):bY ((dY w h p kind).take ((dY w h p kind).length - 8))=(dY w h p kind).drop ((dY w h p kind).length - 8):=by
 have hl:=oK w h p kind
 have hl2:=Ib w h p kind
 have e:(dY w h p kind).length - 8=(headB w h p kind).length:=by omega
 rw [e]
 unfold dY
 rw [List.take_left,List.drop_left]
theorem Vu {w h:Nat} {p:List Bool} (g:DF w h p) {kind:Int} (hk:1≤kind∧kind≤4) (hs:(dY w h p kind).length≤2097152):jc (dY w h p kind)=⟨w,h,p,0⟩:=by
 have hl:=oK w h p kind
 have k1:=ZA w h p hk
 have k2:=ZC h p kind g.w1
 have k3:=Zz w p kind g.h1
 have k4:=ZB w h p kind (by omega)
 have k5:=Vt w h p kind
 have k6:=D9 w h p kind
 have hpg:yC (dY w h p kind)=(p,true):=by
  unfold yC
  rw [k1,k2,k3,k5]
  exact Us g.w0 g.w1 g.p hk
 unfold jc
 rw [if_neg (by omega),if_neg (by omega),if_neg (fun h=>h k6),if_neg (by omega)]
 have hsz:bF (w:Int) (h:Int)=0:=by
  have e:((w:Int)*(h:Int))=((w*h:Nat):Int):=(Int.natCast_mul w h).symm
  have g1:=g.w0
  have g2:=g.w1
  have g3:=g.h0
  have g4:=g.h1
  have g5:=g.wh
  exact Qz (by omega) (by omega) (by omega) (by omega) (by rw [e];omega)
 have hgood:LK (dY w h p kind):=⟨by rw [hpg],by rw [hpg,k1,k2,k3]⟩
 rw [k2,k3,if_neg (fun h=>h hsz),if_pos hgood,hpg]
theorem Ya {s:Bytes} (h:(jc s).e=0):DF (jc s).w (jc s).h (jc s).p∧(1≤(dK s:Int)∧(dK s:Int)≤4)∧dY (jc s).w (jc s).h (jc s).p (dK s)=s∧s.length≤2097152:=by
 unfold jc at h ⊢
 split at h
 ·cases h
 ·rename_i h1
  rw [if_neg h1]
  split at h
  ·cases h
  ·rename_i h2
   rw [if_neg h2]
   split at h
   ·cases h
   ·rename_i h3
    rw [if_neg h3]
    split at h
    ·cases h
    ·rename_i h4
     rw [if_neg h4]
     split at h
     ·rename_i h5;exact absurd h h5
     ·rename_i h5
      rw [if_neg h5]
      split at h
      ·rename_i h6
       rw [if_pos h6]
       have hz:=fE (Classical.not_not.1 h5)
       have e:((dW s:Int)*(dH s:Int))=((dW s*dH s:Nat):Int):=(Int.natCast_mul _ _).symm
       rw [e] at hz
       refine ⟨⟨by dsimp only;omega,by dsimp only;omega,by dsimp only;omega,by dsimp only;omega,by dsimp only;omega,yY h6.1⟩,by omega,h6.2,by omega⟩
      ·cases h
def qU (kind:Int) (w h:Nat) (d:Bytes):List Bool × Bool:=if kind=4 then lq w h d (w*h) else ni kind w h d
def BG (s:Bytes):List Bool × Bool:=qU (dK s) (dW s) (dH s) (dD s)
def Nz (s:Bytes):Prop:=(BG s).2=true∧dY (dW s) (dH s) (BG s).1 (dK s)=s
instance (s:Bytes):Decidable (Nz s):=inferInstanceAs (Decidable (_∧_))
theorem NY {kind:Int} {w h:Nat} {d:Bytes} (hq:(qU kind w h d).2=true):(qU kind w h d).1.length=w*h:=by
 unfold qU at hq ⊢
 split at hq
 ·rename_i h4;rw [if_pos h4];exact UQ w h d (w*h)
 ·rename_i h4;rw [if_neg h4];exact yY hq
theorem Xd {s:Bytes} (hw:0<dW s):(Nz s↔LK s)∧(Nz s→(BG s).1=(yC s).1):=by
 unfold Nz LK BG yC qU
 by_cases h4:(dK s:Int)=4
 ·rw [if_pos h4,h4]
  have hp:ni 4 (dW s) (dH s) (dD s)=((dN (dW s) (dH s) (dD s) (dW s*dH s) (dW s*dH s)).P,true):=by unfold ni;rw [if_pos rfl]
  rw [hp]
  dsimp only
  have hn:=(xX (dW s) (dH s) (dD s) (dW s*dH s) (dW s*dH s)).P
  refine ⟨⟨fun ⟨h1,h2⟩=>⟨rfl,by rw [←Oq h1];exact h2⟩,fun ⟨_,h2⟩=>?_⟩,fun ⟨h1,h2⟩=>Oq h1⟩
  have hd:dD s=sV (dW s) (dH s) (dN (dW s) (dH s) (dD s) (dW s*dH s) (dW s*dH s)).P:=by
   have e:=congrArg dD h2
   rw [Vt] at e
   exact e.symm
  generalize (dN (dW s) (dH s) (dD s) (dW s*dH s) (dW s*dH s)).P=P at *
  rw [hd,←hn,QH (dW s) (dH s) P hw]
  exact ⟨rfl,h2⟩
 ·rw [if_neg h4]
  exact ⟨Iff.rfl,fun _=>rfl⟩
end Go.Fv.H
/- What Take and Check answer, in plain words. -/
namespace Go.Fv.H
open Go Go.Proofs
def fU (s name:Bytes):DQ:=
 if (aZ s).2≠0 then D8 (aZ s).2
 else if dA name=true then
  match (aZ s).1.find? (fun x=>decide (x.n=name)) with
  | some x=>jc ((s.drop x.a).take x.k)
  | none=>D8 10
 else D8 5
def LC (s:Bytes):List En→Nat→Nat × Int
 | [],i=>(i,0)
 | x::l,i=>if (jc ((s.drop x.a).take x.k)).e≠0 then (i,(jc ((s.drop x.a).take x.k)).e) else LC s l (i+1)
def Jj (s:Bytes):Nat × Int:=if (aZ s).2≠0 then (0,(aZ s).2) else LC s (aZ s).1 0
def rowsOf {α:Type} (w:Nat) (p:Nat→Nat→α) (n:Nat):List α:=(List.range n).map fun k=>p (k%w) (k / w)
theorem Qv {α:Type} (w:Nat) (p:Nat→Nat→α) (n:Nat):(rowsOf w p n).length=n:=by simp [rowsOf]
theorem NW {α:Type} {w:Nat} (p:Nat→Nat→α) {x y:Nat} (hx:x<w):rowsOf w p (y*w+(x+1))=rowsOf w p (y*w+x)++[p x y]:=by
 unfold rowsOf
 rw [←Nat.add_assoc,List.range_succ,List.map_append]
 have e1:(y*w+x)%w=x:=by rw [Nat.mul_comm,Nat.mul_add_mod,Nat.mod_eq_of_lt hx]
 have e2:(y*w+x) / w=y:=by rw [Nat.mul_comm,Nat.mul_add_div (by omega),Nat.div_eq_of_lt hx,Nat.add_zero]
 simp [e1,e2]
set_option maxHeartbeats 1000000 in
theorem Yv (w h:Nat) (hw:w≤4000) (hh:h≤4000) (f:Nat) (caps:List AV) [I7 caps] (p:Nat→Nat→Bool) (hp:∀ x y:Nat,x<w→y<h→cO Tryz.prog f ([.int .i64 x,.int .i64 y]++caps) (.bool (p x y)) []) :
  aA Tryz.prog 52 [.int .i64 w,.int .i64 h,.fn f caps] (.agg [.int .i64 w,.int .i64 h,.own 0]) [(0,.row 4 (.bools (rowsOf w p (h*w))))]:=by
 refine aA.aG Tryz.func52 rfl (by decide) (by simp [Tryz.f52]) [.cell 6 24] rfl fun w0 T0 _=>?_
 simp only [Tryz.f52,au]
 simp only [go_sem]
 (repeat' first|(with_reducible refine wo.intro fun _=>?_)|((with_reducible refine bJ.intro ?_ ?_);(· first|omega|(with_reducible refine bJ.intro ?_ ?_<;>omega)|(simp;done)|(simp;omega)))|((with_reducible refine dF.i64 ?_ ?_ ?_);(· omega);(· omega))|((with_reducible refine Ite.decide (fun _=>?_) (fun _=>?_))<;>first|(exfalso;omega)|simp only [go_sem])|((with_reducible refine Ite.bool (fun _=>?_) (fun _=>?_))<;>simp only [go_sem])|(with_reducible refine And.intro ?_ ?_))
 refine aF.intro (fun y:Nat=>⟨33,[(14,.int .i64 y),(13,.int .i64 h),(7,.ptr 1 0),(6,.ptr 0 0),(0,.int .i64 w),(2,.fn f caps)],[(1,.box 24 [.int .i64 w,.int .i64 h,.own 2]),(0,.box 24 [.int .i64 0,.int .i64 0,.nilS]),(2,.row 4 (.bools (rowsOf w p (y*w))))],3⟩) (fun y=>y≤h) (fun y=>h - y) 0 ?_ (Nat.zero_le _) fun y hy=>?_
 ·refine aK.trans (aK.jH (P:=Tryz.prog) 1 2 4 e4 rfl rfl) (aK.ak rfl ?_ ?_)<;>simp only [go_sem,Int.natCast_succ,rowsOf,put,Nat.zero_mul,List.range_zero,List.map_nil]
 simp only [go_sem]
 (repeat' first|(with_reducible refine wo.intro fun _=>?_)|((with_reducible refine bJ.intro ?_ ?_);(· first|omega|(with_reducible refine bJ.intro ?_ ?_<;>omega)|(simp;done)|(simp;omega)))|((with_reducible refine dF.i64 ?_ ?_ ?_);(· omega);(· omega))|((with_reducible refine Ite.decide (fun _=>?_) (fun _=>?_))<;>first|(exfalso;omega)|simp only [go_sem])|((with_reducible refine Ite.bool (fun _=>?_) (fun _=>?_))<;>simp only [go_sem])|(with_reducible refine And.intro ?_ ?_))
 ·refine aF.intro (fun x:Nat=>⟨33,[(18,.int .i64 x),(17,.int .i64 w),(8,.int .i64 y),(14,.int .i64 y),(13,.int .i64 h),(7,.ptr 1 0),(6,.ptr 0 0),(0,.int .i64 w),(2,.fn f caps)],[(1,.box 24 [.int .i64 w,.int .i64 h,.own 2]),(0,.box 24 [.int .i64 0,.int .i64 0,.nilS]),(2,.row 4 (.bools (rowsOf w p (y*w+x))))],3⟩) (fun x=>x≤w) (fun x=>w - x) 0 ?_ (Nat.zero_le _) fun x hx=>?_
  ·refine aK.ak rfl ?_ ?_<;>simp only [go_sem,Int.natCast_succ]
  simp only [go_sem]
  (repeat' first|(with_reducible refine wo.intro fun _=>?_)|((with_reducible refine bJ.intro ?_ ?_);(· first|omega|(with_reducible refine bJ.intro ?_ ?_<;>omega)|(simp;done)|(simp;omega)))|((with_reducible refine dF.i64 ?_ ?_ ?_);(· omega);(· omega))|((with_reducible refine Ite.decide (fun _=>?_) (fun _=>?_))<;>first|(exfalso;omega)|simp only [go_sem])|((with_reducible refine Ite.bool (fun _=>?_) (fun _=>?_))<;>simp only [go_sem])|(with_reducible refine And.intro ?_ ?_))
  ·refine aN.lex [6,7,9] [(0,[1]),(1,[1])] (by kernel_rfl) (by kernel_rfl) ?_
   simp only [go_sem]
   (repeat' first|(with_reducible refine wo.intro fun _=>?_)|((with_reducible refine bJ.intro ?_ ?_);(· first|omega|(with_reducible refine bJ.intro ?_ ?_<;>omega)|(simp;done)|(simp;omega)))|((with_reducible refine dF.i64 ?_ ?_ ?_);(· omega);(· omega))|((with_reducible refine Ite.decide (fun _=>?_) (fun _=>?_))<;>first|(exfalso;omega)|simp only [go_sem])|((with_reducible refine Ite.bool (fun _=>?_) (fun _=>?_))<;>simp only [go_sem])|(with_reducible refine And.intro ?_ ?_))
   refine QV.intro (.bool (p x y)) ?_ ?_
   ·simp only [go_sem]
    refine ah.fr (args':=[.int .i64 x,.int .i64 y]++caps) (hp x y (by omega) (by omega)) (by simp [aS,aV,aH,OT]) 0 rfl (by simp [jd]) ?_
    simp only [go_sem]
   ·simp only [go_sem]
    have hb:y*w+x≤4000*4000+4000:=Nat.add_le_add (Nat.mul_le_mul (by omega) hw) (by omega)
    have hr:=Qv w p (y*w+x)
    have hs:=NW p (x:=x) (y:=y) (w:=w) (by omega)
    (repeat' first|(with_reducible refine wo.intro fun _=>?_)|((with_reducible refine bJ.intro ?_ ?_);(· first|omega|(with_reducible refine bJ.intro ?_ ?_<;>omega)|(simp;done)|(simp;omega)))|((with_reducible refine dF.i64 ?_ ?_ ?_);(· omega);(· omega))|((with_reducible refine Ite.decide (fun _=>?_) (fun _=>?_))<;>first|(exfalso;omega)|simp only [go_sem])|((with_reducible refine Ite.bool (fun _=>?_) (fun _=>?_))<;>simp only [go_sem])|(with_reducible refine And.intro ?_ ?_))
    refine ⟨x+1,aK.ak rfl ?_ ?_,by omega,by omega⟩<;>simp only [go_sem,Int.natCast_succ,hs]
    all_goals rfl
  ·refine ⟨y+1,aK.ak rfl ?_ ?_,by omega,by omega⟩<;>simp only [go_sem,Int.natCast_succ]
   have e:x=w:=by omega
   all_goals first|rfl|rw [e,Nat.succ_mul]
 ·have e:y=h:=by omega
  subst e
  refine aU.auto 1 ?_ rfl ?_<;>simp only [go_sem,Int.natCast_succ,Post]
  all_goals simp only [go_sem]
theorem Zq (a:Int) (m:Nat) (hm:m<2 ^ 63):0≤gJ .and .i64 a m∧gJ .and .i64 a m≤m:=by
 unfold gJ
 dsimp only
 have h1:(BitVec.ofInt 64 a &&& BitVec.ofInt 64 (m:Int)).toNat≤m:=by
  rw [BitVec.toNat_and]
  refine Nat.le_trans Nat.and_le_right ?_
  rw [BitVec.ofInt_natCast,BitVec.toNat_ofNat]
  exact Nat.mod_le _ _
 rw [show IntKind.i64.bits=64 from rfl]
 rw [jR (kC.2 ⟨by omega,by omega⟩)]
 omega
def pq (a:Int) (m:Nat):Nat:=(1+gJ .and .i64 a m).toNat
theorem Jl (a:Int) (m:Nat) (hm:m<2 ^ 63):1≤pq a m∧pq a m≤m+1∧1+gJ .and .i64 a m=((pq a m:Nat):Int):=by
 have:=Zq a m hm
 unfold pq;omega
def TT (p:List Bool) (w x y:Nat):Bool:=decide (0<p.length) && p.getD ((y*w+x)%p.length) false
set_option maxHeartbeats 2000000 in
theorem Ye (W H:Int) (p:List Bool) (w x y:Nat) (hw:w≤32) (hx:x<w) (hy:y<32) :
  aA Tryz.prog 53 [.int .i64 x,.int .i64 y,.cell [.int .i64 W,.int .i64 H,.ro (.bools p)],.cell [.int .i64 w]] (.bool (TT p w x y)) []:=by
 have b1:y*w≤32*32:=Nat.mul_le_mul (by omega) hw
 have hm:=Nat.mod_lt (y*w+x) (y:=p.length)
 refine aA.aG Tryz.func53 rfl (by decide) (by simp [Tryz.f53]) [.tmp 6] rfl fun w0 T0 _=>?_
 simp only [Tryz.f53,au]
 (repeat' with_reducible first|intro _|exact dn|refine rn ?_|refine ra ?_ ?_)
 refine aN.lex [] [] (by kernel_rfl) (by kernel_rfl) ?_
 (repeat' with_reducible first|intro _|refine rz ?_|refine ra ?_ ?_|omega|simp only [go_sem,up_mul,up_add,up_tmod,Int.toNat_natCast])
 refine aU.auto 0 ?_ rfl ?_<;>simp only [go_sem,Int.natCast_succ,Post,TT]
 simp
set_option maxHeartbeats 2000000 in
theorem ZM (W H:Int) (p:List Bool) :
  aA Tryz.prog 12 [.agg [.int .i64 W,.int .i64 H,.ro (.bools p)]] (.agg [.int .i64 (pq W 31),.int .i64 (pq H 31),.own 0]) [(0,.row 4 (.bools (rowsOf (pq W 31) (TT p (pq W 31)) (pq H 31*pq W 31))))]:=by
 obtain ⟨w1,w2,w3⟩:=Jl W 31 (by decide)
 obtain ⟨h1,h2,h3⟩:=Jl H 31 (by decide)
 replace w3:1+gJ .and .i64 W 31=((pq W 31:Nat):Int):=w3
 replace h3:1+gJ .and .i64 H 31=((pq H 31:Nat):Int):=h3
 generalize pq W 31=w at *
 generalize pq H 31=h at *
 haveI c1:I7 [.cell [.int .i64 W,.int .i64 H,.ro (.bools p)],.cell [.int .i64 w]]:=⟨rfl⟩
 have k1:=Yv w h (by omega) (by omega) 53 [.cell [.int .i64 W,.int .i64 H,.ro (.bools p)],.cell [.int .i64 w]] (TT p w)
  (fun x y hx hy=>cO.eY (Ye W H p w x y (by omega) hx (by omega)) rfl rfl)
 generalize rowsOf w (TT p w) (h*w)=out at *
 refine aA.aG Tryz.func12 rfl (by decide) (by simp [Tryz.f12]) [.cell 2 24] rfl fun w0 T0 _=>?_
 simp only [Tryz.f12,au]
 (repeat' with_reducible first|intro _|exact dn|refine rn ?_|refine ra ?_ ?_)
 refine aN.lex [8,9] [(0,[1]),(1,[1]),(2,[1]),(3,[1]),(4,[1,2]),(5,[1,2]),(6,[1,2]),(7,[1,2])] (by kernel_rfl) (by kernel_rfl) ?_
 (repeat' with_reducible first|intro _|refine rz ?_|refine ra ?_ ?_|omega|simp only [go_sem,w3,h3])
 refine ah.o k1 1 ?_
 (repeat' with_reducible first|intro _|exact dn|refine rn ?_|refine ra ?_ ?_)
 refine aU.auto 1 ?_ rfl ?_<;>simp only [go_sem,Int.natCast_succ,Post]
 all_goals simp only [go_sem]
end Go.Fv.H
/- Codes of pages are short. -/
namespace Go.Fv.H
open Go
theorem Rj:∀ (f n:Nat),n≤f→1≤n→(jm n).length≤n
 | 0,n,h,h1=>by omega
 | f+1,n,h,h1=>by
  by_cases h2:n<2
  ·have:n=1:=by omega
   subst this;rw [pR (by decide)];exact Nat.le_refl _
  ·have ih:=Rj f (n / 2) (by omega) (by omega)
   rw [rE h2,List.length_append]
   simp only [List.length_cons,List.length_nil]
   omega
theorem Jo (k:Nat):(dV (k+1)).length≤2*k+1:=by
 have:=Rj (k+1) (k+1) (Nat.le_refl _) (by omega)
 rw [CV];omega
theorem Wv (k:Nat):(aO.getD k []).length≤7:=by
 rcases k with _|_|_|_|_|_|_|k
 all_goals first|decide|exact Nat.zero_le _
theorem Xv {row above:List Bool} (hw:above.length=row.length) {p:Nat} (hp:p≤row.length) (ink:Bool):(aW row above p ink).c.length+7*p≤7*(aW row above p ink).p:=by
 have hs:=lD hw hp ink
 have h1:=jf hp
 have h2:=gW row p
 unfold aW at hs ⊢
 split
 ·rename_i hc
  rw [if_pos hc] at hs
  dsimp only at hs ⊢
  have:fH.length=4:=rfl
  omega
 ·rename_i hc
  rw [if_neg hc] at hs
  split
  ·rename_i hd
   rw [if_pos hd] at hs
   dsimp only at hs ⊢
   have:=Wv (dS row p+3 - fV above p (!ink))
   omega
  ·rename_i hd
   rw [if_neg hd] at hs
   dsimp only at hs ⊢
   have e:eH.length=3:=rfl
   have g1:=Jo (dS row p - (p - 1))
   have g2:=Jo (dS row (dS row p+1) - dS row p)
   rw [List.length_append,List.length_append,e]
   have h3:dS row p≤dS row (dS row p+1):=by
    by_cases h:dS row p<row.length
    ·have:=jf (r:=row) (i:=dS row p+1) (by omega);omega
    ·rw [iH (r:=row) (i:=dS row p+1) (by omega)];omega
   omega
theorem PS {row above:List Bool} (hw:above.length=row.length):(eX row above).length≤7*(row.length+1):=by
 have key:∀ (f p:Nat) (ink:Bool),row.length+1 - p≤f→p≤row.length+1→(mX row above p ink).length+7*p≤7*(row.length+1):=by
  intro f
  induction f with
  | zero=>intro p ink h hp;rw [kP (by omega)];simp;omega
  | succ f ih=>
   intro p ink h hp1
   by_cases hp:p≤row.length
   ·have hs:=lD hw hp ink
    have hsh:=Xv hw hp ink
    rw [oq hw hp,List.length_append]
    have:=ih (aW row above p ink).p (aW row above p ink).k (by omega) (by omega)
    omega
   ·rw [kP hp];simp;omega
 unfold eX
 split
 ·simp
 ·have:=key (row.length+1) 0 false (by omega) (by omega)
  omega
theorem Bl {w h:Nat} {p:List Bool} (hp:p.length=w*h):∀ y,y≤h→(eU w p y).length≤7*(w+1)*y
 | 0,_=>by simp [eU]
 | y+1,hy=>by
  have h1:=Bl hp y (by omega)
  have hl:=iD hp (y:=y) (by omega)
  have h2:=PS (row:=rowP w p y) (above:=sS w p y) (by rw [Dq hp (by omega),hl])
  rw [hl] at h2
  rw [pX,List.length_append,Nat.mul_succ];omega
def sumT (l:List Int):Nat:=(l.map Int.toNat).sum
theorem UJ {l:List Int} (hl:∀ x,x∈l→0≤x):(dM l).length≤2*sumT l+l.length:=by
 induction l with
 | nil=>simp [dM]
 | cons x l ih=>
  have h1:=ih fun y hy=>hl y (.tail _ hy)
  have h2:=hl x (.head _)
  have h3:=Jo x.toNat
  have e0:(x+1).toNat=x.toNat+1:=by omega
  have e:dM (x::l)=dV (x+1).toNat++dM l:=by unfold dM;simp
  have es:sumT (x::l)=x.toNat+sumT l:=rfl
  rw [e,List.length_append,List.length_cons,es,e0];omega
theorem aah {l:List Int} (hl:∀ x,x∈l→0≤x):(sumT l:Int)=uJ l:=by
 induction l with
 | nil=>rfl
 | cons x l ih=>
  have h1:=ih fun y hy=>hl y (.tail _ hy)
  have h2:=hl x (.head _)
  have es:sumT (x::l)=x.toNat+sumT l:=rfl
  have ei:uJ (x::l)=x+uJ l:=rfl
  rw [es,ei];omega
theorem Qw {r:List Bool} (h:0<r.length):uJ (iY r)=r.length:=by
 obtain ⟨l0,x,h1,h2⟩:=Aw r (r.length - 1) (by omega)
 have e:r.length - 1+1=r.length:=by omega
 rw [e] at h1 h2
 have hr:iY r=l0++[x]:=h1
 have:=h2.sum
 rw [hr,zh];exact this
theorem FD {w h:Nat} (hw0:0<w) {p:List Bool} (hp:p.length=w*h):∀ y,y≤h→(je w p y).length≤3*(w+1)*y
 | 0,_=>by simp [je]
 | y+1,hy=>by
  have h1:=FD hw0 hp y (by omega)
  have hl:=iD hp (y:=y) (by omega)
  obtain ⟨h2,h3⟩:=vN (rowP w p y)
  have h4:=UJ (l:=iY (rowP w p y)) fun x hx=>(h3 x hx).1
  have h5:=aah (l:=iY (rowP w p y)) fun x hx=>(h3 x hx).1
  have h6:=Qw (r:=rowP w p y) (by omega)
  rw [rZ,List.length_append,Nat.mul_succ]
  omega
theorem LM {w h:Nat} {p:List Bool} (g:DF w h p) (kind:Int):(bU w h p kind).length≤1048580:=by
 have hw0:=g.w0
 have hh:=g.h1
 have hwh:=g.wh
 have hp:=g.p
 have b0:(w+1)*h≤1052576:=by rw [Nat.add_mul,Nat.one_mul];omega
 have b1:3*(w+1)*h≤3157728:=by rw [Nat.mul_assoc];omega
 have b2:7*(w+1)*h≤7368032:=by rw [Nat.mul_assoc];omega
 have h1:=FD hw0 hp h (Nat.le_refl _)
 have h2:=Bl hp h (Nat.le_refl _)
 have h3:=QZ w h p
 unfold bU
 split
 ·rw [ou,jT];omega
 ·split
  ·omega
  ·split
   ·rw [ou];omega
   ·rw [ou];omega
end Go.Fv.H
