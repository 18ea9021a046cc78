/-
  A part of the proof of the claim: walks over the program's functions and the plain laws that these need. No condition of its own.
-/
import Derived.Test.YtodlgmmbfbiilaaGreatDoorHArcMCardPart14
import Derived.Test.YtodlgmmbfbiilaaGreatDoorHArcMCardPart16
set_option linter.unusedSimpArgs false
set_option linter.unusedVariables false
set_option linter.unnecessarySimpa false
set_option maxRecDepth 8000
/- ArchivesMatch: the law. -/
namespace Go.Fv.H
open Go Go.Proofs
theorem OT {l:List En} (h:(l.map En.n).Nodup) {x:En} (hx:x∈l):l.find? (fun y=>decide (y.n=x.n))=some x:=by
 induction l with
 | nil=>cases hx
 | cons y l ih=>
  rw [List.map_cons,List.nodup_cons] at h
  rw [List.find?_cons]
  rcases List.mem_cons.1 hx with rfl|hx
  ·simp
  ·have hne:y.n≠x.n:=fun e=>h.1 (e▸List.mem_map.2 ⟨x,hx,rfl⟩)
   rw [decide_eq_false hne]
   exact ih h.2 hx
theorem QJ {l:List NP} (kind:Int) {i:Nat} (hi:i<l.length):(kC kind l).getD i ([],[])=((l.getD i NP.zero).n,vY kind (l.getD i NP.zero)):=by
 unfold kC
 rw [List.getD_eq_getElem?_getD,List.getElem?_map,List.getD_eq_getElem?_getD,List.getElem?_eq_getElem hi];rfl
theorem WW {l:List NP} {kind:Int} (h:(jT l kind).2=0) {i:Nat} (hi:i<l.length) :
  gV (jT l kind).1 (l.getD i NP.zero).n=⟨(l.getD i NP.zero).W.toNat,(l.getD i NP.zero).H.toNat,(l.getD i NP.zero).p,0⟩:=by
 obtain ⟨e,hA,hP,hl,hk⟩:=BZ h
 rw [e]
 dsimp only
 obtain ⟨hO,hL⟩:=Hu hA
 have hx:l.getD i NP.zero∈l:=by rw [getD_lt hi];exact List.getElem_mem hi
 have hic:i<(kC kind l).length:=by rw [qZ];exact hi
 obtain ⟨a1,a2⟩:=KF hic
 have hci:=QJ kind hi
 unfold gV
 rw [og hL,hO]
 dsimp only
 rw [if_neg (by simp),if_pos (hP.name _ hx)]
 have hlen:(fG ((kC kind l).map fun x=>(x.1,x.2.length)) (hdB (kC kind l)).length).length=(kC kind l).length:=by rw [eX,List.length_map]
 have hnd:((fG ((kC kind l).map fun x=>(x.1,x.2.length)) (hdB (kC kind l)).length).map En.n).Nodup:=by
  rw [zF,List.map_map]
  exact hA.nodup
 generalize fG ((kC kind l).map fun x=>(x.1,x.2.length)) (hdB (kC kind l)).length=M at *
 have hm:M.getD i En.zero∈M:=by rw [getD_lt (by omega)];exact List.getElem_mem (by omega)
 have hf:=OT hnd hm
 rw [a1,hci] at hf
 dsimp only at hf
 rw [hf]
 dsimp only
 rw [hci] at a2
 dsimp only at a2
 rw [a2]
 exact KQ hk (hP.ok _ hx)
theorem Xz {l:List NP} {kind:Int} (h:(jT l kind).2=0):SK (jT l kind).1=(l.length,0)∧(bU (jT l kind).1).2=0:=by
 obtain ⟨e,hA,hP,hl,hk⟩:=BZ h
 rw [e]
 dsimp only
 obtain ⟨hO,hL⟩:=Hu hA
 have h0:(bU (lS (kC kind l))).2=0:=by rw [og hL]
 refine ⟨?_,h0⟩
 unfold SK
 rw [if_neg (fun h=>h h0),og hL,hO]
 dsimp only
 have hlen:(fG ((kC kind l).map fun x=>(x.1,x.2.length)) (hdB (kC kind l)).length).length=l.length:=by rw [eX,List.length_map,qZ]
 have hall:∀ i,i<l.length→(qo (((lS (kC kind l)).drop ((fG ((kC kind l).map fun x=>(x.1,x.2.length)) (hdB (kC kind l)).length).getD i En.zero).a).take ((fG ((kC kind l).map fun x=>(x.1,x.2.length)) (hdB (kC kind l)).length).getD i En.zero).k)).e=0:=by
  intro i hi
  have hic:i<(kC kind l).length:=by rw [qZ];exact hi
  have hx:l.getD i NP.zero∈l:=by rw [getD_lt hi];exact List.getElem_mem hi
  have hci:=QJ kind hi
  obtain ⟨a1,a2⟩:=KF hic
  rw [a1]
  dsimp only
  rw [a2,hci]
  dsimp only
  rw [KQ hk (hP.ok _ hx)]
 generalize fG ((kC kind l).map fun x=>(x.1,x.2.length)) (hdB (kC kind l)).length=M at *
 have key:∀ j i,j+i=M.length→KX (lS (kC kind l)) (M.drop i) i=(M.length,0):=by
  intro j
  induction j with
  | zero=>
   intro i hi
   rw [List.drop_of_length_le (by omega)]
   unfold KX
   rw [show i=M.length by omega]
  | succ j ih=>
   intro i hi
   have hil:i<M.length:=by omega
   rw [List.drop_eq_getElem_cons hil,←getD_lt (d:=En.zero) hil]
   unfold KX
   rw [if_neg (fun h=>h (hall i (by omega)))]
   exact ih (i+1) (by omega)
 have:=key M.length 0 (by omega)
 rw [List.drop_zero,hlen] at this
 exact this
theorem Za (s name:Bytes):(gV s name).e≠0→(gV s name).w=0∧(gV s name).h=0∧(gV s name).p=[]:=by
 intro h
 unfold gV at h ⊢
 split
 ·exact ⟨rfl,rfl,rfl⟩
 ·rename_i h1
  rw [if_neg h1] at h
  split
  ·rename_i h2
   rw [if_pos h2] at h
   split
   ·rename_i x hx
    rw [hx] at h
    exact U6 _ h
   ·exact ⟨rfl,rfl,rfl⟩
  ·exact ⟨rfl,rfl,rfl⟩
theorem Om (s name:Bytes):aA Tryz.prog 17 [.agg [.int .i64 (gV s name).w,.int .i64 (gV s name).h,.ro (.bools (gV s name).p)],.int .i64 (gV s name).e,.agg [.int .i64 (gV s name).w,.int .i64 (gV s name).h,.ro (.bools (gV s name).p)],.int .i64 (gV s name).e] (.bool true) []:=
 Ol _ _ _ _ (Za s name)
set_option maxHeartbeats 16000000 in
theorem zx (l0:List NP) (kind:Int) (name:Bytes) (raw:Bool):aA Tryz.prog 9 [.ro (Kw l0),.int .i64 kind,.str name,.bool raw] (.bool true) []:=by
 have kn:=named_ok l0
 obtain ⟨L,hL⟩:∃ L,(if raw=true then l0 else nmd l0)=L:=⟨_,rfl⟩
 have kp:=Ya L kind
 have kq:=Pv L kind
 have hpl:(jT L kind).2=0→(jT L kind).1.length≤4194304:=fun h=>by
  obtain ⟨e,hA,_⟩:=BZ h
  rw [e];exact hA.long
 have hck:=Xz (l:=L) (kind:=kind)
 have htk:=WW (l:=L) (kind:=kind)
 have hok:(jT L kind).2=0→Au L:=fun h=>(BZ h).2.2.1
 generalize jT L kind=R at *
 obtain ⟨A,e⟩:=R
 dsimp only at kp kq hpl hck htk hok
 refine aA.aG Tryz.func9 rfl (by decide) (by simp [Tryz.f9]) [.tmp 8] rfl fun w0 T0 _=>?_
 simp only [Tryz.f9,au]
 (repeat' with_reducible first|intro _|exact dn|refine rn ?_|refine ra ?_ ?_)
 refine ah.k TD ?_
 cases raw
 case' false=>
  rw [if_neg (by decide)] at hL
  rw [hL] at kn
  (repeat' with_reducible first|intro _|exact dn|refine rn ?_|refine ra ?_ ?_)
  refine ah.Ug (.ro (Kw L)) kn (by simp only [aI,aQ,bJ,aU,aH,List.drop_zero,lk,reduceIte,reduceCtorEq,Nat.reduceEqDiff,Option.some.injEq,Item.row.injEq,Item.box.injEq,AV.ro.injEq,exists_eq_left,exists_and_left,exists_eq_left',exists_eq_right,and_assoc,and_true,true_and,List.cons.injEq,exists_eq',exists_eq]) (by simp [dG,aQ,aU,bJ,aH,lk,aI]) (by simp [dV,dh,aI]) ?_
  (repeat' with_reducible first|intro _|exact dn|refine rn ?_|refine ra ?_ ?_)
 case' true=>
  rw [if_pos rfl] at hL
  rw [hL]
  by_cases h0:L.length=0
  case' pos=>
   have hLn:L=[]:=List.eq_nil_of_length_eq_zero h0
   have hm0:L.map NP.av=[]:=by rw [hLn];rfl
   have d0:decide ((0:Int)<(L.length:Int))=false:=decide_eq_false (by omega)
   (repeat' with_reducible first|intro _|exact dn|refine rn ?_|refine ra ?_ ?_)
   refine aN.lex [] [] (by kernel_rfl) (by kernel_rfl) ?_
   (repeat' with_reducible first|intro _|refine rz ?_|refine ra ?_ ?_|omega|simp only [go_sem,List.length_map,d0,hm0,List.getD_nil,List.drop_nil,List.take_nil])
   refine QV.intro (.int .i64 0) ?_ ?_
   ·(repeat' with_reducible first|intro _|refine rz ?_|refine ra ?_ ?_|omega|simp only [go_sem,d0])
   (repeat' with_reducible first|intro _|refine rz ?_|refine ra ?_ ?_|omega|simp only [go_sem,List.length_map,d0,hm0,List.getD_nil,List.drop_nil,List.take_nil])
   refine QV.intro (.int .i64 0) ?_ ?_
   ·(repeat' with_reducible first|intro _|refine rz ?_|refine ra ?_ ?_|omega|simp only [go_sem,d0])
   (repeat' with_reducible first|intro _|refine rz ?_|refine ra ?_ ?_|omega|simp only [go_sem,List.length_map,d0,hm0,List.getD_nil,List.drop_nil,List.take_nil])
   refine QV.intro (.int .i64 0) ?_ ?_
   ·(repeat' with_reducible first|intro _|refine rz ?_|refine ra ?_ ?_|omega|simp only [go_sem,d0])
   (repeat' with_reducible first|intro _|refine rz ?_|refine ra ?_ ?_|omega|simp only [go_sem,List.length_map,d0,hm0,List.getD_nil,List.drop_nil,List.take_nil])
  case' neg=>
   have d0:decide ((0:Int)<(L.length:Int))=true:=decide_eq_true (by omega)
   have hee:=rP L (show 0<L.length by omega)
   have kb:=EM (L.getD 0 NP.zero).W (L.getD 0 NP.zero).H (L.getD 0 NP.zero).p
   have hnz:VT (L.getD 0 NP.zero)=jy (L.getD 0 NP.zero).W (L.getD 0 NP.zero).H (L.getD 0 NP.zero).p.length:=rfl
   have hno:=VU (x:=L.getD 0 NP.zero)
   rw [hnz] at hno
   generalize L.getD 0 NP.zero=x at *
   obtain ⟨xn,xw,xh,xp⟩:=x
   dsimp only at hee kb hno
   generalize jy xw xh xp.length=E at *
   by_cases hE:E=0
   case' pos=>
    have dE:decide (E=0)=true:=decide_eq_true hE
    have hg:=hno hE
    have hm:1≤xw*xh∧xw*xh≤1048576:=by
     have g1:=zo.w0 hg
     have g2:=zo.h0 hg
     have g3:=zo.wh hg
     dsimp only at g1 g2 g3
     have e:xw*xh=((xw.toNat*xh.toNat:Nat):Int):=by
      rw [Int.natCast_mul];congr 1<;>omega
     have:1*1≤xw.toNat*xh.toNat:=Nat.mul_le_mul g1 g2
     omega
    (repeat' with_reducible first|intro _|exact dn|refine rn ?_|refine ra ?_ ?_)
    refine aN.lex [] [] (by kernel_rfl) (by kernel_rfl) ?_
    (repeat' with_reducible first|intro _|refine rz ?_|refine ra ?_ ?_|omega|simp only [go_sem,List.length_map,d0,hee,dw])
    refine QV.intro (.int .i64 E) ?_ ?_
    ·(repeat' with_reducible first|intro _|refine rz ?_|refine ra ?_ ?_|omega|simp only [go_sem,d0])
     refine ah.k kb ?_
     (repeat' with_reducible first|intro _|exact dn|refine rn ?_|refine ra ?_ ?_)
    (repeat' with_reducible first|intro _|refine rz ?_|refine ra ?_ ?_|omega|simp only [go_sem,List.length_map,d0,hee,dw,dE,Bool.true_and,Bool.and_true])
   case' neg=>
    have dE:decide (E=0)=false:=decide_eq_false hE
    (repeat' with_reducible first|intro _|exact dn|refine rn ?_|refine ra ?_ ?_)
    refine aN.lex [] [] (by kernel_rfl) (by kernel_rfl) ?_
    (repeat' with_reducible first|intro _|refine rz ?_|refine ra ?_ ?_|omega|simp only [go_sem,List.length_map,d0,hee,dw])
    refine QV.intro (.int .i64 E) ?_ ?_
    ·(repeat' with_reducible first|intro _|refine rz ?_|refine ra ?_ ?_|omega|simp only [go_sem,d0])
     refine ah.k kb ?_
     (repeat' with_reducible first|intro _|exact dn|refine rn ?_|refine ra ?_ ?_)
    (repeat' with_reducible first|intro _|refine rz ?_|refine ra ?_ ?_|omega|simp only [go_sem,List.length_map,d0,hee,dw,dE,Bool.true_and,Bool.and_true])
 all_goals first|(refine aT.auto 0 ?_ rfl ?_<;>simp only [go_sem,Int.natCast_succ,Post];done)|skip
 all_goals
  refine ah.k kp ?_
  (repeat' with_reducible first|intro _|exact dn|refine rn ?_|refine ra ?_ ?_)
  refine ah.k kq ?_
  by_cases he:e=0
  rotate_left
  ·have f1:(e=0)=False:=eq_false he
   (repeat' with_reducible first|intro _|refine rz ?_|refine ra ?_ ?_|omega|simp only [go_sem,f1])
   refine aT.auto 0 ?_ rfl ?_<;>simp only [go_sem,Int.natCast_succ,Post]
  obtain ⟨c1,c2⟩:=hck he
  have hAl:=hpl he
  have hP:=hok he
  have htk2:=fun i (hi:i<L.length)=>htk he (i:=i) hi
  subst he
  have kl:=Jf A (by omega)
  have kr:=EO A (by omega)
  have kc:=UZ A (by omega)
  rw [c1] at kc
  rw [c2] at kl kr
  have kE:=OO (bU A).1
  generalize (bU A).1=Q at *
  (repeat' with_reducible first|intro _|exact dn|refine rn ?_|refine ra ?_ ?_)
  refine ah.f kl 0 ?_
  (repeat' with_reducible first|intro _|exact dn|refine rn ?_|refine ra ?_ ?_)
  refine ah.f kr 0 ?_
  (repeat' with_reducible first|intro _|exact dn|refine rn ?_|refine ra ?_ ?_)
  refine ah.k kc ?_
  (repeat' with_reducible first|intro _|exact dn|refine rn ?_|refine ra ?_ ?_)
  refine ah.k kE ?_
  (repeat' with_reducible first|intro _|refine rz ?_|refine ra ?_ ?_|omega|simp only [go_sem,List.length_map])
  refine aF.intro (fun j:Nat=>⟨153,[(115,.int .i64 j),(114,.int .i64 L.length),(113,.ro (Kw L)),(9,.str A),(2,.str name)],[],0⟩) (fun j=>j≤L.length) (fun j=>L.length - j) 0 ?_ (Nat.zero_le _) fun j hj=>?_
  ·refine aK.ak rfl ?_ ?_<;>simp only [go_sem,Int.natCast_succ]
  by_cases hlt:j<L.length
  ·have f7:((j:Int)<(L.length:Int))=True:=eq_true (by omega)
   have hee:=rP L hlt
   have ht:=htk2 j hlt
   have hx:=hP.ok (L.getD j NP.zero) (by rw [getD_lt hlt];exact List.getElem_mem hlt)
   have hxw:=hx.w
   generalize L.getD j NP.zero=x at *
   obtain ⟨xn,xw,xh,xp⟩:=x
   dsimp only at hee ht hxw
   have kt:=Sj A xn (by omega)
   rw [ht] at kt
   unfold U7 at kt
   dsimp only at kt
   rw [hxw.1,hxw.2] at kt
   have ks:=Bz xw xh xw xh xp xp
   rw [decide_eq_true ⟨rfl,rfl,rfl⟩] at ks
   (repeat' with_reducible first|intro _|refine rz ?_|refine ra ?_ ?_|omega|simp only [go_sem,f7,hee,dw,List.length_map])
   all_goals
    refine ah.f kt 0 ?_
    (repeat' with_reducible first|intro _|exact dn|refine rn ?_|refine ra ?_ ?_)
    refine ah.k ks ?_
    (repeat' with_reducible first|intro _|exact dn|refine rn ?_|refine ra ?_ ?_)
    refine ⟨j+1,aK.ak rfl ?_ ?_,by omega,by omega⟩<;>simp only [go_sem,Int.natCast_succ]
  have f7:((j:Int)<(L.length:Int))=False:=eq_false (by omega)
  have k1:=Sj A name (by omega)
  have k2:=PW A name (by omega)
  have k3:=Om A name
  unfold U7 at k1 k2
  generalize gV A name=T at *
  (repeat' with_reducible first|intro _|refine rz ?_|refine ra ?_ ?_|omega|simp only [go_sem,f7])
  refine ah.f k1 0 ?_
  (repeat' with_reducible first|intro _|exact dn|refine rn ?_|refine ra ?_ ?_)
  refine ah.f k2 0 ?_
  (repeat' with_reducible first|intro _|exact dn|refine rn ?_|refine ra ?_ ?_)
  refine ah.k k3 ?_
  (repeat' with_reducible first|intro _|exact dn|refine rn ?_|refine ra ?_ ?_)
  refine aT.auto 0 ?_ rfl ?_<;>simp only [go_sem,Int.natCast_succ,Post]
end Go.Fv.H
